/- The walks of the document's in, out and of Light; conditions: none beyond their hypotheses. -/
import Derived.Test.YthhhiiagppckhaaGreatDoorMgMs12
import Derived.Test.YthhhiiagppckhaaGreatDoorMgMp
set_option linter.unusedSimpArgs false
set_option linter.unusedVariables false
section
namespace Go.Proofs.YthhhiiagppckhaaGreatDoor
open Go.RowKit Go.Proofs.U
set_option linter.unusedVariables false

/-- what lies in memory is not too long -/
def Ms.Big (m : Ms.Msg) : Prop := m.path.length ≤ 140737488355328 ∧ m.data.length ≤ 140737488355328 ∧ m.rows.length ≤ 140737488355328 ∧ ∀ x ∈ m.rows, x.path.length ≤ 140737488355328
set_option maxHeartbeats 1000000 in
theorem rin_any (l : List UInt8) (c : UInt8) (hl : l.length ≤ 1000000) (w : World) : Calls Tryz.prog 25 #[.string (strOf l), .int .u8 (c.toNat : Int)] w fun e w' => e = .returned (.bool (decide (c ∈ l))) ∧ w' = w := by
  obtain ⟨R, hR⟩ : ∃ R, R = decide (c ∈ l) := ⟨_, rfl⟩
  rw [← hR]
  have HR := Lib.hid hR
  clear hR
  have HS := Lib.hid (str_size l)
  go_enter Tryz.func25, Tryz.ntmps25
  go_wp2_with fail
  go_loopg [5] l.length (fun r i wr => ∃ k : Nat, r + k = l.length ∧ i = .int .i64 k ∧ Hid (c ∉ l.take k) ∧ wr = w)
  case atStart => exact ⟨0, by omega, rfl, Lib.hid (by simp), rfl⟩
  case round =>
    obtain ⟨k, hgk, rfl, HN, rfl⟩ := hrel
    have hsz := HS.out
    by_cases hlt : k < l.length
    · obtain ⟨d, hd⟩ : ∃ d, l[k]? = some d := ⟨_, List.getElem?_eq_getElem hlt⟩
      have hix : ∀ W, (Instr.index 9 (.string (strOf l)) (.int .i64 (k : Int))).run Tryz.prog W = .ok (.int .u8 (d.toNat : Int)) W := fun W => idx_at hd
      have HD := Lib.hid hd
      have i1 : (k : Int) < ((strOf l).size : Int) := by omega
      clear hd hsz
      by_cases hdc : d = c
      · subst hdc
        go_wp2_with fail
        go_ret
        have hE := HR.out.trans (decide_eq_true (List.mem_of_getElem? HD.out))
        subst hE
        exact ⟨rfl, rfl⟩
      · have hne : ((d.toNat : Int) == (c.toNat : Int)) = false := by
          rw [beq_eq_false_iff_ne]
          intro e
          exact hdc (UInt8.toNat_inj.1 (by omega))
        go_wp2_with fail
        go_roundg (gk - 1)
        case measure => omega
        case rel =>
          refine ⟨k + 1, by omega, by go_num, Lib.hid ?_, rfl⟩
          rw [List.take_add_one, HD.out, List.mem_append]
          rintro (h | h)
          · exact HN.out h
          · simp at h; exact hdc h.symm
    · have i1 : ¬ ((k : Int) < ((strOf l).size : Int)) := by omega
      clear hsz
      go_wp2_with fail
      go_ret
      have h := HN.out
      rw [List.take_of_length_le (by omega)] at h
      have hE := HR.out.trans (decide_eq_false h)
      subst hE
      exact ⟨rfl, rfl⟩
set_option maxHeartbeats 1000000 in
theorem rout_any (l : List UInt8) (c : UInt8) (x : Int) (most : Nat) (hl : l.length ≤ 1000000) (w : World) : Calls Tryz.prog 14 #[.string (strOf l), .int .u8 (c.toNat : Int), .int .i64 x, .int .i64 (most : Int)] w fun e w' => e = .returned (.bool (Ms.outB l c x most)) ∧ w' = w := by
  have hin := rin_any l c hl w
  obtain ⟨R, hR⟩ : ∃ R, R = Ms.outB l c x most := ⟨_, rfl⟩
  rw [← hR]
  have HR := Lib.hid hR
  clear hR
  obtain ⟨b, hb⟩ : ∃ b, b = decide (c ∈ l) := ⟨_, rfl⟩
  rw [← hb] at hin
  have HB := Lib.hid hb
  clear hb
  have hE : R = (b && !(Ms.inb x most)) := by rw [HR.out, HB.out]; rfl
  have HE := Lib.hid hE
  clear hE HR HB
  cases b with
  | false =>
    go_enter Tryz.func14, Tryz.ntmps14
    go_wp2_with (go_at_call 25; refine hin.mono ?_; rintro e w' ⟨rfl, rfl⟩)
    go_ret
    have h := HE.out
    subst h
    exact ⟨rfl, rfl⟩
  | true =>
    by_cases h1 : x < 0
    · go_enter Tryz.func14, Tryz.ntmps14
      go_wp2_with (go_at_call 25; refine hin.mono ?_; rintro e w' ⟨rfl, rfl⟩)
      go_ret
      have h : R = true := by rw [HE.out, Ms.inb, decide_eq_false (by omega)]; rfl
      subst h
      exact ⟨rfl, rfl⟩
    · by_cases h2 : (most : Int) < x
      · go_enter Tryz.func14, Tryz.ntmps14
        go_wp2_with (go_at_call 25; refine hin.mono ?_; rintro e w' ⟨rfl, rfl⟩)
        go_ret
        have h : R = true := by rw [HE.out, Ms.inb, decide_eq_false (by omega)]; rfl
        subst h
        refine ⟨?_, rfl⟩
        simp [h1, h2]
      · go_enter Tryz.func14, Tryz.ntmps14
        go_wp2_with (go_at_call 25; refine hin.mono ?_; rintro e w' ⟨rfl, rfl⟩)
        go_ret
        have h : R = false := by rw [HE.out, Ms.inb, decide_eq_true (by omega)]; rfl
        subst h
        refine ⟨?_, rfl⟩
        simp [h1, h2]
/-- bytes of a message's texts -/
def lsz (m : Ms.Msg) : Nat := m.path.length + m.data.length + (m.rows.map fun x => x.path.length).sum
def lightM (m : Ms.Msg) : Bool := decide (lsz m ≤ 5000) && decide (m.rows.length ≤ 100)
end Go.Proofs.YthhhiiagppckhaaGreatDoor
end
