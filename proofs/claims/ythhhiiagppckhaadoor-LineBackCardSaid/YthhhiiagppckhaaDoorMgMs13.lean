/- The walks of the document's in, out and of Light; conditions: none beyond their hypotheses. The walk of Light; conditions: none beyond its hypotheses. -/
import Derived.Test.YthhhiiagppckhaaDoorMgMs12
import Derived.Test.YthhhiiagppckhaaDoorMgMp
set_option linter.unusedSimpArgs false
set_option linter.unusedVariables false
section
namespace Go.Proofs.YthhhiiagppckhaaDoor
open Go.RowKit Go.Proofs.U
set_option linter.unusedVariables false

set_option maxHeartbeats 1000000 in
theorem rin_any (l : List UInt8) (c : UInt8) (hl : l.length ≤ 1000000) (w : World) : Calls Tryd.prog 102 #[.string (strOf l), .int .u8 (c.toNat : Int)] w fun e w' => e = .returned (.bool (decide (c ∈ l))) ∧ w' = w := by
  obtain ⟨R, hR⟩ : ∃ R, R = decide (c ∈ l) := ⟨_, rfl⟩
  rw [← hR]
  have HR := Lib.hid hR
  clear hR
  have HS := Lib.hid (str_size l)
  go_enter Tryd.func102, Tryd.ntmps102
  go_wp2_with fail
  go_loopg [5] l.length (fun r i wr => ∃ k : Nat, r + k = l.length ∧ i = .int .i64 k ∧ Hid (c ∉ l.take k) ∧ wr = w)
  case atStart => exact ⟨0, by omega, rfl, Lib.hid (by simp), rfl⟩
  case round =>
    obtain ⟨k, hgk, rfl, HN, rfl⟩ := hrel
    have hsz := HS.out
    by_cases hlt : k < l.length
    · obtain ⟨d, hd⟩ : ∃ d, l[k]? = some d := ⟨_, List.getElem?_eq_getElem hlt⟩
      have hix : ∀ W, (Instr.index 9 (.string (strOf l)) (.int .i64 (k : Int))).run Tryd.prog W = .ok (.int .u8 (d.toNat : Int)) W := fun W => idx_at hd
      have HD := Lib.hid hd
      have i1 : (k : Int) < ((strOf l).size : Int) := by omega
      clear hd hsz
      by_cases hdc : d = c
      · subst hdc
        go_wp2_with fail
        go_ret
        have hE := HR.out.trans (decide_eq_true (List.mem_of_getElem? HD.out))
        subst hE
        exact ⟨rfl, rfl⟩
      · have hne : ((d.toNat : Int) == (c.toNat : Int)) = false := by
          rw [beq_eq_false_iff_ne]
          intro e
          exact hdc (UInt8.toNat_inj.1 (by omega))
        go_wp2_with fail
        go_roundg (gk - 1)
        case measure => omega
        case rel =>
          refine ⟨k + 1, by omega, by go_num, Lib.hid ?_, rfl⟩
          rw [List.take_add_one, HD.out, List.mem_append]
          rintro (h | h)
          · exact HN.out h
          · simp at h; exact hdc h.symm
    · have i1 : ¬ ((k : Int) < ((strOf l).size : Int)) := by omega
      clear hsz
      go_wp2_with fail
      go_ret
      have h := HN.out
      rw [List.take_of_length_le (by omega)] at h
      have hE := HR.out.trans (decide_eq_false h)
      subst hE
      exact ⟨rfl, rfl⟩
set_option maxHeartbeats 1000000 in
theorem rout_any (l : List UInt8) (c : UInt8) (x : Int) (most : Nat) (hl : l.length ≤ 1000000) (w : World) : Calls Tryd.prog 77 #[.string (strOf l), .int .u8 (c.toNat : Int), .int .i64 x, .int .i64 (most : Int)] w fun e w' => e = .returned (.bool (Ms.outB l c x most)) ∧ w' = w := by
  have hin := rin_any l c hl w
  obtain ⟨R, hR⟩ : ∃ R, R = Ms.outB l c x most := ⟨_, rfl⟩
  rw [← hR]
  have HR := Lib.hid hR
  clear hR
  obtain ⟨b, hb⟩ : ∃ b, b = decide (c ∈ l) := ⟨_, rfl⟩
  rw [← hb] at hin
  have HB := Lib.hid hb
  clear hb
  have hE : R = (b && !(Ms.inb x most)) := by rw [HR.out, HB.out]; rfl
  have HE := Lib.hid hE
  clear hE HR HB
  cases b with
  | false =>
    go_enter Tryd.func77, Tryd.ntmps77
    go_wp2_with (go_at_call 102; refine hin.mono ?_; rintro e w' ⟨rfl, rfl⟩)
    go_ret
    have h := HE.out
    subst h
    exact ⟨rfl, rfl⟩
  | true =>
    by_cases h1 : x < 0
    · go_enter Tryd.func77, Tryd.ntmps77
      go_wp2_with (go_at_call 102; refine hin.mono ?_; rintro e w' ⟨rfl, rfl⟩)
      go_ret
      have h : R = true := by rw [HE.out, Ms.inb, decide_eq_false (by omega)]; rfl
      subst h
      exact ⟨rfl, rfl⟩
    · by_cases h2 : (most : Int) < x
      · go_enter Tryd.func77, Tryd.ntmps77
        go_wp2_with (go_at_call 102; refine hin.mono ?_; rintro e w' ⟨rfl, rfl⟩)
        go_ret
        have h : R = true := by rw [HE.out, Ms.inb, decide_eq_false (by omega)]; rfl
        subst h
        refine ⟨?_, rfl⟩
        simp [h1, h2]
      · go_enter Tryd.func77, Tryd.ntmps77
        go_wp2_with (go_at_call 102; refine hin.mono ?_; rintro e w' ⟨rfl, rfl⟩)
        go_ret
        have h : R = false := by rw [HE.out, Ms.inb, decide_eq_true (by omega)]; rfl
        subst h
        refine ⟨?_, rfl⟩
        simp [h1, h2]
/-- bytes of a message's texts -/
def lsz (m : Ms.Msg) : Nat := m.path.length + m.data.length + (m.rows.map fun x => x.path.length).sum
def lightM (m : Ms.Msg) : Bool := decide (lsz m ≤ 5000) && decide (m.rows.length ≤ 100)
end Go.Proofs.YthhhiiagppckhaaDoor
end

section
namespace Go.Proofs.YthhhiiagppckhaaDoor
open Go.RowKit Go.Proofs.U
set_option linter.unusedVariables false

/-- what lies in memory is not too long -/
def Ms.Big (m : Ms.Msg) : Prop := m.path.length ≤ 140737488355328 ∧ m.data.length ≤ 140737488355328 ∧ m.rows.length ≤ 140737488355328 ∧ ∀ x ∈ m.rows, x.path.length ≤ 140737488355328
def psum (l : List Ms.Rw) : Nat := (l.map fun x => x.path.length).sum
theorem psum_take {l : List Ms.Rw} {k : Nat} {x : Ms.Rw} (h : l[k]? = some x) : psum (l.take (k + 1)) = psum (l.take k) + x.path.length := by
  unfold psum; rw [List.take_add_one, h]; simp
theorem psum_le (l : List Ms.Rw) (h : ∀ x ∈ l, x.path.length ≤ 140737488355328) : psum l ≤ 140737488355328 * l.length := by
  unfold psum
  induction l with
  | nil => simp
  | cons x l ih =>
    have h1 := h x List.mem_cons_self
    have h2 := ih fun y hy => h y (List.mem_cons_of_mem _ hy)
    simp only [List.map_cons, List.sum_cons, List.length_cons, Nat.mul_add]; omega
set_option maxRecDepth 100000 in
set_option maxHeartbeats 4000000 in
theorem light15_any (B0 : Nat) (m : Ms.Msg) (v : Value) (w : World) (h : MsgV w B0 m v) (hbig : Ms.Big m) :
    Calls Tryd.prog 10 #[v] w fun e w' => e = .returned (.bool (lightM m)) ∧ Below w.heap.size w w' := by
  obtain ⟨A, c, A2, c2, rfl, ha1, ha2, ha3, ha4⟩ := h
  obtain ⟨R, hR⟩ : ∃ R, R = lightM m := ⟨_, rfl⟩
  rw [← hR]
  have HR := Lib.hid hR
  clear hR
  have hw1 : ∃ w1, w1 = (w.alloc (.cells (mCells m A c A2 c2) 27)) := ⟨_, rfl⟩
  have hk1 : Blk (w.alloc (.cells (mCells m A c A2 c2) 27)) w.heap.size 27 (mCells m A c A2 c2) := Blk.new w _ _
  have hb1 := alloc_b w (.cells (mCells m A c A2 c2) 27)
  obtain ⟨n, hn⟩ : ∃ n, n = m.rows.length := ⟨_, rfl⟩
  obtain ⟨p, hp⟩ : ∃ p, p = m.path.length := ⟨_, rfl⟩
  obtain ⟨d, hd⟩ : ∃ d, d = m.data.length := ⟨_, rfl⟩
  obtain ⟨g1, g2, g3, g4⟩ := hbig
  have hsz := str_size m.path
  simp only [mCells] at hw1 hb1 hk1 ⊢
  rw [← hn] at hw1 hb1 hk1 ha4 g3 ⊢
  rw [← hd] at hw1 hb1 hk1 ha2 g2 ⊢
  rw [← hp] at g1 hsz
  have HN := Lib.hid (And.intro hn (And.intro hp (And.intro hd g4)))
  clear hn hp hd g4
  obtain ⟨w1, hw1⟩ := hw1
  by_cases h100 : n ≤ 100
  · go_enter Tryd.func10, Tryd.ntmps10
    go_wp2_with fail
    rw [← hw1] at hb1 hk1 ⊢
    clear hw1
    go_loopg [3, 16] n (fun r s i wr => ∃ k : Nat, r + k = n ∧ i = .int .i64 (k : Int) ∧ s = .int .i64 ((p : Int) + (d : Int) + (psum (m.rows.take k) : Int)) ∧ Blk wr w.heap.size 27 (mCells m A c A2 c2) ∧ Below w.heap.size w wr)
    case atStart => exact ⟨0, by omega, rfl, by simp [psum], by simp only [mCells]; rw [← HN.out.1, ← HN.out.2.2.1]; exact hk1, hb1⟩
    case round =>
      clear hk1 hb1
      obtain ⟨k, hgk, rfl, rfl, hk, hbw⟩ := hrel
      have y15 := hk.cell 15
      simp [mCells] at y15
      rw [← HN.out.1] at y15
      by_cases hlt : k < n
      · obtain ⟨x, hx⟩ : ∃ x, m.rows[k]? = some x := ⟨_, List.getElem?_eq_getElem (by rw [← HN.out.1]; exact hlt)⟩
        have hxl := HN.out.2.2.2 x (List.mem_of_getElem? hx)
        obtain ⟨b1, o1, rfl, hbl1, r1⟩ := ha3.at_ hx
        have q0 := (hbw.cell (p := ⟨b1, o1 + k * 5 + 0, none⟩) hbl1).trans (r1 0 _ rfl)
        have q1 := (hbw.cell (p := ⟨b1, o1 + k * 5 + 1, none⟩) hbl1).trans (r1 1 _ rfl)
        have q2 := (hbw.cell (p := ⟨b1, o1 + k * 5 + 2, none⟩) hbl1).trans (r1 2 _ rfl)
        have q3 := (hbw.cell (p := ⟨b1, o1 + k * 5 + 3, none⟩) hbl1).trans (r1 3 _ rfl)
        have q4 := (hbw.cell (p := ⟨b1, o1 + k * 5 + 4, none⟩) hbl1).trans (r1 4 _ rfl)
        rw [Nat.add_zero] at q0
        have hps := psum_take hx
        have hpl := psum_le (m.rows.take k) fun y hy => HN.out.2.2.2 y (List.mem_of_mem_take hy)
        have hll : (m.rows.take k).length ≤ 100 := by rw [List.length_take]; omega
        have hsx := str_size x.path
        obtain ⟨S, hS⟩ : ∃ S, S = psum (m.rows.take k) := ⟨_, rfl⟩
        obtain ⟨xl, hxl'⟩ : ∃ xl, xl = x.path.length := ⟨_, rfl⟩
        rw [← hS] at hps hpl ⊢
        rw [← hxl'] at hps hxl hsx
        have HS := Lib.hid hps
        have hSl : S ≤ 14073748835532800 := by omega
        clear r1 hx hps hpl hll hS hxl'
        have hal := alloc_b wr (.cells #[.string (strOf x.path), .int .i64 x.kind, .int .u64 (x.version : Int), .int .u64 (x.stamp : Int), .int .i64 x.size] 89)
        go_wp2_with fail
        go_roundg (gk - 1)
        case measure => omega
        case rel => exact ⟨k + 1, by omega, by go_num, by rw [HS.out]; go_num, hk.stay hal, hbw.trans (hal.mono hbw.size)⟩
      · obtain rfl : k = n := by omega
        have hps : psum (m.rows.take k) = psum m.rows := by rw [List.take_of_length_le (by rw [← HN.out.1]; exact Nat.le_refl _)]
        obtain ⟨S, hS⟩ : ∃ S, S = psum (m.rows.take k) := ⟨_, rfl⟩
        rw [← hS] at hps ⊢
        have hE : R = (decide (p + d + S ≤ 5000) && decide (k ≤ 100)) := by rw [HR.out, lightM, lsz, hps, HN.out.1, HN.out.2.1, HN.out.2.2.1]; rfl
        have HE := Lib.hid hE
        clear hS hps hE
        by_cases h5 : p + d + S ≤ 5000
        · have h5' : (p : Int) + (d : Int) + (S : Int) ≤ 5000 := by omega
          go_wp2_with fail
          go_ret
          have h := HE.out.trans (by rw [decide_eq_true h5, decide_eq_true h100]; rfl : _ = true)
          subst h
          exact ⟨by simp [h5']; omega, hbw⟩
        · have h5' : ¬ (p : Int) + (d : Int) + (S : Int) ≤ 5000 := by omega
          go_wp2_with fail
          go_ret
          have h := HE.out.trans (by rw [decide_eq_false h5]; rfl : _ = false)
          subst h
          exact ⟨by simp [h5'], hbw⟩
  · go_enter Tryd.func10, Tryd.ntmps10
    go_wp2_with fail
    rw [← hw1] at hb1 hk1 ⊢
    clear hw1
    have hE : R = false := by rw [HR.out, lightM, ← HN.out.1, decide_eq_false h100, Bool.and_false]
    subst hE
    go_loopg [3, 16] n (fun r s i wr => ∃ (k : Nat) (z : Int), r + k = n ∧ i = .int .i64 (k : Int) ∧ s = .int .i64 z ∧ Blk wr w.heap.size 27 (mCells m A c A2 c2) ∧ Below w.heap.size w wr)
    case atStart => exact ⟨0, _, by omega, rfl, rfl, by simp only [mCells]; rw [← HN.out.1, ← HN.out.2.2.1]; exact hk1, hb1⟩
    case round =>
      clear hk1 hb1
      obtain ⟨k, z, hgk, rfl, rfl, hk, hbw⟩ := hrel
      have y15 := hk.cell 15
      simp [mCells] at y15
      rw [← HN.out.1] at y15
      by_cases hlt : k < n
      · obtain ⟨x, hx⟩ : ∃ x, m.rows[k]? = some x := ⟨_, List.getElem?_eq_getElem (by rw [← HN.out.1]; exact hlt)⟩
        obtain ⟨b1, o1, rfl, hbl1, r1⟩ := ha3.at_ hx
        have q0 := (hbw.cell (p := ⟨b1, o1 + k * 5 + 0, none⟩) hbl1).trans (r1 0 _ rfl)
        have q1 := (hbw.cell (p := ⟨b1, o1 + k * 5 + 1, none⟩) hbl1).trans (r1 1 _ rfl)
        have q2 := (hbw.cell (p := ⟨b1, o1 + k * 5 + 2, none⟩) hbl1).trans (r1 2 _ rfl)
        have q3 := (hbw.cell (p := ⟨b1, o1 + k * 5 + 3, none⟩) hbl1).trans (r1 3 _ rfl)
        have q4 := (hbw.cell (p := ⟨b1, o1 + k * 5 + 4, none⟩) hbl1).trans (r1 4 _ rfl)
        rw [Nat.add_zero] at q0
        clear r1 hx
        have hal := alloc_b wr (.cells #[.string (strOf x.path), .int .i64 x.kind, .int .u64 (x.version : Int), .int .u64 (x.stamp : Int), .int .i64 x.size] 89)
        go_wp2_with fail
        go_roundg (gk - 1)
        case measure => omega
        case rel => exact ⟨k + 1, _, by omega, by go_num, rfl, hk.stay hal, hbw.trans (hal.mono hbw.size)⟩
      · obtain rfl : k = n := by omega
        have h1 : ¬ (k : Int) ≤ 100 := by omega
        by_cases hz : z ≤ 5000
        · go_wp2_with fail
          go_ret
          exact ⟨by simp [hz, h1], hbw⟩
        · go_wp2_with fail
          go_ret
          exact ⟨by simp [hz], hbw⟩
end Go.Proofs.YthhhiiagppckhaaDoor
end
