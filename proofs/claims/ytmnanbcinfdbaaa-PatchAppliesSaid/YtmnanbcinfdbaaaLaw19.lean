/- The walk of DeltaReads; conditions: none beyond its hypotheses. -/
import Derived.Test.YtmnanbcinfdbaaaL19
import Derived.Test.YtmnanbcinfdbaaaGs
import Derived.Test.YtmnanbcinfdbaaaGr7
namespace Go.Proofs.Gr
set_option linter.unusedVariables false
theorem nextP_rng {b : List UInt8} {s : Stp} {n : Nat} (h : nextP b = (s, n, 0)) : (s.k = 1 ∨ s.k = 2) ∧ (0 ≤ s.f ∧ s.f ≤ 4096) ∧ (1 ≤ s.l ∧ s.l ≤ 4096) ∧ s.d.length ≤ 128 := by
  obtain ⟨h1, h2, h3⟩ := nextP_len h
  rcases nextP_inv h with ⟨b1, b2, b3, fr, ln, e1, e2, e3, e4, rfl, _⟩ | ⟨b1, b2, d, b3, e1, _, e4, rfl, _⟩
  · have := (enum_bytes e2).2
    exact ⟨.inl rfl, ⟨by simp only; omega, by simp only; omega⟩, ⟨h3, h2⟩, h1⟩
  · exact ⟨.inr rfl, ⟨by simp only; omega, by simp only; omega⟩, ⟨h3, h2⟩, h1⟩
theorem rd_mem : ∀ (n : Nat) (acc : List Stp) (b : List UInt8) (x : Stp), x ∈ (rd n acc b).1 → x ∈ acc ∨ ∃ b' k, nextP b' = (x, k, 0)
  | 0, acc, b, x, h => .inl h
  | n + 1, acc, b, x, h => by
    unfold rd at h; split at h
    · exact .inl h
    · simp only at h; split at h
      · simp at h
      · rename_i hf
        rcases rd_mem n _ _ x h with h | h
        · rcases List.mem_append.1 h with h | h
          · exact .inl h
          · simp only [List.mem_singleton] at h
            subst h
            obtain ⟨⟨s, k, f⟩, hr⟩ : ∃ r, nextP b = r := ⟨_, rfl⟩
            rw [hr] at hf ⊢
            simp only [ne_eq, Decidable.not_not] at hf
            subst hf
            exact .inr ⟨b, k, hr⟩
        · exact .inr h
theorem readP_mem {b : List UInt8} {x : Stp} (h : x ∈ (readP b).1) : ∃ b' k, nextP b' = (x, k, 0) := by
  rcases rd_mem _ _ _ _ h with h | h
  · simp at h
  · exact h
theorem readP_len (b : List UInt8) : (readP b).1.length ≤ b.length := by
  have := rd_len b.length [] b
  simpa [readP] using this
end Go.Proofs.Gr
namespace Go.Proofs.Ytmnanbcinfdbaaa
open Go.RowKit Go.Proofs.U
set_option linter.unusedVariables false
theorem dsum_le (l : List Gr.Stp) (m : Nat) (h : ∀ x ∈ l, x.d.length ≤ m) : dsum l ≤ m * l.length := by
  unfold dsum
  induction l with
  | nil => simp
  | cons x l ih =>
    rw [List.map_cons, List.sum_cons, List.length_cons, Nat.mul_succ]
    have h1 := h x (by simp)
    have h2 := ih (fun y hy => h y (by simp [hy]))
    omega
theorem SP.one {w : World} {q : Nat} {x : Gr.Stp} {A : Option Addr} {c B0 : Nat} (hk : Blk w q 25 #[.int .i64 x.k, .int .i64 x.f, .int .i64 x.l, .slice A x.d.length c]) (hd : Dat w B0 A x.d) (hc : x.d.length ≤ c) : SP w (some ⟨q, 0, none⟩) 1 [x] := by
  refine ⟨rfl, fun _ => ⟨q, 0, rfl, hk.lt, fun j y hy => ?_⟩⟩
  have hj : j = 0 := by have := (List.getElem?_eq_some_iff.1 hy).1; simp at this; omega
  subst hj
  simp only [List.getElem?_cons_zero, Option.some.injEq] at hy
  subst hy
  exact ⟨A, c, hk.cell 0, hk.cell 1, hk.cell 2, hk.cell 3, hc, hd.1⟩
theorem readP_rng (b : List UInt8) : (∀ x ∈ (Gr.readP b).1, Rng x) ∧ dsum (Gr.readP b).1 ≤ 128 * b.length := by
  refine ⟨fun x hx => ?_, ?_⟩
  · obtain ⟨b', k, h⟩ := Gr.readP_mem hx
    obtain ⟨h1, h2, h3, _⟩ := Gr.nextP_rng h
    exact ⟨by omega, by omega, by omega⟩
  · have h1 := dsum_le (Gr.readP b).1 128 fun x hx => by
      obtain ⟨b', k, h⟩ := Gr.readP_mem hx
      exact (Gr.nextP_rng h).2.2.2
    exact Nat.le_trans h1 (Nat.mul_le_mul_left _ (Gr.readP_len b))

set_option maxRecDepth 100000 in
set_option maxHeartbeats 8000000 in
theorem deltaReads_any (A : Option Addr) (n c : Nat) (b : List UInt8) (w : World) (hb : BS w w.heap.size A n b) (hc : n ≤ c) (hm : n ≤ maxLen) :
    Calls Try.prog 3 #[.slice A n c] w (Yes w) := by
  unfold maxLen at hm
  by_cases hn : n ≤ 3000
  · obtain ⟨hzS, _⟩ := Go.zero_of_info zeroS
    have hl := hb.1
    obtain ⟨⟨s, kk, f⟩, hN⟩ : ∃ r, Gr.nextP b = r := ⟨_, rfl⟩
    obtain ⟨⟨l, g⟩, hR⟩ : ∃ r, Gr.readP b = r := ⟨_, rfl⟩
    have hrng := readP_rng b
    have hrl := Gr.readP_len b
    have hby := Gr.readP_bytes (b := b)
    rw [hR] at hrng hrl hby
    simp only at hrng hrl hby
    have HR := Lib.hid (And.intro hrng (And.intro hby (And.intro hrl hl)))
    have nx := fun w' (h' : BS w' w.heap.size A n b) (hB : w.heap.size ≤ w'.heap.size) => next_any A n c w.heap.size b w' h' hB hc (by omega)
    have rnx := fun w' (h' : BS w' w.heap.size A n b) (hB : w.heap.size ≤ w'.heap.size) => rnext_any A n c w.heap.size b w' h' hB hc (by omega)
    have rdd := fun w' (h' : BS w' w.heap.size A n b) (hB : w.heap.size ≤ w'.heap.size) => dread_any A n c w.heap.size b w' h' hB hc (by omega)
    have rrd := fun w' (h' : BS w' w.heap.size A n b) (hB : w.heap.size ≤ w'.heap.size) => rread_any A n c w.heap.size b w' h' hB hc (by omega)
    rw [hN] at nx rnx
    rw [hR] at rdd rrd
    have HC := Lib.hid (And.intro nx (And.intro rnx (And.intro rdd rrd)))
    have hll : l.length ≤ 3000 := by omega
    clear hl hN hR hrng hrl hby nx rnx rdd rrd
    go_enter Try.func3, Try.ntmps3
    go_wp2_with fail
    refine (HC.out.1 w hb (Nat.le_refl _)).mono ?_
    rintro e w1 ⟨A1, c1, rfl, hd1, hc1, hb1⟩
    simp only at hd1 hc1 ⊢
    obtain ⟨sk, sf, sl, sd⟩ := s
    simp only at hd1 hc1 ⊢
    go_wp2_with fail
    have hk2 : Blk (w1.alloc (.cells #[.int .i64 sk, .int .i64 sf, .int .i64 sl, .slice A1 sd.length c1] 25)) w1.heap.size 25 #[.int .i64 sk, .int .i64 sf, .int .i64 sl, .slice A1 sd.length c1] := Blk.new _ _ _
    have hb2 : Below w1.heap.size w1 (w1.alloc (.cells #[.int .i64 sk, .int .i64 sf, .int .i64 sl, .slice A1 sd.length c1] 25)) := (Below.refl _ _).alloc (Nat.le_refl _) _
    have hd2 := hd1.below hb2
    generalize (w1.alloc (.cells #[.int .i64 sk, .int .i64 sf, .int .i64 sl, .slice A1 sd.length c1] 25)) = w2 at hk2 hb2 hd2 ⊢
    have hbw2 := hb1.trans (hb2.mono hb1.size)
    refine (HC.out.2.1 w2 (hb.below hbw2) hbw2.size).mono ?_
    rintro e w3 ⟨A3, c3, rfl, hd3, hc3, hb3⟩
    simp only at hd3 hc3 ⊢
    have hk3 := hk2.stay hb3
    have hdd3 := hd2.below hb3
    have hbw3 := hbw2.trans (hb3.mono hbw2.size)
    have c0 := hk3.cell 0
    have c1x := hk3.cell 1
    have c2x := hk3.cell 2
    have c3x := hk3.cell 3
    simp at c0 c1x c2x c3x
    have hkl := hk3.lt
    go_wp2_with fail
    obtain ⟨OS, hOS⟩ : ∃ OS, OS = Obj.cells #[.int .i64 sk, .int .i64 sf, .int .i64 sl, .slice A1 sd.length c1] 25 := ⟨_, rfl⟩
    obtain ⟨OT, hOT⟩ : ∃ OT, OT = Obj.cells #[.int .i64 sk, .int .i64 sf, .int .i64 sl, .slice A3 sd.length c3] 25 := ⟨_, rfl⟩
    rw [← hOS, ← hOT]
    have hbW : Below w3.heap.size w3 (((w3.alloc OT).alloc OS).alloc OT) := (((Below.refl _ _).alloc (Nat.le_refl _) _).alloc (by simp) _).alloc (by simp; omega) _
    have hS5 : Blk (((w3.alloc OT).alloc OS).alloc OT) (w3.heap.size + 1) 25 #[.int .i64 sk, .int .i64 sf, .int .i64 sl, .slice A1 sd.length c1] := by
      have := (Blk.new (w3.alloc OT) 25 #[.int .i64 sk, .int .i64 sf, .int .i64 sl, .slice A1 sd.length c1]).alloc OT
      rw [World.size_alloc, ← hOS] at this
      exact this
    have hT5 : Blk (((w3.alloc OT).alloc OS).alloc OT) (w3.heap.size + 1 + 1) 25 #[.int .i64 sk, .int .i64 sf, .int .i64 sl, .slice A3 sd.length c3] := by
      have := Blk.new ((w3.alloc OT).alloc OS) 25 #[.int .i64 sk, .int .i64 sf, .int .i64 sl, .slice A3 sd.length c3]
      rw [World.size_alloc, World.size_alloc, ← hOT] at this
      exact this
    have hspS := SP.one (x := ⟨sk, sf, sl, sd⟩) hS5 (hdd3.below hbW) hc1
    have hspT := SP.one (x := ⟨sk, sf, sl, sd⟩) hT5 (hd3.below hbW) hc3
    have hbw5 := hbw3.trans (hbW.mono hbw3.size)
    generalize (((w3.alloc OT).alloc OS).alloc OT) = w5 at hspS hspT hbw5 ⊢
    clear hbW hS5 hT5 hOS hOT hk3 hdd3 hd3 hb3 hbw3 c0 c1x c2x c3x hkl hk2 hd2 hd1 hb2 hbw2 hb1
    refine (rsame_eq _ _ 1 1 1 1 [⟨sk, sf, sl, sd⟩] w5 hspS hspT (by omega)).mono ?_
    rintro e w6 ⟨rfl, hdr⟩
    have hbw6 : Below w.heap.size w w6 := by obtain ⟨q, rfl⟩ := hdr; exact below_drewN hbw5 _
    clear hspS hspT hbw5 hdr
    have e1 : ((kk : Int) != (kk : Int)) = false := by simp
    have e2 : ((f : Int) != (f : Int)) = false := by simp
    go_wp2_with fail
    refine (HC.out.2.2.1 w6 (hb.below hbw6) hbw6.size).mono ?_
    rintro e w7 ⟨A7, c7, rfl, hsp7, hc7, hb7⟩
    simp only at hsp7 hc7 ⊢
    have hbw7 := hbw6.trans (hb7.mono hbw6.size)
    go_wp2_with fail
    refine (HC.out.2.2.2 w7 (hb.below hbw7) hbw7.size).mono ?_
    rintro e w8 ⟨A8, c8, rfl, hsp8, hc8, hb8⟩
    simp only at hsp8 hc8 ⊢
    have hbw8 := hbw7.trans (hb8.mono hbw7.size)
    have hsp7' := hsp7.below hb8
    go_wp2_with fail
    refine (rsame_eq _ _ l.length l.length c7 c8 l w8 hsp7' hsp8 (by omega)).mono ?_
    rintro e w9 ⟨rfl, hdr⟩
    have hbw9 : Below w.heap.size w w9 := by obtain ⟨q, rfl⟩ := hdr; exact below_drewN hbw8 _
    have hsp9 : SP w9 A7 l.length l := by obtain ⟨q, rfl⟩ := hdr; exact hsp7'.drewN q
    clear hdr hsp7 hsp8 hsp7'
    have e3 : ((g : Int) == (g : Int)) = true := by simp
    by_cases hg : g = 0
    · subst hg
      have hw0 := HR.out.2.1 rfl
      have HW := Lib.hid hw0
      clear hw0
      go_wp2_with fail
      refine (dwrite_any A7 l.length c7 l w9 hsp9 HR.out.1.1 (by omega) (by have := HR.out.1.2; have := HR.out.2.2.2; omega)).mono ?_
      rintro e w10 ⟨A10, c10, rfl, hown10, hb10⟩
      rw [HW.out] at hown10 ⊢
      have hbw10 := hbw9.trans (hb10.mono hbw9.size)
      go_wp2_with fail
      refine (same_any A10 _ c10 b A n c b w10 w10.heap.size w.heap.size hown10.bs (hb.below hbw10)).mono ?_
      rintro e w' ⟨rfl, rfl⟩
      have e4 : (b == b) = true := by simp
      rw [e4]
      go_wp2_with fail
      refine (lives19 w10).mono ?_
      rintro e w11 ⟨rfl, hb11⟩
      go_wp2_with fail
      go_ret
      exact ⟨rfl, hbw10.trans (hb11.mono hbw10.size)⟩
    · have e4 : ((g : Int) != 0) = true := by rw [bne_iff_ne]; omega
      have e5 : ((g : Int) == 0) = false := by rw [beq_eq_false_iff_ne]; omega
      go_wp2_with fail
      refine (lives19 w9).mono ?_
      rintro e w11 ⟨rfl, hb11⟩
      go_wp2_with fail
      go_ret
      exact ⟨rfl, hbw9.trans (hb11.mono hbw9.size)⟩
  · go_enter Try.func3, Try.ntmps3
    go_wp2_with fail
    refine (lives19 w).mono ?_
    rintro e w1 ⟨rfl, hb1⟩
    go_wp2_with fail
    go_ret
    exact ⟨rfl, hb1⟩
end Go.Proofs.Ytmnanbcinfdbaaa
