/- The walks of Read: delta's and the reference's; conditions: none beyond their hypotheses. -/
import Derived.Test.YtmnanbcinfdbaaaGr5
import Derived.Test.YtmnanbcinfdbaaaGr6
namespace Go.Proofs.Ytmnanbcinfdbaaa
open Go.RowKit Go.Proofs.U
set_option linter.unusedVariables false

def ReadRet (w : World) (r : List Gr.Stp × Nat) (e : Ending) (w' : World) : Prop :=
  ∃ A c, e = .returned (.tuple #[.slice A r.1.length c, .int .i64 (r.2 : Int)]) ∧ SP w' A r.1.length r.1 ∧ r.1.length ≤ c ∧ Below w.heap.size w w'
theorem SO.le {w : World} {base B0 n c : Nat} {A : Option Addr} {l : List Gr.Stp} (h : SO w base B0 A n c l) : n ≤ c := by
  obtain ⟨vs, h1, _⟩ := h
  rcases h1.2 with ⟨hv, h0⟩ | ⟨g, cap, cur, hv, _, _, hnc, _⟩
  · omega
  · injection hv with _ _ hcc; omega
set_option maxRecDepth 100000 in
set_option maxHeartbeats 4000000 in
theorem dread_any (A : Option Addr) (n c B0 : Nat) (b : List UInt8) (w : World) (hb : BS w B0 A n b) (hB : B0 ≤ w.heap.size) (hc : n ≤ c) (hn : n ≤ 1099511627776) :
    Calls Try.prog 12 #[.slice A n c] w (ReadRet w (Gr.readP b)) := by
  obtain ⟨hz, hs⟩ := Go.zero_of_info zeroS
  have hl := hb.1
  obtain ⟨X, hX⟩ : ∃ X, X = Gr.readP b := ⟨_, rfl⟩
  rw [← hX]
  have HX := Lib.hid (And.intro hX hl)
  clear hX hl hs
  go_enter Try.func12, Try.ntmps12
  go_wp2_with fail
  go_loopg [0, 2] n (fun r t u wr => ∃ A k c rest Ao co acc, r = k ∧ t = .slice A k c ∧ u = .slice Ao acc.length co ∧ BS wr B0 A k rest ∧ k ≤ c ∧ SO wr w.heap.size B0 Ao acc.length co acc ∧ Gr.rd rest.length acc rest = X ∧ acc.length + k ≤ n ∧ Below w.heap.size w wr)
  case atStart => exact ⟨A, n, c, b, none, 0, [], rfl, rfl, rfl, hb, hc, SO.nil _ _ _, HX.out.1.symm, by simp, Below.refl _ _⟩
  case round =>
    obtain ⟨A, k, c, rest, Ao, co, acc, rfl, rfl, rfl, hb, hc, hso, hrd, hal, hbw⟩ := hrel
    have hrl := hb.1
    have HR := Lib.hid (And.intro hrd hrl)
    clear hrd
    have hBr : B0 ≤ wr.heap.size := Nat.le_trans hB hbw.size
    by_cases h0 : gk = 0
    · obtain rfl : rest = [] := List.eq_nil_of_length_eq_zero (by omega)
      subst h0
      clear hrl
      go_wp2_with fail
      go_ret2
      have hE := HR.out.1
      rw [Gr.rd_nil] at hE
      subst hE
      exact ⟨Ao, co, rfl, hso.sp, hso.le, hbw⟩
    · have hkp : 0 < gk := by omega
      have hkp' : (0 : Int) < (gk : Int) := by omega
      have hrne : rest ≠ [] := by rintro rfl; simp at hrl; omega
      obtain ⟨⟨s, kk, f⟩, hr⟩ : ∃ r, Gr.nextP rest = r := ⟨_, rfl⟩
      obtain ⟨bA, oA, rfl, hbA, -⟩ := hb.2 hkp
      clear hrl
      go_wp2_with fail
      refine (next_any _ gk c B0 rest wr hb hBr hc (by omega)).mono ?_
      rw [hr]
      rintro e w1 ⟨Ad, cd, rfl, hdat, hcd, hb1⟩
      simp only at hdat hcd ⊢
      have hbw1 := hbw.trans (hb1.mono hbw.size)
      obtain ⟨sk, sf, sl, sd⟩ := s
      simp only at hdat hcd ⊢
      by_cases hf : f = 0
      · subst hf
        obtain ⟨hp1, hp2⟩ := Gr.nextP_prog hr
        have hlen := Gr.nextP_len hr
        rw [HR.out.2] at hp2
        obtain ⟨vs, v1, v2, v3, v4, v5⟩ := hso.below hb1
        have hal1 : ∀ o o', Below w1.heap.size w1 ((w1.alloc o).alloc o') := fun o o' => ((Below.refl _ _).alloc (Nat.le_refl _) _).alloc (by simp) _
        have hv1 : ∀ o o', ((w1.alloc o).alloc o').ownsRow w.heap.size 25 4 (.slice Ao acc.length co) acc.length vs := fun o o' => World.ownsRow.alloc (World.ownsRow.alloc v1 o) o'
        have hq : (acc.length + 1) * 48 ≤ 140737488355328 := by omega
        have hq2 : acc.length + 1 ≤ maxLen := by unfold maxLen; omega
        have hqs : ∀ o o', w.heap.size ≤ ((w1.alloc o).alloc o').heap.size := fun o o' => Nat.le_trans hbw1.size (hal1 o o').size
        have HV := Lib.hid (And.intro hr (And.intro v2 (And.intro v3 (And.intro v4 v5))))
        obtain ⟨m, hm⟩ : ∃ m, m = acc.length := ⟨_, rfl⟩
        have hcells : ∀ j u, (stpCells ⟨sk, sf, sl, sd⟩ Ad cd)[j]? = some u → ((w1.alloc (.cells #[.int .i64 sk, .int .i64 sf, .int .i64 sl, .slice Ad sd.length cd] 25)).alloc (.cells #[.int .i64 sk, .int .i64 sf, .int .i64 sl, .slice Ad sd.length cd] 25)).cell? ((⟨w1.heap.size + 1, 0, none⟩ : Addr).add j) = some u := fun j u hu => by
          have hh := (Blk.new (w1.alloc (.cells #[.int .i64 sk, .int .i64 sf, .int .i64 sl, .slice Ad sd.length cd] 25)) 25 #[.int .i64 sk, .int .i64 sf, .int .i64 sl, .slice Ad sd.length cd])
          rw [World.size_alloc] at hh
          rw [addr_add, Nat.zero_add, hh.cell]
          rw [← List.getElem?_toArray] at hu
          exact hu
        have HC := Lib.hid hcells
        have hone : ∀ u ∈ stpCells ⟨sk, sf, sl, sd⟩ Ad cd, u.oneCell' = true := fun u hu => by
          simp only [stpCells, List.mem_cons, List.not_mem_nil, or_false] at hu
          rcases hu with rfl | rfl | rfl | rfl <;> rfl
        have HO := Lib.hid hone
        clear hr v2 v3 v4 v5 hcells hone hm m hso
        have i1 : (kk : Int) ≤ (gk : Int) := by omega
        have i2 : (kk : Int) ≤ (c : Int) := by omega
        by_cases hck : c = kk
        · have hkg : gk = kk := by omega
          subst hkg
          subst hck
          go_wp2_with (at_builtin; refine wpList_app4 Try.underlying32 infoS rfl rfl (.tmp 19) (.tmp 21) rfl w.heap.size _ _ _ vs rfl (hv1 _ _) ⟨w1.heap.size + 1, 0, none⟩ 1 1 (stpCells ⟨sk, sf, sl, sd⟩ Ad cd) rfl rfl HC.out HO.out hq hq2 (hqs _ _) ?_; intro A2 c2 w2 hown2 hg2 _)
          have hso2 := SO.app (x := ⟨sk, sf, sl, sd⟩) (hv1 _ _) HV.out.2.1 rfl HV.out.2.2.2.1 (fun j x hx => by obtain ⟨A', c', r0, r1, r2, r3, r4, r5⟩ := HV.out.2.2.2.2 j x hx; exact ⟨A', c', r0, r1, r2, r3, r4, r5.below (hal1 _ _)⟩) (hdat.below (hal1 _ _)) hcd hB hg2 hown2
          have hbw2 : Below w.heap.size w w2 := below_row (hbw1.trans ((hal1 _ _).mono hbw1.size)) (hqs _ _) (hv1 _ _) (Nat.le_refl _) hg2
          clear hown2 hg2
          go_roundg 0
          case measure => omega
          case rel =>
            have hst := Gr.rd_step (acc := acc) hrne HV.out.1
            rw [HR.out.1] at hst
            have hd0 : rest.drop c = [] := List.drop_of_length_le (by rw [HR.out.2]; omega)
            rw [hd0] at hst
            exact ⟨some ⟨bA, oA, none⟩, 0, 0, [], A2, c2, acc ++ [⟨sk, sf, sl, sd⟩], rfl, rfl, by simp, BS.nil _ _ _, Nat.le_refl _, by simpa using hso2, hst.symm, by simp; omega, hbw2⟩
        · skip
          go_wp2_with (at_builtin; refine wpList_app4 Try.underlying32 infoS rfl rfl (.tmp 19) (.tmp 21) rfl w.heap.size _ _ _ vs rfl (hv1 _ _) ⟨w1.heap.size + 1, 0, none⟩ 1 1 (stpCells ⟨sk, sf, sl, sd⟩ Ad cd) rfl rfl HC.out HO.out hq hq2 (hqs _ _) ?_; intro A2 c2 w2 hown2 hg2 _)
          have hso2 := SO.app (x := ⟨sk, sf, sl, sd⟩) (hv1 _ _) HV.out.2.1 rfl HV.out.2.2.2.1 (fun j x hx => by obtain ⟨A', c', r0, r1, r2, r3, r4, r5⟩ := HV.out.2.2.2.2 j x hx; exact ⟨A', c', r0, r1, r2, r3, r4, r5.below (hal1 _ _)⟩) (hdat.below (hal1 _ _)) hcd hB hg2 hown2
          have hbw2 : Below w.heap.size w w2 := below_row (hbw1.trans ((hal1 _ _).mono hbw1.size)) (hqs _ _) (hv1 _ _) (Nat.le_refl _) hg2
          clear hown2 hg2
          go_roundg (gk - kk)
          case measure => omega
          case rel =>
            have hst := Gr.rd_step (acc := acc) hrne HV.out.1
            rw [HR.out.1] at hst
            exact ⟨some ⟨bA, oA + kk, none⟩, gk - kk, c - kk, rest.drop kk, A2, c2, acc ++ [⟨sk, sf, sl, sd⟩], rfl, rfl, by simp, (hb.keep fun p hp => (hbw2.cell (Nat.lt_of_lt_of_le hp hB)).trans (hbw.cell (Nat.lt_of_lt_of_le hp hB)).symm).drop (by omega), by omega, by simpa using hso2, hst.symm, by simp; omega, hbw2⟩
      · have hff : ((f : Int) == 0) = false := by rw [beq_eq_false_iff_ne]; omega
        have hff2 : ((f : Int) != 0) = true := by rw [bne_iff_ne]; omega
        have hE := HR.out.1
        rw [Gr.rd_bad hrne hr hf] at hE
        have HE := Lib.hid hE
        clear hE hr
        have hal1 : ∀ o, Below w.heap.size w (w1.alloc o) := fun o => hbw1.alloc hbw1.size o
        go_wp2_with fail
        go_ret2
        have hE := HE.out
        subst hE
        exact ⟨none, 0, rfl, SP.nil _ _, Nat.le_refl _, hal1 _⟩
set_option maxRecDepth 100000 in
set_option maxHeartbeats 4000000 in
theorem rread_any (A : Option Addr) (n c B0 : Nat) (b : List UInt8) (w : World) (hb : BS w B0 A n b) (hB : B0 ≤ w.heap.size) (hc : n ≤ c) (hn : n ≤ 1099511627776) :
    Calls Try.prog 13 #[.slice A n c] w (ReadRet w (Gr.readP b)) := by
  obtain ⟨hz, hs⟩ := Go.zero_of_info zeroS
  have hl := hb.1
  obtain ⟨X, hX⟩ : ∃ X, X = Gr.readP b := ⟨_, rfl⟩
  rw [← hX]
  have HX := Lib.hid (And.intro hX hl)
  clear hX hl hs
  go_enter Try.func13, Try.ntmps13
  go_wp2_with fail
  go_loopg [0, 4] n (fun r t u wr => ∃ A k c rest Ao co acc, r = k ∧ t = .slice A k c ∧ u = .slice Ao acc.length co ∧ BS wr B0 A k rest ∧ k ≤ c ∧ SO wr w.heap.size B0 Ao acc.length co acc ∧ Gr.rd rest.length acc rest = X ∧ acc.length + k ≤ n ∧ Below w.heap.size w wr)
  case atStart => exact ⟨A, n, c, b, none, 0, [], rfl, rfl, rfl, hb, hc, SO.nil _ _ _, HX.out.1.symm, by simp, Below.refl _ _⟩
  case round =>
    obtain ⟨A, k, c, rest, Ao, co, acc, rfl, rfl, rfl, hb, hc, hso, hrd, hal, hbw⟩ := hrel
    have hrl := hb.1
    have HR := Lib.hid (And.intro hrd hrl)
    clear hrd
    have hBr : B0 ≤ wr.heap.size := Nat.le_trans hB hbw.size
    by_cases h0 : gk = 0
    · obtain rfl : rest = [] := List.eq_nil_of_length_eq_zero (by omega)
      subst h0
      clear hrl
      go_wp2_with fail
      go_ret2
      have hE := HR.out.1
      rw [Gr.rd_nil] at hE
      subst hE
      exact ⟨Ao, co, rfl, hso.sp, hso.le, hbw⟩
    · have hkp : 0 < gk := by omega
      have hkp' : (0 : Int) < (gk : Int) := by omega
      have hrne : rest ≠ [] := by rintro rfl; simp at hrl; omega
      obtain ⟨⟨s, kk, f⟩, hr⟩ : ∃ r, Gr.nextP rest = r := ⟨_, rfl⟩
      obtain ⟨bA, oA, rfl, hbA, -⟩ := hb.2 hkp
      clear hrl
      go_wp2_with fail
      refine (rnext_any _ gk c B0 rest wr hb hBr hc (by omega)).mono ?_
      rw [hr]
      rintro e w1 ⟨Ad, cd, rfl, hdat, hcd, hb1⟩
      simp only at hdat hcd ⊢
      have hbw1 := hbw.trans (hb1.mono hbw.size)
      obtain ⟨sk, sf, sl, sd⟩ := s
      simp only at hdat hcd ⊢
      by_cases hf : f = 0
      · subst hf
        obtain ⟨hp1, hp2⟩ := Gr.nextP_prog hr
        have hlen := Gr.nextP_len hr
        rw [HR.out.2] at hp2
        obtain ⟨vs, v1, v2, v3, v4, v5⟩ := hso.below hb1
        have hal1 : ∀ o o', Below w1.heap.size w1 ((w1.alloc o).alloc o') := fun o o' => ((Below.refl _ _).alloc (Nat.le_refl _) _).alloc (by simp) _
        have hv1 : ∀ o o', ((w1.alloc o).alloc o').ownsRow w.heap.size 25 4 (.slice Ao acc.length co) acc.length vs := fun o o' => World.ownsRow.alloc (World.ownsRow.alloc v1 o) o'
        have hq : (acc.length + 1) * 48 ≤ 140737488355328 := by omega
        have hq2 : acc.length + 1 ≤ maxLen := by unfold maxLen; omega
        have hqs : ∀ o o', w.heap.size ≤ ((w1.alloc o).alloc o').heap.size := fun o o' => Nat.le_trans hbw1.size (hal1 o o').size
        have HV := Lib.hid (And.intro hr (And.intro v2 (And.intro v3 (And.intro v4 v5))))
        obtain ⟨m, hm⟩ : ∃ m, m = acc.length := ⟨_, rfl⟩
        have hcells : ∀ j u, (stpCells ⟨sk, sf, sl, sd⟩ Ad cd)[j]? = some u → ((w1.alloc (.cells #[.int .i64 sk, .int .i64 sf, .int .i64 sl, .slice Ad sd.length cd] 25)).alloc (.cells #[.int .i64 sk, .int .i64 sf, .int .i64 sl, .slice Ad sd.length cd] 25)).cell? ((⟨w1.heap.size + 1, 0, none⟩ : Addr).add j) = some u := fun j u hu => by
          have hh := (Blk.new (w1.alloc (.cells #[.int .i64 sk, .int .i64 sf, .int .i64 sl, .slice Ad sd.length cd] 25)) 25 #[.int .i64 sk, .int .i64 sf, .int .i64 sl, .slice Ad sd.length cd])
          rw [World.size_alloc] at hh
          rw [addr_add, Nat.zero_add, hh.cell]
          rw [← List.getElem?_toArray] at hu
          exact hu
        have HC := Lib.hid hcells
        have hone : ∀ u ∈ stpCells ⟨sk, sf, sl, sd⟩ Ad cd, u.oneCell' = true := fun u hu => by
          simp only [stpCells, List.mem_cons, List.not_mem_nil, or_false] at hu
          rcases hu with rfl | rfl | rfl | rfl <;> rfl
        have HO := Lib.hid hone
        clear hr v2 v3 v4 v5 hcells hone hm m hso
        have i1 : (kk : Int) ≤ (gk : Int) := by omega
        have i2 : (kk : Int) ≤ (c : Int) := by omega
        by_cases hck : c = kk
        · have hkg : gk = kk := by omega
          subst hkg
          subst hck
          go_wp2_with (at_builtin; refine wpList_app4 Try.underlying32 infoS rfl rfl (.tmp 20) (.tmp 22) rfl w.heap.size _ _ _ vs rfl (hv1 _ _) ⟨w1.heap.size + 1, 0, none⟩ 1 1 (stpCells ⟨sk, sf, sl, sd⟩ Ad cd) rfl rfl HC.out HO.out hq hq2 (hqs _ _) ?_; intro A2 c2 w2 hown2 hg2 _)
          have hso2 := SO.app (x := ⟨sk, sf, sl, sd⟩) (hv1 _ _) HV.out.2.1 rfl HV.out.2.2.2.1 (fun j x hx => by obtain ⟨A', c', r0, r1, r2, r3, r4, r5⟩ := HV.out.2.2.2.2 j x hx; exact ⟨A', c', r0, r1, r2, r3, r4, r5.below (hal1 _ _)⟩) (hdat.below (hal1 _ _)) hcd hB hg2 hown2
          have hbw2 : Below w.heap.size w w2 := below_row (hbw1.trans ((hal1 _ _).mono hbw1.size)) (hqs _ _) (hv1 _ _) (Nat.le_refl _) hg2
          clear hown2 hg2
          go_roundg 0
          case measure => omega
          case rel =>
            have hst := Gr.rd_step (acc := acc) hrne HV.out.1
            rw [HR.out.1] at hst
            have hd0 : rest.drop c = [] := List.drop_of_length_le (by rw [HR.out.2]; omega)
            rw [hd0] at hst
            exact ⟨some ⟨bA, oA, none⟩, 0, 0, [], A2, c2, acc ++ [⟨sk, sf, sl, sd⟩], rfl, rfl, by simp, BS.nil _ _ _, Nat.le_refl _, by simpa using hso2, hst.symm, by simp; omega, hbw2⟩
        · skip
          go_wp2_with (at_builtin; refine wpList_app4 Try.underlying32 infoS rfl rfl (.tmp 20) (.tmp 22) rfl w.heap.size _ _ _ vs rfl (hv1 _ _) ⟨w1.heap.size + 1, 0, none⟩ 1 1 (stpCells ⟨sk, sf, sl, sd⟩ Ad cd) rfl rfl HC.out HO.out hq hq2 (hqs _ _) ?_; intro A2 c2 w2 hown2 hg2 _)
          have hso2 := SO.app (x := ⟨sk, sf, sl, sd⟩) (hv1 _ _) HV.out.2.1 rfl HV.out.2.2.2.1 (fun j x hx => by obtain ⟨A', c', r0, r1, r2, r3, r4, r5⟩ := HV.out.2.2.2.2 j x hx; exact ⟨A', c', r0, r1, r2, r3, r4, r5.below (hal1 _ _)⟩) (hdat.below (hal1 _ _)) hcd hB hg2 hown2
          have hbw2 : Below w.heap.size w w2 := below_row (hbw1.trans ((hal1 _ _).mono hbw1.size)) (hqs _ _) (hv1 _ _) (Nat.le_refl _) hg2
          clear hown2 hg2
          go_roundg (gk - kk)
          case measure => omega
          case rel =>
            have hst := Gr.rd_step (acc := acc) hrne HV.out.1
            rw [HR.out.1] at hst
            exact ⟨some ⟨bA, oA + kk, none⟩, gk - kk, c - kk, rest.drop kk, A2, c2, acc ++ [⟨sk, sf, sl, sd⟩], rfl, rfl, by simp, (hb.keep fun p hp => (hbw2.cell (Nat.lt_of_lt_of_le hp hB)).trans (hbw.cell (Nat.lt_of_lt_of_le hp hB)).symm).drop (by omega), by omega, by simpa using hso2, hst.symm, by simp; omega, hbw2⟩
      · have hff : ((f : Int) == 0) = false := by rw [beq_eq_false_iff_ne]; omega
        have hff2 : ((f : Int) != 0) = true := by rw [bne_iff_ne]; omega
        have hE := HR.out.1
        rw [Gr.rd_bad hrne hr hf] at hE
        have HE := Lib.hid hE
        clear hE hr
        have hal1 : ∀ o, Below w.heap.size w (w1.alloc o) := fun o => hbw1.alloc hbw1.size o
        go_wp2_with fail
        go_ret2
        have hE := HE.out
        subst hE
        exact ⟨none, 0, rfl, SP.nil _ _, Nat.le_refl _, hal1 _⟩
end Go.Proofs.Ytmnanbcinfdbaaa
