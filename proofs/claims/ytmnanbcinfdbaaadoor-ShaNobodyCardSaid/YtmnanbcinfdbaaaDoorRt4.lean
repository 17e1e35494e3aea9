/- The walk of the reference of sha: the first 32 bits behind the point of a root; conditions: none beyond its hypotheses. -/
import Derived.Test.YtmnanbcinfdbaaaDoorRt2
import Derived.Test.YtmnanbcinfdbaaaDoorRt3
namespace Go.Proofs.YtmnanbcinfdbaaaDoor
open Go.RowKit Go.Proofs.U
set_option linter.unusedVariables false

theorem OwnN.one (w : World) (x base : Nat) (hb : base ≤ w.heap.size) : OwnN (w.alloc (.cells #[.int .i64 (x : Int)] 3)) base (some ⟨w.heap.size, 0, none⟩) 1 1 [x] :=
  ⟨rfl, .inr ⟨w.heap.size, 1, _, rfl, hb, heap_alloc_new w _, Nat.le_refl _, by decide, rfl, rfl⟩⟩
def zerosN (p k : Nat) : List Nat := List.replicate k 0 ++ dgsN p
theorem zerosN_succ (p k : Nat) : [0] ++ zerosN p k = zerosN p (k + 1) := rfl
theorem zerosN_dig (p k : Nat) : Rp.Dig (zerosN p k) := dig_of fun x hx => by
  rcases List.mem_append.1 hx with h | h
  · rw [List.eq_of_mem_replicate h]; decide
  · simp only [dgsN, List.mem_cons, List.not_mem_nil, or_false] at h
    rcases h with rfl | rfl | rfl | rfl <;> omega
theorem zerosN_val (p k : Nat) (h : p ≤ 311) : Rp.val (zerosN p k) = p * 65536 ^ k := by
  unfold zerosN; rw [Rp.val_zeros, dgsN_val p (by omega), Nat.mul_comm]
def RootRet (w : World) (T k : Nat) (e : Ending) (w' : World) : Prop := ∃ r, Rp.isRoot r T k ∧ e = .returned (.int .u32 ((r % 4294967296 : Nat) : Int)) ∧ Below w.heap.size w w'

set_option maxRecDepth 100000 in
set_option maxHeartbeats 8000000 in
theorem root_any (p k : Nat) (hp : p ≤ 311) (hk : k = 2 ∨ k = 3) (w : World) : Calls Tryd.prog 103 #[.int .i64 (p : Int), .int .i64 (k : Int)] w (RootRet w (p * 65536 ^ (2 * k)) k) := by
  have hst : Rp.RInv (p * 65536 ^ (2 * k)) k 0 37 := by
    rcases hk with rfl | rfl
    · exact Rp.RInv.start2 hp
    · exact Rp.RInv.start3 hp
  have hk1 : 1 ≤ k := by omega
  have hk3 : k ≤ 3 := by omega
  have HST := Lib.hid hst
  clear hst hk
  go_enter Tryd.func103, Tryd.ntmps103
  go_wp2_with fail
  refine (digits_any p (by omega) w).mono ?_
  rintro e w1 ⟨A1, c1, l1, rfl, hown1, rfl, hb1⟩
  go_wp2_with fail
  go_loopg [5, 6] (2 * k) (fun r t i wr => ∃ (j : Nat) (A : Option Addr) (c : Nat), r + j = 2 * k ∧ i = .int .i64 (j : Int) ∧ t = .slice A (j + 4) c ∧ OwnN wr w.heap.size A (j + 4) c (zerosN p j) ∧ Below w.heap.size w wr)
  case atStart => exact ⟨0, A1, c1, rfl, rfl, rfl, hown1, hb1⟩
  case round =>
    clear hown1 hb1
    obtain ⟨j, A, c, hgk, rfl, rfl, hown, hbw⟩ := hrel
    have HGK := Lib.hid hgk
    obtain ⟨wo, rfl⟩ : ∃ wo : World, wo = wr := ⟨_, rfl⟩
    by_cases h4 : j < 2 * k
    · clear hgk
      have hal : Below wo.heap.size wo (wo.alloc (.cells #[.int .i64 ((0 : Nat) : Int)] 3)) := (Below.refl _ _).alloc (Nat.le_refl _) _
      have ho1 := OwnN.one wo 0 wo.heap.size (Nat.le_refl _)
      have hvs := (hown.below hal).vs
      have hq : (1 + (j + 4)) * 8 ≤ 140737488355328 := by omega
      have hq2 : 1 + (j + 4) ≤ maxLen := by unfold maxLen; omega
      have hbz : wo.heap.size ≤ (wo.alloc (.cells #[.int .i64 ((0 : Nat) : Int)] 3)).heap.size := hal.size
      go_wp2_with (at_builtin; refine wpList_appv Tryd.underlying102 infoI rfl rfl (.tmp 20) (.tmp 21) rfl wo.heap.size _ _ _ _ rfl ho1 _ _ (j + 4) c _ rfl hvs (oneN _) hq hq2 hbz ?_; intro A2 c2 w2 hown2 hg2 _)
      go_roundg (gk - 1)
      case measure => have := HGK.out; omega
      case rel =>
        refine ⟨j + 1, A2, c2, by have := HGK.out; omega, by go_num, by congr 1; omega, ?_, below_row (hbw.trans (hal.mono hbw.size)) (Nat.le_trans hbw.size hbz) ho1 hbw.size hg2⟩
        rw [← zerosN_succ, show j + 1 + 4 = 1 + (j + 4) by omega]
        refine OwnN.mono ?_ hbw.size
        unfold OwnN; rw [List.map_append]; exact hown2
    · obtain rfl : j = 2 * k := by omega
      clear hgk
      have hT := zerosN_val p (2 * k) hp
      have hTd := zerosN_dig p (2 * k)
      obtain ⟨tl, htl⟩ : ∃ tl, tl = zerosN p (2 * k) := ⟨_, rfl⟩
      rw [← htl] at hown hT hTd
      have HTL := Lib.hid (And.intro htl (And.intro hT hTd))
      clear htl hT hTd
      obtain ⟨n, hn⟩ : ∃ n, n = 2 * k + 4 := ⟨_, rfl⟩
      rw [← hn] at hown
      rw [← hn]
      have hn1 : 0 < n := by omega
      have hn2 : n ≤ 1000 := by omega
      have HN := Lib.hid hn
      clear hn
      go_wp2_with fail
      go_loopg [7, 8] 37 (fun r rr b wr => ∃ R : Nat, b = .int .i64 ((r : Int) - 1) ∧ rr = .int .i64 (R : Int) ∧ Rp.RInv (p * 65536 ^ (2 * k)) k R r ∧ r ≤ 37 ∧ OwnN wr w.heap.size A n c tl ∧ Below w.heap.size w wr)
      case atStart => exact ⟨0, rfl, rfl, HST.out, Nat.le_refl _, hown, hbw⟩
      case round =>
        clear hown hbw
        obtain ⟨R, rfl, rfl, hinv, hr, hown, hbw⟩ := hrel
        obtain ⟨wq, rfl⟩ : ∃ wq : World, wq = wr := ⟨_, rfl⟩
        have HI := Lib.hid hinv
        clear hinv
        rcases Nat.eq_zero_or_pos gk with rfl | hpos
        · have e0 : ((0 : Nat) : Int) - 1 = -1 := rfl
          rw [e0]
          have hR : R ≤ 137438953472 := by have := HI.out.2.2; omega
          obtain ⟨y, hy⟩ : ∃ y, y = R % 4294967296 := ⟨_, rfl⟩
          have hyi : (R : Int) % 4294967296 = (y : Int) := by omega
          have hyb : y < 4294967296 := by omega
          have HY := Lib.hid hy
          clear hy
          go_wp2_with fail
          go_ret
          exact ⟨R, HI.out.root, by rw [← HY.out]; rfl, hbw⟩
        · obtain ⟨b, rfl⟩ : ∃ b, gk = b + 1 := ⟨gk - 1, by omega⟩
          have e0 : ((b + 1 : Nat) : Int) - 1 = (b : Int) := by omega
          rw [e0]
          have hcap := HI.out.2.2
          obtain ⟨q, hq⟩ : ∃ q : Nat, q = 2 ^ b := ⟨_, rfl⟩
          rw [Nat.pow_succ, ← hq] at hcap
          have hX : R + q ≤ 137438953472 := by omega
          have hq0 : q ≤ 137438953472 := by omega
          have hs : wrap64 ((2 : Int) ^ b) = (q : Int) := by
            have : ((2 : Int) ^ b) = ((2 ^ b : Nat) : Int) := by push_cast; rfl
            rw [this, ← hq]
            exact IntWalk.wrap64_in _ (by omega)
          have HQ := Lib.hid hq
          obtain ⟨X, hXe⟩ : ∃ X, X = R + q := ⟨_, rfl⟩
          have hXi : (R : Int) + (q : Int) = (X : Int) := by omega
          rw [← hXe] at hX
          have HX := Lib.hid hXe
          clear hq hcap hXe
          go_wp2_with fail
          refine (digits_any X (by omega) wq).mono ?_
          rintro e w2 ⟨A2, c2, l2, rfl, hown2, rfl, hb2⟩
          have hbw2 := hbw.trans (hb2.mono hbw.size)
          have hv2 := hown2.vs
          have hdx := dgsN_dig X
          have hvx := dgsN_val X (by omega)
          obtain ⟨xl, hxl⟩ : ∃ xl, xl = dgsN X := ⟨_, rfl⟩
          rw [← hxl] at hv2 hdx hvx hown2
          have HXL := Lib.hid (And.intro hxl (And.intro hdx hvx))
          clear hxl hdx hvx
          have hownt := hown.below hb2
          obtain ⟨w3, hw3⟩ : ∃ w3, w3 = w2 := ⟨_, rfl⟩
          go_wp2_with fail
          go_loopg [10, 11] (k - 1) (fun r al i wr => ∃ (j n2 : Nat) (A3 : Option Addr) (c3 : Nat) (l3 : List Nat), r + j = k ∧ 1 ≤ j ∧ i = .int .i64 (j : Int) ∧ al = .slice A3 n2 c3 ∧ n2 = 4 * j ∧ OwnN wr w.heap.size A3 n2 c3 l3 ∧ Rp.Dig l3 ∧ Rp.val l3 = X ^ j ∧ Below w2.heap.size w2 wr)
          case atStart => exact ⟨1, 4, A2, c2, xl, by omega, Nat.le_refl _, rfl, rfl, rfl, hown2.mono hbw.size, HXL.out.2.1, by rw [HXL.out.2.2, Nat.pow_one], Below.refl _ _⟩
          case round =>
            obtain ⟨j, n2, A3, c3, l3, hgk, hj1, rfl, rfl, hn2, hown3, hdl3, hvl3, hb3⟩ := hrel
            have HGK2 := Lib.hid hgk
            have HN2 := Lib.hid hn2
            have hn2a : 0 < n2 := by omega
            have hn2b : n2 ≤ 1000 := by omega
            have HL3 := Lib.hid hvl3
            by_cases hjk : j < k
            · clear hgk hn2 hvl3
              go_wp2_with fail
              refine (times_any A3 A2 n2 4 c3 c2 l3 xl wr hown3.vs (VS.stay hv2 hb3) hdl3 HXL.out.2.1 hn2a (by decide) hn2b (by decide)).mono ?_
              rintro e w4 ⟨A4, c4, l4, rfl, hown4, ⟨hd4, hv4⟩, hb4⟩
              have HV4 := Lib.hid hv4
              clear hv4
              obtain ⟨n4, hn4⟩ : ∃ n4, n4 = n2 + 4 := ⟨_, rfl⟩
              rw [← hn4] at hown4
              rw [← hn4]
              have HN4 := Lib.hid hn4
              clear hn4
              go_wp2_with fail
              go_roundg (gk - 1)
              case measure => have := HGK2.out; omega
              case rel =>
                refine ⟨j + 1, n4, A4, c4, l4, by have := HGK2.out; omega, by omega, by go_num, rfl, by have := HN4.out; have := HN2.out; omega, hown4.mono ?_, hd4, by rw [HV4.out, HL3.out, HXL.out.2.2, Nat.pow_succ], hb3.trans (hb4.mono hb3.size)⟩
                exact Nat.le_trans hbw2.size hb3.size
            · obtain rfl : j = k := by omega
              clear hgk hn2 hvl3
              go_wp2_with fail
              refine (above_any A3 A n2 n c3 c l3 tl wr hown3.vs (VS.stay hownt.vs hb3) hdl3 HTL.out.2.2 hn2a hn1 hn2b hn2).mono ?_
              rintro e w5 ⟨rfl, rfl⟩
              have hbw5 := hbw2.trans (hb3.mono hbw2.size)
              have hown5 := hownt.below hb3
              cases hab : abB l3 tl
              · have hle : (R + 2 ^ b) ^ j ≤ p * 65536 ^ (2 * j) := by
                  have := of_decide_eq_false hab
                  rw [HL3.out, HTL.out.2.1, HX.out, HQ.out] at this
                  omega
                have HLE := Lib.hid hle
                clear hle
                go_wp2_with fail
                go_roundg b
                case measure => omega
                case rel =>
                  exact ⟨X, by go_num, rfl, by rw [HX.out, HQ.out]; exact HI.out.up HLE.out, by omega, hown5, hbw5⟩
              · have hle : ¬ (R + 2 ^ b) ^ j ≤ p * 65536 ^ (2 * j) := by
                  have := of_decide_eq_true hab
                  rw [HL3.out, HTL.out.2.1, HX.out, HQ.out] at this
                  omega
                have HLE := Lib.hid hle
                clear hle
                go_wp2_with fail
                go_roundg b
                case measure => omega
                case rel =>
                  exact ⟨R, by go_num, rfl, HI.out.stay HLE.out, by omega, hown5, hbw5⟩
end Go.Proofs.YtmnanbcinfdbaaaDoor
