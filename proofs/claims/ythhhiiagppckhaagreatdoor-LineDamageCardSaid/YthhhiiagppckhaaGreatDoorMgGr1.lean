/- The walks of grain's eye; conditions: none beyond their hypotheses. -/
import Derived.Test.YthhhiiagppckhaaGreatDoorMgSl
import Derived.Test.YthhhiiagppckhaaGreatDoorMgU
set_option linter.unusedSimpArgs false
set_option linter.unusedVariables false
section
namespace Go.Proofs.YthhhiiagppckhaaGreatDoor
open Go.RowKit Go.Proofs.U
set_option linter.unusedVariables false

/-- an eye: what is left of its bytes, its fault -/
def EyeW (w : World) (T : TypeId) (g B0 : Nat) (b : List UInt8) (f : Nat) : Prop :=
  ∃ A n c, Blk w g T #[.slice A n c, .int .i64 (f : Int)] ∧ BS w B0 A n b ∧ n ≤ c ∧ B0 ≤ g
theorem EyeW.lt {w : World} {T : TypeId} {g B0 : Nat} {b : List UInt8} {f : Nat} (h : EyeW w T g B0 b f) : g < w.heap.size := by obtain ⟨_, _, _, hb, _⟩ := h; exact hb.lt
theorem EyeW.c1 {w : World} {T : TypeId} {g B0 : Nat} {b : List UInt8} {f : Nat} (h : EyeW w T g B0 b f) : w.cell? ⟨g, 1, none⟩ = some (.int .i64 (f : Int)) := by obtain ⟨_, _, _, hb, _⟩ := h; rw [hb.cell]; rfl
theorem EyeW.below {w w' : World} {T : TypeId} {g B0 : Nat} {b : List UInt8} {f : Nat} (h : EyeW w T g B0 b f) (hb : Below w.heap.size w w') : EyeW w' T g B0 b f := by
  obtain ⟨A, n, c, h1, h2, h3, h4⟩ := h
  exact ⟨A, n, c, h1.stay hb, h2.keep fun p hp => hb.cell (by have := h1.lt; omega), h3, h4⟩
theorem EyeW.grown {w w' : World} {T : TypeId} {g g' B0 : Nat} {b : List UInt8} {f : Nat} (h : EyeW w T g B0 b f) (hg : w.grownBy w' (some g')) (hne : g ≠ g') (hB : B0 ≤ g') : EyeW w' T g B0 b f := by
  obtain ⟨A, n, c, h1, h2, h3, h4⟩ := h
  exact ⟨A, n, c, h1.grown hg (by intro e; injection e with e; exact hne e), h2.grown hg (by have := h1.lt; omega) (fun k hk => by injection hk; omega), h3, h4⟩
theorem EyeW.drewN {w : World} {T : TypeId} {g B0 : Nat} {b : List UInt8} {f : Nat} (h : EyeW w T g B0 b f) (n : Nat) : EyeW (w.drewN n) T g B0 b f := h
theorem eye_put {w w' : World} {T : TypeId} {g B0 : Nat} {A : Option Addr} {n c f : Nat} {b : List UInt8} (hk : Blk w' g T #[.slice A n c, .int .i64 (f : Int)]) (hb : BS w B0 A n b) (hc : n ≤ c) (hB : B0 ≤ g) (hg : w.grownBy w' (some g)) (hl : B0 ≤ w.heap.size) : EyeW w' T g B0 b f :=
  ⟨A, n, c, hk, hb.grown hg hl (fun k hk => by injection hk; omega), hc, hB⟩
theorem bs_from {w : World} {B n k : Nat} {A : Option Addr} {bs : List UInt8} (h : BS w B A n bs) (hk : k ≤ n) : BS w B (A.map fun x => x.add k) (n - k) (bs.drop k) := by
  by_cases h0 : n = 0
  · subst h0
    obtain rfl := List.eq_nil_of_length_eq_zero h.1
    rw [Nat.zero_sub, List.drop_nil]; exact BS.nil _ _ _
  · obtain ⟨b, off, rfl, _, _⟩ := h.2 (by omega)
    show BS w B (some ((⟨b, off, none⟩ : Addr).add k)) _ _
    rw [addr_add]; exact h.drop hk
theorem bs_same {w : World} {B n k : Nat} {A A' : Option Addr} {bs : List UInt8} (h : BS w B A n bs) (hk : k ≤ n) (hA : n - k = 0 ∨ A' = A.map fun x => x.add k) : BS w B A' (n - k) (bs.drop k) := by
  rcases hA with h0 | rfl
  · rw [h0, List.drop_of_length_le (by rw [h.1]; omega)]; exact BS.nil _ _ _
  · exact bs_from h hk

set_option maxHeartbeats 1000000 in
theorem eopen_any (A : Option Addr) (n c B0 : Nat) (b : List UInt8) (w : World) (hb : BS w B0 A n b) (hB : B0 ≤ w.heap.size) (hc : n ≤ c) :
    Calls Tryz.prog 34 #[.slice A n c] w fun e w' => ∃ g, e = .returned (.pointer (some ⟨g, 0, none⟩)) ∧ w.heap.size ≤ g ∧ EyeW w' 117 g B0 b 0 ∧ Below w.heap.size w w' := by
  have hal : ∀ o, Below w.heap.size w (w.alloc o) := fun o => (Below.refl _ _).alloc (Nat.le_refl _) _
  go_enter Tryz.func34, Tryz.ntmps34
  go_wp2_with fail
  go_ret
  exact ⟨_, rfl, Nat.le_refl _, ⟨A, n, c, Blk.new _ _ _, hb.below ((hal _).mono hB), hc, hB⟩, hal _⟩
def FailRet (w : World) (T : TypeId) (g B0 : Nat) (r : List UInt8 × Nat) (e : Ending) (w' : World) : Prop := e = .returned (.tuple #[]) ∧ EyeW w' T g B0 r.1 r.2 ∧ w.grownBy w' (some g)
set_option maxHeartbeats 1000000 in
theorem efail_any (g B0 : Nat) (b : List UInt8) (f code : Nat) (hc0 : 0 < code) (w : World) (h : EyeW w 117 g B0 b f) :
    Calls Tryz.prog 37 #[.pointer (some ⟨g, 0, none⟩), .int .i64 (code : Int)] w (FailRet w 117 g B0 (Gr.efail code b f)) := by
  obtain ⟨A, n, c, hk, hb, hc, hB⟩ := id h
  have hlt := hk.lt
  have c1 := hk.cell 1
  have c0 := hk.cell 0
  have f0 := hk.frozen 0
  have f1 := hk.frozen 1
  simp at c0 c1
  by_cases hf : f = 0
  · subst hf
    rw [Gr.efail_new _ _ (by omega)]
    have s1 := (hk.set_ 0 (.slice none 0 0)).set_ 1 (.int .i64 (code : Int))
    have hg : w.grownBy ((w.setCell ⟨g, 0, none⟩ (.slice none 0 0)).setCell ⟨g, 1, none⟩ (.int .i64 (code : Int))) (some g) := only_two
    have HS := Lib.hid (And.intro s1 hg)
    have hcode : ((code : Int) == 0) = false := by rw [beq_eq_false_iff_ne]; omega
    have hcode2 : ((code : Int) != 0) = true := by rw [bne_iff_ne]; omega
    clear s1 hg
    go_enter Tryz.func37, Tryz.ntmps37
    go_wp2_with fail
    go_end0
    exact ⟨rfl, eye_put HS.out.1 (BS.nil w B0 none) (Nat.le_refl _) hB HS.out.2 (by omega), HS.out.2⟩
  · rw [Gr.efail_old _ _ _ hf]
    have hff : ((f : Int) == 0) = false := by rw [beq_eq_false_iff_ne]; omega
    go_enter Tryz.func37, Tryz.ntmps37
    go_wp2_with fail
    go_end0
    exact ⟨rfl, h, World.grownBy.refl _ _⟩
set_option maxHeartbeats 1000000 in
theorem eleft_any (g B0 : Nat) (b : List UInt8) (f : Nat) (w : World) (h : EyeW w 117 g B0 b f) :
    Calls Tryz.prog 65 #[.pointer (some ⟨g, 0, none⟩)] w fun e w' => e = .returned (.int .i64 (b.length : Int)) ∧ w = w' := by
  obtain ⟨A, n, c, hk, hb, hc, hB⟩ := h
  have c0 := hk.cell 0
  simp at c0
  have hl := hb.1
  subst hl
  go_enter Tryz.func65, Tryz.ntmps65
  go_wp2_with fail
  go_ret
  exact ⟨rfl, rfl⟩
set_option maxHeartbeats 1000000 in
theorem efault_any (g B0 : Nat) (b : List UInt8) (f : Nat) (w : World) (h : EyeW w 117 g B0 b f) :
    Calls Tryz.prog 64 #[.pointer (some ⟨g, 0, none⟩)] w fun e w' => e = .returned (.int .i64 (f : Int)) ∧ w = w' := by
  obtain ⟨A, n, c, hk, hb, hc, hB⟩ := h
  have c1 := hk.cell 1
  simp at c1
  go_enter Tryz.func64, Tryz.ntmps64
  go_wp2_with fail
  go_ret
  exact ⟨rfl, rfl⟩
def TakeRet (w : World) (T : TypeId) (g B0 k : Nat) (x : List UInt8) (r : List UInt8 × Nat) (e : Ending) (w' : World) : Prop :=
  ∃ A c, e = .returned (.slice A k c) ∧ k ≤ c ∧ BS w' B0 A k x ∧ EyeW w' T g B0 r.1 r.2 ∧ w.grownBy w' (some g)
set_option maxHeartbeats 1000000 in
theorem etake_no (g B0 : Nat) (b : List UInt8) (f k : Nat) (hn : b.length < k) (w : World) (h : EyeW w 117 g B0 b f) :
    Calls Tryz.prog 59 #[.pointer (some ⟨g, 0, none⟩), .int .i64 (k : Int)] w (TakeRet w 117 g B0 0 [] (Gr.efail 11 b f)) := by
  obtain ⟨A, n, c, hk, hb, hc, hB⟩ := id h
  have c0 := hk.cell 0
  simp at c0
  have hl := hb.1
  subst hl
  go_enter Tryz.func59, Tryz.ntmps59
  go_wp2_with fail
  refine (efail_any g B0 b f 11 (by omega) w h).mono ?_
  rintro e w1 ⟨rfl, he, hg⟩
  go_wp2_with fail
  go_ret
  exact ⟨none, 0, rfl, Nat.le_refl _, BS.nil _ _ _, he, hg⟩
set_option maxHeartbeats 1000000 in
theorem etake_yes (g B0 : Nat) (b : List UInt8) (f k : Nat) (hn : k ≤ b.length) (hm : b.length ≤ 4611686018427387904) (w : World) (h : EyeW w 117 g B0 b f) :
    Calls Tryz.prog 59 #[.pointer (some ⟨g, 0, none⟩), .int .i64 (k : Int)] w (TakeRet w 117 g B0 k (b.take k) (b.drop k, f)) := by
  obtain ⟨A, n, c, hk, hb, hc, hB⟩ := id h
  have hlt := hk.lt
  have c0 := hk.cell 0
  have f0 := hk.frozen 0
  simp at c0
  have hl := hb.1
  have HL := Lib.hid hl
  have hkn : k ≤ n := by omega
  have hn' : n ≤ 4611686018427387904 := by omega
  have e1 : ¬ ((n : Int) < (k : Int)) := by omega
  have e2 : (k : Int) ≤ (n : Int) := by omega
  have e3 : (k : Int) ≤ (c : Int) := by omega
  have hs := fun V => hk.set_ 0 V
  have hg := fun V => only_setCell (World.grownBy.refl w (some g)) (p := ⟨g, 0, none⟩) (.inl rfl) V
  have HS := Lib.hid (And.intro hs hg)
  clear hl hs hg
  have hB0 : B0 ≤ w.heap.size := by omega
  have hbt : ∀ V, BS (w.setCell ⟨g, 0, none⟩ V) B0 A k (b.take k) := fun V => (hb.take hkn).grown (HS.out.2 V) hB0 (fun k hk => by injection hk; omega)
  have HBT := Lib.hid hbt
  clear hbt
  cases A with
  | none =>
    have hn0 : n = 0 := by
      rcases Nat.eq_zero_or_pos n with h0 | h0
      · exact h0
      · obtain ⟨_, _, e, _⟩ := hb.2 h0; cases e
    subst hn0
    obtain rfl : k = 0 := by omega
    obtain rfl : b = [] := List.eq_nil_of_length_eq_zero hb.1
    by_cases hc0 : c = 0
    · subst hc0
      go_enter Tryz.func59, Tryz.ntmps59
      go_wp2_with fail
      go_ret
      exact ⟨none, 0, rfl, by omega, BS.nil _ _ _, eye_put (HS.out.1 _) (BS.nil w B0 none) (Nat.le_refl _) hB (HS.out.2 _) hB0, HS.out.2 _⟩
    · go_enter Tryz.func59, Tryz.ntmps59
      go_wp2_with fail
      go_ret
      exact ⟨none, _, rfl, by omega, BS.nil _ _ _, eye_put (HS.out.1 _) (BS.nil w B0 none) (Nat.zero_le _) hB (HS.out.2 _) hB0, HS.out.2 _⟩
  | some ad =>
    by_cases hck : c = k
    · subst hck
      go_enter Tryz.func59, Tryz.ntmps59
      go_wp2_with fail
      go_ret
      refine ⟨some ad, c, rfl, by omega, HBT.out _, eye_put (HS.out.1 _) ?_ (by omega) hB (HS.out.2 _) hB0, HS.out.2 _⟩
      rw [List.drop_of_length_le (by rw [HL.out]; omega)]
      first
        | exact BS.nil _ _ _
        | (rw [show n - c = 0 by omega]; exact BS.nil _ _ _)
    · go_enter Tryz.func59, Tryz.ntmps59
      go_wp2_with fail
      go_ret
      exact ⟨some ad, c, rfl, by omega, HBT.out _, eye_put (HS.out.1 _) (bs_same hb hkn (.inr rfl)) (by omega) hB (HS.out.2 _) hB0, HS.out.2 _⟩

def NumRet (w : World) (T : TypeId) (g B0 : Nat) (r : Nat × List UInt8 × Nat) (e : Ending) (w' : World) : Prop :=
  e = .returned (.int .u64 (r.1 : Int)) ∧ EyeW w' T g B0 r.2.1 r.2.2 ∧ w.grownBy w' (some g)
theorem wrapU64 (n : Int) : IntKind.u64.wrap n = n % 18446744073709551616 := by simp [IntKind.wrap, IntKind.bits, IntKind.signed]
theorem u8_cast (c : UInt8) : (c.toNat : Int) = ((c.toNat : Nat) : Int) := rfl
theorem shl8_or (n : Nat) (c : UInt8) (h : n < 72057594037927936) : bits .or .u64 ((n : Int) * 256) (IntKind.u64.wrap (c.toNat : Int)) = ((n * 256 + c.toNat : Nat) : Int) := by
  have hc := c.toNat_lt
  have h0 : IntKind.u64.wrap (c.toNat : Int) = (c.toNat : Int) := by rw [wrapU64]; omega
  have h1 : bits .or .u64 ((n : Int) * 256) (c.toNat : Int) = IntKind.u64.wrap (((BitVec.ofInt 64 ((n : Int) * 256) ||| BitVec.ofInt 64 (c.toNat : Int)).toNat : Nat) : Int) := rfl
  rw [h0, h1, show (n : Int) * 256 = ((n * 256 : Nat) : Int) by omega, BitVec.ofInt_natCast, BitVec.ofInt_natCast, BitVec.toNat_or, BitVec.toNat_ofNat, BitVec.toNat_ofNat, Nat.mod_eq_of_lt (by omega), Nat.mod_eq_of_lt (a := c.toNat) (by omega)]
  rw [show n * 256 = n <<< 8 by rw [Nat.shiftLeft_eq], ← Nat.shiftLeft_add_eq_or_of_lt (by omega), wrapU64]
  rw [Nat.shiftLeft_eq]; omega

set_option maxHeartbeats 2000000 in
theorem enum_any (g B0 : Nat) (b : List UInt8) (f most : Nat) (hmost : most < 18446744073709551616) (hm : b.length ≤ 4611686018427387904) (w : World) (h : EyeW w 117 g B0 b f) :
    Calls Tryz.prog 35 #[.pointer (some ⟨g, 0, none⟩), .int .u64 (most : Int)] w (NumRet w 117 g B0 (Gr.enum most b f)) := by
  obtain ⟨A, n, c, hk, hb, hc, hB⟩ := id h
  have hlt := hk.lt
  have c1 := hk.cell 1
  simp at c1
  obtain ⟨R, hR⟩ : ∃ R, R = Gr.enum most b f := ⟨_, rfl⟩
  rw [← hR]
  have HR := Lib.hid hR
  clear hR
  by_cases hf : f = 0
  · subst hf
    have hs0 : B0 ≤ w.heap.size := by omega
    cases b with
    | nil =>
      go_enter Tryz.func35, Tryz.ntmps35
      go_wp2_with fail
      refine (etake_no g B0 [] 0 1 (by simp) w h).mono ?_
      rintro e w1 ⟨A1, c1', rfl, _, _, he1, hg1⟩
      go_wp2_with fail
      go_ret
      have hE := HR.out.trans (Gr.enum_nil most); subst hE
      exact ⟨rfl, he1, hg1⟩
    | cons x r =>
      have hxl := x.toNat_lt
      have hml : r.length ≤ 4611686018427387904 := by simp at hm; omega
      go_enter Tryz.func35, Tryz.ntmps35
      go_wp2_with fail
      refine (etake_yes g B0 (x :: r) 0 1 (by simp) hm w h).mono ?_
      rintro e w1 ⟨A1, c1', rfl, hc1, hb1, he1, hg1⟩
      simp only [List.take_succ_cons, List.take_zero, List.drop_succ_cons, List.drop_zero] at hb1 he1 hc1 ⊢
      obtain ⟨b1, o1, rfl, hlt1, hcell1⟩ := hb1.2 (by omega)
      have k1 := hcell1 0 (by simp)
      simp at k1
      clear hcell1 hm
      by_cases hw : 8 < x.toNat
      · have hw' : (8 : Int) < (x.toNat : Int) := by omega
        go_wp2_with fail
        refine (efail_any g B0 r 0 10 (by omega) w1 he1).mono ?_
        rintro e w2 ⟨rfl, he2, hg2⟩
        go_wp2_with fail
        go_ret
        have hE := HR.out.trans (Gr.enum_wide most x r hw); subst hE
        exact ⟨rfl, he2, only_trans hg1 hg2⟩
      · have hw' : ¬ (8 : Int) < (x.toNat : Int) := by omega
        by_cases hsh : r.length < x.toNat
        · go_wp2_with fail
          refine (etake_no g B0 r 0 x.toNat hsh w1 he1).mono ?_
          rintro e w2 ⟨A2, c2', rfl, _, _, he2, hg2⟩
          have he2' : EyeW w2 117 g B0 [] 11 := he2
          obtain ⟨A3, n3, c3, hk3, _⟩ := id he2'
          have k3 := hk3.cell 1
          simp at k3
          clear hk3
          go_wp2_with fail
          have hmz : ¬ ((most : Int) < 0) := by omega
          go_loop [4, 48] (fun y i => y = .int .u64 0 ∧ i = .int .i64 0) (fun _ _ => 0)
          case atStart => exact ⟨rfl, rfl⟩
          case round =>
            obtain ⟨rfl, rfl⟩ := hrel
            go_wp2_with fail
            go_ret
            have hE := HR.out.trans (Gr.enum_short most x r (by omega) hsh); subst hE
            exact ⟨rfl, he2', only_trans hg1 hg2⟩
        · obtain ⟨m, hm⟩ : ∃ m, m = x.toNat := ⟨_, rfl⟩
          rw [← hm] at hw hsh hw'
          have HM := Lib.hid hm
          rw [← hm] at k1
          clear hm hxl
          go_wp2_with fail
          refine (etake_yes g B0 r 0 m (by omega) hml w1 he1).mono ?_
          rintro e w2 ⟨A2, c2', rfl, hc2, hb2, he2, hg2⟩
          have hgr2 := only_trans hg1 hg2
          simp only at he2
          obtain ⟨N, hN⟩ : ∃ N, N = Gr.be (r.take m) := ⟨_, rfl⟩
          have HN := Lib.hid hN
          clear hN
          by_cases hz : 0 < m ∧ r[0]? = some 0
          · obtain ⟨hm0, hz0⟩ := hz
            obtain ⟨b2, o2, rfl, hlt2, hcell2⟩ := hb2.2 hm0
            have k2 := hcell2 0 (by simp; omega)
            have hr0 : (r.take m)[0]'(by simp; omega) = 0 := by
              have : (r.take m)[0]? = some 0 := by rw [List.getElem?_take, if_pos hm0]; exact hz0
              exact (List.getElem?_eq_some_iff.1 this).2
            rw [hr0] at k2
            simp at k2
            clear hcell2 hr0
            go_wp2_with fail
            refine (efail_any g B0 (r.drop m) 0 10 (by omega) w2 he2).mono ?_
            rintro e w3 ⟨rfl, he3, hg3⟩
            have he3' : EyeW w3 117 g B0 [] 10 := he3
            have hb3 : BS w3 B0 (some ⟨b2, o2, none⟩) m (r.take m) := hb2.grown hg3 (by have := he2.lt; omega) (fun k hk => by injection hk; omega)
            have hgr3 := only_trans hgr2 hg3
            clear k2 hb2 he2 he3
            go_wp2_with fail
            go_loop [4, 48] (fun y i => ∃ k : Nat, k ≤ m ∧ i = .int .i64 k ∧ y = .int .u64 ((Gr.be (r.take k) : Nat) : Int)) (fun _ i => m - (intOf i).toNat)
            case atStart => exact ⟨0, Nat.zero_le _, rfl, rfl⟩
            case round =>
              obtain ⟨k, hk, rfl, rfl⟩ := hrel
              by_cases hlt : k < m
              · obtain ⟨d, hd⟩ : ∃ d, r[k]? = some d := ⟨_, List.getElem?_eq_getElem (by omega)⟩
                have hcell : w3.cell? ⟨b2, o2 + k, none⟩ = some (.int .u8 (d.toNat : Int)) := hb3.cells k d (by rw [List.getElem?_take, if_pos hlt]; exact hd)
                have hbe := Gr.be_take r k d hd
                have h7 := Gr.be_lt7 r k (by omega)
                obtain ⟨q, hq⟩ : ∃ q, q = Gr.be (r.take k) := ⟨_, rfl⟩
                rw [← hq] at hbe h7 ⊢
                have HB := Lib.hid hbe
                clear hbe hq hd
                go_wp2_with fail
                go_round
                case rel => exact ⟨k + 1, by omega, by go_num, by rw [HB.out, ← shl8_or q d h7]⟩
                case measure => simp [intOf]; omega
              · obtain rfl : k = m := by omega
                rw [← HN.out]
                have hn64 : N < 18446744073709551616 := by rw [HN.out]; exact Gr.be_lt8 r _ (by omega)
                by_cases hmu : most < N
                · go_wp2_with fail
                  refine (efail_any g B0 [] 10 13 (by omega) w3 he3').mono ?_
                  rintro e w4 ⟨rfl, he4, hg4⟩
                  have he4' : EyeW w4 117 g B0 [] 10 := he4
                  have k4 := he4'.c1
                  go_wp2_with fail
                  go_ret
                  have hE := HR.out.trans (Gr.enum_zero most x r (by rw [← HM.out]; omega) (by rw [← HM.out]; omega) (by rw [← HM.out]; omega) hz0); subst hE
                  exact ⟨rfl, he4', only_trans hgr3 hg4⟩
                · have k4 := he3'.c1
                  go_wp2_with fail
                  go_ret
                  have hE := HR.out.trans (Gr.enum_zero most x r (by rw [← HM.out]; omega) (by rw [← HM.out]; omega) (by rw [← HM.out]; omega) hz0); subst hE
                  exact ⟨rfl, he3', hgr3⟩
          · by_cases hm0 : 0 < m
            · obtain ⟨b2, o2, rfl, hlt2, hcell2⟩ := hb2.2 hm0
              have k2 := hcell2 0 (by simp; omega)
              obtain ⟨d0, hd0⟩ : ∃ d0, (r.take m)[0]'(by simp; omega) = d0 := ⟨_, rfl⟩
              rw [hd0] at k2
              have hd1 : d0.toNat ≠ 0 := by
                intro e0
                apply hz
                refine ⟨hm0, ?_⟩
                have h1 : (r.take m)[0]? = some d0 := List.getElem?_eq_some_iff.2 ⟨by simp; omega, hd0⟩
                rw [List.getElem?_take, if_pos hm0] at h1
                rw [h1]; congr 1
                exact UInt8.toNat_inj.1 (by simpa using e0)
              have hd2 : ((d0.toNat : Int) == 0) = false := by rw [beq_eq_false_iff_ne]; omega
              simp at k2
              clear hcell2 hd0 hd1
              have HZ := Lib.hid hz
              clear hz
              go_wp2_with fail
              clear k2 hd2
              go_loop [4, 48] (fun y i => ∃ k : Nat, k ≤ m ∧ i = .int .i64 k ∧ y = .int .u64 ((Gr.be (r.take k) : Nat) : Int)) (fun _ i => m - (intOf i).toNat)
              case atStart => exact ⟨0, Nat.zero_le _, rfl, rfl⟩
              case round =>
                obtain ⟨k, hk, rfl, rfl⟩ := hrel
                by_cases hlt : k < m
                · obtain ⟨d, hd⟩ : ∃ d, r[k]? = some d := ⟨_, List.getElem?_eq_getElem (by omega)⟩
                  have hcell : w2.cell? ⟨b2, o2 + k, none⟩ = some (.int .u8 (d.toNat : Int)) := hb2.cells k d (by rw [List.getElem?_take, if_pos hlt]; exact hd)
                  have hbe := Gr.be_take r k d hd
                  have h7 := Gr.be_lt7 r k (by omega)
                  obtain ⟨q, hq⟩ : ∃ q, q = Gr.be (r.take k) := ⟨_, rfl⟩
                  rw [← hq] at hbe h7 ⊢
                  have HB := Lib.hid hbe
                  clear hbe hq hd
                  go_wp2_with fail
                  go_round
                  case rel => exact ⟨k + 1, by omega, by go_num, by rw [HB.out, ← shl8_or q d h7]⟩
                  case measure => simp [intOf]; omega
                · obtain rfl : k = m := by omega
                  rw [← HN.out]
                  have hn64 : N < 18446744073709551616 := by rw [HN.out]; exact Gr.be_lt8 r _ (by omega)
                  by_cases hmu : most < N
                  · go_wp2_with fail
                    refine (efail_any g B0 _ 0 13 (by omega) w2 he2).mono ?_
                    rintro e w4 ⟨rfl, he4, hg4⟩
                    have he4' : EyeW w4 117 g B0 [] 13 := he4
                    have k4 := he4'.c1
                    go_wp2_with fail
                    go_ret
                    have hE := HR.out.trans (Gr.enum_much most x r (by rw [← HM.out]; omega) (by rw [← HM.out]; omega) (by rw [← HM.out]; exact HZ.out) (by rw [← HM.out, ← HN.out]; exact hmu)); subst hE
                    exact ⟨rfl, he4', only_trans hgr2 hg4⟩
                  · have k4 := he2.c1
                    go_wp2_with fail
                    go_ret
                    have hE := HR.out.trans (Gr.enum_ok most x r (by rw [← HM.out]; omega) (by rw [← HM.out]; omega) (by rw [← HM.out]; exact HZ.out) (by rw [← HM.out, ← HN.out]; omega)); subst hE
                    rw [← HM.out, ← HN.out]
                    exact ⟨rfl, he2, hgr2⟩
            · obtain rfl : m = 0 := by omega
              have HZ := Lib.hid hz
              clear hz
              go_wp2_with fail
              go_loop [4, 48] (fun y i => ∃ k : Nat, k ≤ 0 ∧ i = .int .i64 k ∧ y = .int .u64 ((Gr.be (r.take k) : Nat) : Int)) (fun _ i => 0 - (intOf i).toNat)
              case atStart => exact ⟨0, Nat.zero_le _, rfl, rfl⟩
              case round =>
                obtain ⟨k, hk, rfl, rfl⟩ := hrel
                by_cases hlt : k < 0
                · omega
                · obtain rfl : k = 0 := by omega
                  rw [← HN.out]
                  have hn64 : N < 18446744073709551616 := by rw [HN.out]; exact Gr.be_lt8 r _ (by omega)
                  by_cases hmu : most < N
                  · go_wp2_with fail
                    refine (efail_any g B0 _ 0 13 (by omega) w2 he2).mono ?_
                    rintro e w4 ⟨rfl, he4, hg4⟩
                    have he4' : EyeW w4 117 g B0 [] 13 := he4
                    have k4 := he4'.c1
                    go_wp2_with fail
                    go_ret
                    have hE := HR.out.trans (Gr.enum_much most x r (by rw [← HM.out]; omega) (by rw [← HM.out]; omega) (by rw [← HM.out]; exact HZ.out) (by rw [← HM.out, ← HN.out]; exact hmu)); subst hE
                    exact ⟨rfl, he4', only_trans hgr2 hg4⟩
                  · have k4 := he2.c1
                    go_wp2_with fail
                    go_ret
                    have hE := HR.out.trans (Gr.enum_ok most x r (by rw [← HM.out]; omega) (by rw [← HM.out]; omega) (by rw [← HM.out]; exact HZ.out) (by rw [← HM.out, ← HN.out]; omega)); subst hE
                    rw [← HM.out, ← HN.out]
                    exact ⟨rfl, he2, hgr2⟩
  · have hff : ((f : Int) == 0) = false := by rw [beq_eq_false_iff_ne]; omega
    have hff2 : ((f : Int) != 0) = true := by rw [bne_iff_ne]; omega
    go_enter Tryz.func35, Tryz.ntmps35
    go_wp2_with fail
    go_ret
    have hE := HR.out.trans (Gr.enum_fault most b f hf); subst hE
    exact ⟨rfl, h, World.grownBy.refl _ _⟩
end Go.Proofs.YthhhiiagppckhaaGreatDoor
end
