/- The walks of the reference of sha: digits, and of ShaSums; conditions: none beyond their hypotheses. -/
import Derived.Test.YtmnanbcinfdbaaaDoorRb4
import Derived.Test.YtmnanbcinfdbaaaDoorSh9
import Derived.Test.YtmnanbcinfdbaaaDoorLaw05
namespace Go.Proofs.YtmnanbcinfdbaaaDoor
open Go.RowKit Go.Proofs.U
set_option linter.unusedVariables false

theorem sub16 (d : Nat) (h : d < 16) (w : World) : (Instr.slice 9 (.string digits16) (some (.int .i64 (d : Int))) (some (.int .i64 ((d : Int) + 1))) none).run Tryd.prog w = .ok (.string (strOf [hexd d])) w := by
  rw [run_slice_string w 9 digits16 .i64 .i64 (d : Int) ((d : Int) + 1) Tryd.underlying9 (by omega) (by omega) (by show _ ≤ (16 : Int); omega)]
  have hs : d = 0 ∨ d = 1 ∨ d = 2 ∨ d = 3 ∨ d = 4 ∨ d = 5 ∨ d = 6 ∨ d = 7 ∨ d = 8 ∨ d = 9 ∨ d = 10 ∨ d = 11 ∨ d = 12 ∨ d = 13 ∨ d = 14 ∨ d = 15 := by omega
  rcases hs with rfl | rfl | rfl | rfl | rfl | rfl | rfl | rfl | rfl | rfl | rfl | rfl | rfl | rfl | rfl | rfl <;> rfl
theorem strOf_app (a b : List UInt8) : strOf a ++ strOf b = strOf (a ++ b) := by
  unfold strOf
  apply ByteArray.ext
  simp

set_option maxRecDepth 100000 in
set_option maxHeartbeats 4000000 in
theorem rhex_any (D : List UInt8) (hD : D.length = 32) (w : World) : Calls Tryd.prog 20 #[.agg (D.map bv).toArray] w (HexRet w D) := by
  have hsz : (Tryd.prog.info? 24).map (·.size) = some (D.map bv).toArray.size := by
    rw [show (D.map bv).toArray.size = 32 by simp [hD]]; kernel_rfl
  have HZ := Lib.hid hsz
  have HD := Lib.hid hD
  obtain ⟨DD, hDD⟩ : ∃ DD, DD = (D.map bv).toArray := ⟨_, rfl⟩
  rw [← hDD] at HZ ⊢
  have HDD := Lib.hid hDD
  clear hsz hD hDD
  go_enter Tryd.func20, Tryd.ntmps20
  go_wp2_with fail
  have hbk0 : Blk (w.alloc (.cells DD 24)) w.heap.size 24 DD := Blk.new _ _ _
  have hb0 : Below w.heap.size w (w.alloc (.cells DD 24)) := (Below.refl _ _).alloc (Nat.le_refl _) _
  generalize (w.alloc (.cells DD 24)) = w0 at hbk0 hb0 ⊢
  go_loopg [3, 4] 32 (fun r t i wr => ∃ k : Nat, r + k = 32 ∧ i = .int .i64 (k : Nat) ∧ t = .string (strOf (hexl (D.take k))) ∧ Drawn w0 wr)
  case atStart => exact ⟨0, rfl, rfl, rfl, Drawn.refl _⟩
  case round =>
    obtain ⟨k, hgk, rfl, rfl, hdr⟩ := hrel
    have HGK := Lib.hid hgk
    obtain ⟨q, rfl⟩ := hdr
    by_cases hlt : k < 32
    · clear hgk
      obtain ⟨y, hy⟩ : ∃ y, D[k]? = some y := ⟨_, List.getElem?_eq_getElem (by rw [HD.out]; exact hlt)⟩
      have hsn := hexl_snoc D k y hy
      have hln : (hexl (D.take k)).length = 2 * k := by rw [hexl_len, List.length_take, HD.out]; omega
      obtain ⟨L, hL⟩ : ∃ L, L = hexl (D.take k) := ⟨_, rfl⟩
      rw [← hL] at hsn hln ⊢
      have hcell : w0.cell? ⟨w.heap.size, k, none⟩ = some (.int .u8 (y.toNat : Int)) := by rw [hbk0.cell, HDD.out, List.getElem?_toArray, List.getElem?_map, hy]; rfl
      have hy2 := y.toNat_lt
      obtain ⟨sL, hsL⟩ : ∃ sL, sL = strOf L := ⟨_, rfl⟩
      obtain ⟨s1, hs1⟩ : ∃ s1, s1 = strOf [hexd (y.toNat / 16)] := ⟨_, rfl⟩
      obtain ⟨s2, hs2⟩ : ∃ s2, s2 = strOf [hexd (y.toNat % 16)] := ⟨_, rfl⟩
      obtain ⟨s3, hs3⟩ : ∃ s3, s3 = strOf (L ++ [hexd (y.toNat / 16)]) := ⟨_, rfl⟩
      obtain ⟨s4, hs4⟩ : ∃ s4, s4 = strOf (hexl (D.take (k + 1))) := ⟨_, rfl⟩
      have hadd : ∀ (a b c : List UInt8), a ++ b = c → a.length + b.length ≤ 64 → ∀ w', (Op.stringOp .add (strOf a) (strOf b)).run Tryd.prog w' = .ok (.string (strOf c)) w' := by
        rintro a b c rfl hl w'
        rw [run_string_add_sum w' _ _ (by show a.length + b.length ≤ _; omega), strOf_app]
      have x1 : ∀ w', (Instr.slice 9 (.string digits16) (some (.int .i64 ((y.toNat : Int) / 16))) (some (.int .i64 ((y.toNat : Int) / 16 + 1))) none).run Tryd.prog w' = .ok (.string s1) w' := fun w' => by
        rw [hs1, show (y.toNat : Int) / 16 = ((y.toNat / 16 : Nat) : Int) by omega]; exact sub16 _ (by omega) w'
      have x2 : ∀ w', (Instr.slice 9 (.string digits16) (some (.int .i64 ((y.toNat : Int) % 16))) (some (.int .i64 ((y.toNat : Int) % 16 + 1))) none).run Tryd.prog w' = .ok (.string s2) w' := fun w' => by
        rw [hs2, show (y.toNat : Int) % 16 = ((y.toNat % 16 : Nat) : Int) by omega]; exact sub16 _ (by omega) w'
      have x3 : ∀ w', (Op.stringOp .add sL s1).run Tryd.prog w' = .ok (.string s3) w' := by rw [hsL, hs1, hs3]; exact hadd _ _ _ rfl (by simp; omega)
      have x4 : ∀ w', (Op.stringOp .add s3 s2).run Tryd.prog w' = .ok (.string s4) w' := by rw [hs3, hs2, hs4]; exact hadd _ _ _ (by rw [hsn]; simp [hex2]) (by simp; omega)
      unfold digits16 at x1 x2
      rw [← hsL]
      have HS := Lib.hid hs4
      clear hsn hln hL hy hadd hs1 hs2 hs3 hs4 hsL
      go_wp2_with fail
      go_quiet (fail)
      go_wp2_with fail
      go_quiet (fail)
      go_wp2_with fail
      go_roundg (gk - 1)
      case measure => have := HGK.out; omega
      case rel => exact ⟨k + 1, by have := HGK.out; omega, by go_num, by rw [HS.out], ⟨_, rfl⟩⟩
    · obtain rfl : k = 32 := by omega
      rw [List.take_of_length_le (by rw [HD.out]; omega)]
      go_wp2_with fail
      go_ret
      exact ⟨rfl, below_drewN hb0 _⟩

theorem quiet_load_row {P : Program} {o : Oper} {a : Act} {w : World} {C : World → Prop} (ty : TypeId) (x : Operand) (ho : o.op = .load ty x)
    (g : Nat) (hx : a.eval x = .pointer (some ⟨g, 0, none⟩)) (t : TypeId) (cs : Array Value) (d : TypeDesc) (hg : Blk w g t cs)
    (hu : P.underlying ty = some d) (hd : d.isRow = true) (hi : (P.info? ty).map (·.size) = some cs.size) : o.quietAt P a C w (.agg cs) := by
  unfold Oper.quietAt execOp
  simp only [ho, hx, Instr.loadAt, Instr.sureAddr, Sem.run_bind, Sem.run_pure, Result.andThen_ok, run_loadVar_row w g t ty cs (0, 0) d hg hu (by cases d <;> simp_all [TypeDesc.isRow]) hi]
  exact ⟨rfl, rfl⟩
set_option maxRecDepth 100000 in
set_option maxHeartbeats 8000000 in
theorem shaSums_any (A : Option Addr) (n c : Nat) (bs : List UInt8) (w : World) (hb : BS w w.heap.size A n bs) (hc : n ≤ c) (hT : Tabs w) :
    Calls Tryd.prog 3 #[.slice A n c] w (Yes w) := by
  by_cases hn : n ≤ 300
  · obtain ⟨hz, hs⟩ := Go.zero_of_info zeroD
    obtain ⟨hz2, hs2⟩ := Go.zero_of_info zeroA
    obtain ⟨z, hzz⟩ : ∃ z, z = ((List.replicate 32 (0 : UInt8)).map bv).toArray := ⟨_, rfl⟩
    rw [← hzz] at hz hz2
    have hzs : z.size = 32 := by rw [hzz]; rfl
    obtain ⟨D, hD⟩ : ∃ D, D = Sh.dig bs := ⟨_, rfl⟩
    have hDl : D.length = 32 := by rw [hD]; exact Sh.dig_len _
    obtain ⟨DD, hDD⟩ : ∃ DD, DD = (D.map bv).toArray := ⟨_, rfl⟩
    have hsz : DD.size = 32 := by rw [hDD]; simp [hDl]
    have heq : ∀ w', (Op.equalIn 10000 25 (.agg DD) (.agg DD)).run Tryd.prog w' = .ok true w' := fun w' => by rw [hDD, hD]; exact dig_eq _ w'
    have hall : DD.all (·.oneCell') = true := by rw [hDD]; exact dig_all D
    have H1 := Lib.hid (And.intro hs (And.intro hs2 hzs))
    have H2 := Lib.hid (And.intro hD (And.intro hDl (And.intro hDD hsz)))
    have HE := Lib.hid hall
    clear hzz hs hs2 hzs hD hDl hDD hsz hall
    go_enter Tryd.func3, Tryd.ntmps3
    go_wp2_with fail
    refine (sumP_any A n c bs w hb hc (by omega) hT).mono ?_
    rintro e w1 ⟨rfl, hb1⟩
    rw [← H2.out.1, ← H2.out.2.2.1]
    go_wp2_with fail
    refine (rsum_any A n c bs w1 ((hb.below hb1).more hb1.size) hc (by omega)).mono ?_
    rintro e w2 ⟨rfl, hb2⟩
    rw [← H2.out.1, ← H2.out.2.2.1]
    have hbw2 := hb1.trans (hb2.mono hb1.size)
    have hA : Blk ((w2.alloc (.cells z 25)).alloc (.cells z 24)) w2.heap.size 25 z := (Blk.new _ _ _).alloc _
    have hB : Blk ((w2.alloc (.cells z 25)).alloc (.cells z 24)) (w2.heap.size + 1) 24 z := by
      have := Blk.new (w2.alloc (.cells z 25)) 24 z
      simpa using this
    have hbb : Below w2.heap.size w2 ((w2.alloc (.cells z 25)).alloc (.cells z 24)) := ((Below.refl _ _).alloc (Nat.le_refl _) _).alloc (by simp) _
    have hbb2 := hbw2.trans (hbb.mono hbw2.size)
    clear hbb
    go_wp2_with (first
      | (refine wpList_store_blk rfl 25 (.tmp 3) (.tmp 10) rfl w2.heap.size _ rfl rfl _ _ hA (by rw [H2.out.2.2.2]; exact H1.out.1) (by rw [H2.out.2.2.2]; exact H1.out.2.2) HE.out ?_; intro w3 hA3 hg3; have hB3 := hB.grown hg3 (by intro e; injection e; omega); have hbw3 : Below w.heap.size w w3 := hbb2.grown hg3 hbb2.size (fun k hk => by injection hk with hk; have := hbw2.size; omega); clear hg3)
      | (refine wpList_store_blk rfl 24 (.tmp 4) (.tmp 12) rfl (w2.heap.size + 1) _ rfl rfl _ _ hB3 (by rw [H2.out.2.2.2]; exact H1.out.2.1) (by rw [H2.out.2.2.2]; exact H1.out.2.2) HE.out ?_; intro w4 hB4 hg4; have hA4 := hA3.grown hg4 (by intro e; injection e; omega); have hbw4 : Below w.heap.size w w4 := hbw3.grown hg4 hbw3.size (fun k hk => by injection hk with hk; have := hbw2.size; omega); clear hg4))
    obtain ⟨S, hS⟩ : ∃ S, S = strOf (hexl D) := ⟨_, rfl⟩
    have hexS : ∀ w', Calls Tryd.prog 19 #[.agg DD] w' fun e w'' => e = .returned (.string S) ∧ Below w'.heap.size w' w'' := fun w' => by
      rw [H2.out.2.2.1, hS]; exact hex_any D H2.out.2.1 w'
    have rhexS : ∀ w', Calls Tryd.prog 20 #[.agg DD] w' fun e w'' => e = .returned (.string S) ∧ Below w'.heap.size w' w'' := fun w' => by
      rw [H2.out.2.2.1, hS]; exact rhex_any D H2.out.2.1 w'
    clear hS
    have hT4 := hT.stay hbw4
    have hT4l := hT4.lt
    refine wp_region_class (C := fun w' => Below w4.heap.size w4 w') (by kernel_rfl) (by kernel_rfl) (below_drewN (Below.refl _ _) 1) ?_
    repeat
      (refine wpQuiet_step (fun K hK => ?_)
       rw [if_pos (by rfl)]
       apply Exists.intro
       refine ⟨fun w' hw' => ?_, hK _ ?_⟩
       · first
           | (refine quiet_load_row 25 (.tmp 3) rfl w2.heap.size rfl _ DD _ (hA4.stay hw') Tryd.underlying25 rfl (by rw [H2.out.2.2.2]; exact H1.out.1))
           | (refine quiet_load_row 24 (.tmp 4) rfl (w2.heap.size + 1) rfl _ DD _ (hB4.stay hw') Tryd.underlying24 rfl (by rw [H2.out.2.2.2]; exact H1.out.2.1))
           | (go_simp
              first
                | done
                | (with_reducible refine (hexS w').mono ?_
                   rintro e' w1 ⟨rfl, hd1⟩
                   exact ⟨rfl, hw'.trans (hd1.mono hw'.size)⟩)
                | (with_reducible refine (rhexS w').mono ?_
                   rintro e' w1 ⟨rfl, hd1⟩
                   exact ⟨rfl, hw'.trans (hd1.mono hw'.size)⟩)
                | (with_reducible refine (lives05 w' (hT4.stay hw')).mono ?_
                   rintro e' w1 ⟨rfl, hd1⟩
                   exact ⟨rfl, hw'.trans (hd1.mono hw'.size)⟩)
                | rfl)
       clear hK K
       go_simp)
    refine wpQuiet_nil ?_
    intro w5 hw5
    go_wp2_with fail
    go_ret
    exact ⟨rfl, hbw4.trans (hw5.mono hbw4.size)⟩
  · go_enter Tryd.func3, Tryd.ntmps3
    go_wp2_with fail
    refine (lives05 w hT).mono ?_
    rintro e w1 ⟨rfl, hb1⟩
    go_wp2_with fail
    go_ret
    exact ⟨rfl, hb1⟩
end Go.Proofs.YtmnanbcinfdbaaaDoor
