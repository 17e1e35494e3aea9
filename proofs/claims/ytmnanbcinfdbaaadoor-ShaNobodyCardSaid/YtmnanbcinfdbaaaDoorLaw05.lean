/- The walk of ShaParts; conditions: none beyond its hypotheses. -/
import Derived.Test.YtmnanbcinfdbaaaDoorSh9
import Derived.Test.YtmnanbcinfdbaaaDoorSs
import Derived.Test.YtmnanbcinfdbaaaDoorEqa
namespace Go.Proofs.YtmnanbcinfdbaaaDoor
open Go.RowKit Go.Proofs.U
set_option linter.unusedVariables false

theorem own_only {w w' : World} {base n c : Nat} {e : TypeId} {A : Option Addr} {bs : List UInt8} {row : Option Nat} (h : Own w base e A n c bs) (hg : w.grownBy w' row) (hr : ∀ k, row = some k → k < base) : Own w' base e A n c bs := by
  refine World.ownsRow.kept h hg ?_
  cases hA : (Value.slice A n c).ownBlock with
  | none => exact .inl rfl
  | some k => exact .inr fun e => by have := hr k e.symm; have := (World.ownsRow.lt h k hA).1; omega
def total5 (o : List (List UInt8)) : Nat := (o.map List.length).sum
theorem total5_snoc (o : List (List UInt8)) (k : Nat) (bs : List UInt8) (h : o[k]? = some bs) : total5 (o.take (k + 1)) = total5 (o.take k) + bs.length := by
  unfold total5; rw [List.take_add_one, h]; simp
theorem total5_le (o : List (List UInt8)) (B k : Nat) (h : ∀ bs ∈ o, bs.length ≤ B) : total5 (o.take k) ≤ k * B := by
  induction k with
  | zero => simp [total5]
  | succ k ih =>
    rw [Nat.succ_mul]
    cases hk : o[k]? with
    | none => rw [List.take_add_one, hk]; simp only [Option.toList_none, List.append_nil]; omega
    | some bs => rw [total5_snoc o k bs hk]; have := h bs (List.mem_of_getElem? hk); omega
theorem flat_snoc (o : List (List UInt8)) (k : Nat) (bs : List UInt8) (h : o[k]? = some bs) : (o.take (k + 1)).flatten = (o.take k).flatten ++ bs := by
  rw [List.take_add_one, h]; simp
theorem flat_len (o : List (List UInt8)) : o.flatten.length = total5 o := by unfold total5; rw [List.length_flatten]
theorem total5_take (o : List (List UInt8)) (k : Nat) : total5 (o.take k) ≤ total5 o := by
  unfold total5
  have : (o.map List.length).sum = ((o.take k).map List.length).sum + ((o.drop k).map List.length).sum := by rw [← List.sum_append, ← List.map_append, List.take_append_drop]
  omega

theorem dig_eq (L : List UInt8) (w : World) : (Op.equalIn 10000 25 (.agg ((Sh.dig L).map bv).toArray) (.agg ((Sh.dig L).map bv).toArray)).run Tryd.prog w = .ok true w :=
  run_eq_arr w 9998 _ 5 32 .u8 _ Tryd.underlying25 Tryd.underlying5 (by kernel_rfl) fun i hi => by
    have hl := Sh.dig_len L
    exact ⟨((Sh.dig L)[i]'(by omega)).toNat, by simp [bv, hl, hi]⟩
def PartsAt (w w3 : World) (g1 g2 : Nat) (l : List (List UInt8)) (t : Value) (k : Nat) (wr : World) : Prop :=
  ∃ A c, t = .slice A (l.take k).flatten.length c ∧ Hsh wr g1 (l.take k).flatten ∧ Hsh wr g2 (l.take k).flatten ∧ Own wr w3.heap.size 5 A (l.take k).flatten.length c (l.take k).flatten ∧ Below w.heap.size w wr ∧ w3.heap.size ≤ wr.heap.size

set_option maxRecDepth 100000 in
set_option maxHeartbeats 8000000 in
theorem shaParts_any (A : Option Addr) (n c : Nat) (l : List (List UInt8)) (A' : Option Addr) (m c' : Nat) (bs : List UInt8) (w : World) (h : SS w 0 w.heap.size A n l) (hbd : ∀ bs ∈ l, bs.length ≤ 140737488355328) (hn : n ≤ maxLen) (hb : BS w w.heap.size A' m bs) (hc : m ≤ c') (hmb : m ≤ 140737488355328) (hT : Tabs w) :
    Calls Tryd.prog 4 #[.slice A n c, .slice A' m c'] w (Yes w) := by
  unfold maxLen at hn
  by_cases hn30 : n ≤ 30
  · have hl := h.1
    have HL := Lib.hid hl
    clear hl
    go_enter Tryd.func4, Tryd.ntmps4
    go_wp2_with fail
    go_loop [5, 18] (fun s i => ∃ k : Nat, k ≤ n ∧ i = .int .i64 k ∧ s = .int .i64 ((m + total5 (l.take k) : Nat) : Int)) (fun _ i => n - (intOf i).toNat)
    case atStart => exact ⟨0, Nat.zero_le _, rfl, rfl⟩
    case round =>
      obtain ⟨k, hk, rfl, rfl⟩ := hrel
      have ht := total5_le l _ k hbd
      have hk2 : k ≤ 30 := by omega
      have ht2 : total5 (l.take k) ≤ 4222124650659840 := Nat.le_trans ht (Nat.le_trans (Nat.mul_le_mul_right _ hk2) (by decide))
      clear ht
      by_cases hlt : k < n
      · obtain ⟨b0, off, bs0, A1, c1, rfl, _, hx, hcell, _, _, _⟩ := h.at_ hlt
        have hbl := hbd bs0 (List.mem_of_getElem? hx)
        have hs := total5_snoc l k bs0 hx
        have HS := Lib.hid hs
        clear hs hx
        go_wp2_with fail
        go_round
        case rel => exact ⟨k + 1, by omega, by go_num, by rw [HS.out]; go_num⟩
        case measure => simp [intOf]; omega
      · have hkn : k = n := by omega
        have hto : total5 (l.take k) = total5 l := by rw [List.take_of_length_le (by rw [HL.out]; omega)]
        rw [hto] at ht2 ⊢
        clear hto hkn
        by_cases hsm : m + total5 l ≤ 3000
        · have q1 : decide ((3000 : Int) < ((m + total5 l : Nat) : Int)) = false := by simp; omega
          have q2 : decide ((30 : Int) < (n : Int)) = false := by simp; omega
          obtain ⟨tt, htt⟩ : ∃ tt, tt = m + total5 l := ⟨_, rfl⟩
          rw [← htt] at q1 ⊢
          have HTT := Lib.hid htt
          clear htt
          obtain ⟨hz, hs⟩ := Go.zero_of_info zeroH
          obtain ⟨z, hzz⟩ : ∃ z, z = (hcells (Sh.sub8 Sh.H0 Sh.H0) zpart 0).toArray := ⟨_, rfl⟩
          have Hz := Lib.hid hzz
          rw [← hzz] at hz
          clear hzz hs
          go_wp2_with fail
          refine (shaNew_any w).mono ?_
          rintro e w1 ⟨g1, rfl, hg1, hk1, hb1⟩
          go_wp2_with fail
          have hk2' := Hsh.zero w1 z Hz.out
          have hk1' := hk1.alloc (.cells z 38)
          have hbw2 : Below w.heap.size w (w1.alloc (.cells z 38)) := hb1.alloc hb1.size _
          have hg1l := hk1.lt
          generalize (w1.alloc (.cells z 38)) = w3 at hk2' hk1' hbw2 ⊢
          have hg2l := hk2'.lt
          have hg13 : g1 < w3.heap.size := hk1'.lt
          clear hk1
          have hoffA : ∀ (g : Nat), w.heap.size ≤ g → ∀ (X : Option Addr) (k : Nat) (xs : List UInt8), BS w w.heap.size X k xs → Off g X k := fun g hg X k xs hx h0 a ha => by
            obtain ⟨b', off', hA, hlt', _⟩ := hx.2 h0
            rw [hA] at ha; injection ha with ha; subst ha; simp only; omega
          have HO := Lib.hid hoffA
          have hTl := hT.lt
          have hg2 : w.heap.size ≤ w1.heap.size := hb1.size
          clear hoffA hk hlt hk2 hb1
          go_loopg [10, 40] n (fun r t i wr => ∃ k : Nat, r + k = n ∧ i = .int .i64 k ∧ PartsAt w w3 g1 w1.heap.size l t k wr)
          case atStart => exact ⟨0, rfl, rfl, none, 0, rfl, hk1', hk2', Own.nil _ _ _, hbw2, Nat.le_refl _⟩
          case round =>
            clear hk1' hk2' hbw2
            obtain ⟨k, hgk, rfl, Al, cl, rfl, hh1, hh2, hown, hbw, hsz⟩ := hrel
            have HGK := Lib.hid hgk
            obtain ⟨wo, rfl⟩ : ∃ wo : World, wo = wr := ⟨_, rfl⟩
            have hLl : (l.take k).flatten.length ≤ 3000 := by rw [flat_len]; have := total5_take l k; omega
            by_cases hlt : k < n
            · clear hgk
              obtain ⟨b, off, xs, A2, c2, rfl, _, hx, hcell, hc2, hbs0, _⟩ := (h.below hbw).at_ hlt
              have hbsw : BS w w.heap.size A2 xs.length xs := hbs0.keep fun p hp => (hbw.cell hp).symm
              have hfl := flat_snoc l k xs hx
              have hLl2 : (l.take k).flatten.length + xs.length ≤ 3000 := by
                have h1 := total5_take l (k + 1)
                rw [total5_snoc l k xs hx] at h1
                rw [flat_len]; omega
              obtain ⟨L, hL⟩ : ∃ L, L = (l.take k).flatten := ⟨_, rfl⟩
              rw [← hL] at hh1 hh2 hown hfl hLl hLl2
              have HFL := Lib.hid hfl
              have HLL := Lib.hid hL
              rw [← hL]
              clear hx hfl hL hbs0
              go_wp2_with fail
              refine (write_any g1 L wo hh1 A2 xs.length c2 xs ((hbsw.below hbw).more hbw.size) (HO.out g1 hg1 _ _ _ hbsw) hc2 (by omega) (hT.stay hbw) (by omega) (by omega)).mono ?_
              rintro e w4 ⟨rfl, hh4, hgr4⟩
              have hbw4 := hbw.grown hgr4 hbw.size (fun k hk => by injection hk; omega)
              have hp4 := hh2.grown hgr4 (by intro e; injection e; omega)
              have hown4 := own_only hown hgr4 (fun k hk => by injection hk; omega)
              go_wp2_with fail
              refine (write_any w1.heap.size L w4 hp4 A2 xs.length c2 xs ((hbsw.below hbw4).more hbw4.size) (HO.out _ hg2 _ _ _ hbsw) hc2 (by omega) (hT.stay hbw4) (by omega) (by omega)).mono ?_
              rintro e w5 ⟨rfl, hp5, hgr5⟩
              have hbw5 := hbw4.grown hgr5 hbw4.size (fun k hk => by injection hk; omega)
              have hh5 := hh4.grown hgr5 (by intro e; injection e; omega)
              have hown5 := own_only hown4 hgr5 (fun k hk => by injection hk; omega)
              have hsz5 : w3.heap.size ≤ w5.heap.size := Nat.le_trans hsz (Nat.le_trans hgr4.size hgr5.size)
              have hq : L.length + xs.length ≤ 140737488355328 := by omega
              go_wp2_with (at_builtin; refine wpList_app bt rfl (.tmp 49) (.tmp 50) rfl w3.heap.size _ _ _ L rfl hown5 _ _ _ _ xs rfl (hbsw.below hbw5) hq hsz5 ?_; intro A6 c6 w6 hown6 hg6 _)
              have hbw6 := below_row hbw5 hbw5.size hown5 (Nat.le_trans hg2 (by omega)) hg6
              have hh6 := hh5.grown hg6 (notown hown5 hg13)
              have hp6 := hp5.grown hg6 (notown hown5 (by omega))
              have hsz6 : w3.heap.size ≤ w6.heap.size := Nat.le_trans hsz5 hg6.size
              refine (shaLen_any g1 (L ++ xs) w6 hh6).mono ?_
              rw [List.length_append]
              rintro e w' ⟨rfl, rfl⟩
              have hLX : (L ++ xs).length ≤ 3000 := by rw [List.length_append]; omega
              go_wp2_with fail
              refine (sumH_any g1 (L ++ xs) w6 hh6 (by omega) (hT.stay hbw6)).mono ?_
              rintro e w7 ⟨rfl, hb7⟩
              have hbw7 := hbw6.trans (hb7.mono hbw6.size)
              have hown7 := hown6.below hb7
              go_wp2_with fail
              refine (sumP_any A6 _ c6 (L ++ xs) w7 hown7.bs hown7.le (by omega) (hT.stay hbw7)).mono ?_
              rintro e w8 ⟨rfl, hb8⟩
              have hbw8 := hbw7.trans (hb8.mono hbw7.size)
              have hown8 := hown7.below hb8
              have hh8 := (hh6.below hb7).below hb8
              have hp8 := (hp6.below hb7).below hb8
              obtain ⟨D, hD⟩ : ∃ D, D = ((Sh.dig (L ++ xs)).map bv).toArray := ⟨_, rfl⟩
              rw [← hD]
              have heq : ∀ w', (Op.equalIn 10000 25 (.agg D) (.agg D)).run Tryd.prog w' = .ok true w' := fun w' => by rw [hD]; exact dig_eq _ w'
              have HD := Lib.hid hD
              clear hD
              go_wp2_with fail
              refine (sumH_any w1.heap.size (L ++ xs) w8 hp8 (by omega) (hT.stay hbw8)).mono ?_
              rintro e w9 ⟨rfl, hb9⟩
              rw [← HD.out]
              have hbw9 := hbw8.trans (hb9.mono hbw8.size)
              go_wp2_with fail
              refine (sumH_any g1 (L ++ xs) w9 (hh8.below hb9) (by omega) (hT.stay hbw9)).mono ?_
              rintro e w10 ⟨rfl, hb10⟩
              rw [← HD.out]
              have hbw10 := hbw9.trans (hb10.mono hbw9.size)
              go_wp2_with fail
              go_roundg (gk - 1)
              case measure => have := HGK.out; omega
              case rel =>
                refine ⟨k + 1, by have := HGK.out; omega, by go_num, A6, c6, ?_, ?_, ?_, ?_, hbw10, Nat.le_trans hsz6 (Nat.le_trans hb7.size (Nat.le_trans hb8.size (Nat.le_trans hb9.size hb10.size)))⟩
                · rw [HFL.out, List.length_append]
                · rw [HFL.out]; exact (hh8.below hb9).below hb10
                · rw [HFL.out]; exact (hp8.below hb9).below hb10
                · rw [HFL.out, List.length_append]; exact (hown8.below hb9).below hb10
            · obtain rfl : k = n := by omega
              have hfin : (l.take k).flatten = l.flatten := by rw [List.take_of_length_le (by rw [HL.out]; omega)]
              rw [hfin] at hh1 hh2 hown hLl ⊢
              obtain ⟨L, hL⟩ : ∃ L, L = l.flatten := ⟨_, rfl⟩
              have hLt : L.length = total5 l := by rw [hL, flat_len]
              rw [← hL] at hh1 hh2 hown hLl ⊢
              have HLt := Lib.hid hLt
              have hmb2 : L.length + m ≤ 3000 := by omega
              have hbm := hb.1
              have HBM := Lib.hid hbm
              clear hfin hL hLt hgk hbm
              go_wp2_with fail
              refine (shaClone_any g1 L wo hh1).mono ?_
              rintro e w4 ⟨g3, rfl, hg3, hc4, hb4⟩
              have hbw4 := hbw.trans (hb4.mono hbw.size)
              have hh4 := hh1.below hb4
              have hown4 := hown.below hb4
              have hws := hbw.size
              go_wp2_with fail
              refine (write_any g3 L w4 hc4 A' m c' bs ((hb.below hbw4).more hbw4.size) (HO.out g3 (by omega) _ _ _ hb) hc (by omega) (hT.stay hbw4) (by omega) (by omega)).mono ?_
              rintro e w5 ⟨rfl, hc5, hgr5⟩
              have hbw5 := hbw4.grown hgr5 hbw4.size (fun k hk => by injection hk; omega)
              have hlt1 := hh1.lt
              have hh5 := hh4.grown hgr5 (by intro e; injection e; omega)
              have hown5 : Own w5 w3.heap.size 5 _ L.length cl L := World.ownsRow.kept hown4 hgr5 (by
                cases hA : (Value.slice Al L.length cl).ownBlock with
                | none => exact .inl rfl
                | some q => exact .inr fun e => by injection e with e; have := (World.ownsRow.lt hown q hA).2; omega)
              go_wp2_with fail
              refine (sumH_any g1 L w5 hh5 (by omega) (hT.stay hbw5)).mono ?_
              rintro e w6 ⟨rfl, hb6⟩
              have hbw6 := hbw5.trans (hb6.mono hbw5.size)
              have hown6 := hown5.below hb6
              have hc6 := hc5.below hb6
              go_wp2_with fail
              refine (sumP_any Al _ cl L w6 hown6.bs hown6.le (by omega) (hT.stay hbw6)).mono ?_
              rintro e w7 ⟨rfl, hb7⟩
              have hbw7 := hbw6.trans (hb7.mono hbw6.size)
              have hown7 := hown6.below hb7
              have hc7 := hc6.below hb7
              obtain ⟨D, hD⟩ : ∃ D, D = ((Sh.dig L).map bv).toArray := ⟨_, rfl⟩
              have heq : ∀ w', (Op.equalIn 10000 25 (.agg D) (.agg D)).run Tryd.prog w' = .ok true w' := fun w' => by rw [hD]; exact dig_eq _ w'
              rw [← hD]
              clear hD
              go_wp2_with fail
              refine (sumH_any g3 (L ++ bs) w7 hc7 (by rw [List.length_append, HBM.out]; omega) (hT.stay hbw7)).mono ?_
              rintro e w8 ⟨rfl, hb8⟩
              have hbw8 := hbw7.trans (hb8.mono hbw7.size)
              have hown8 := hown7.below hb8
              have hc8 := hc7.below hb8
              obtain ⟨D2, hD2⟩ : ∃ D, D = ((Sh.dig (L ++ bs)).map bv).toArray := ⟨_, rfl⟩
              have heq2 : ∀ w', (Op.equalIn 10000 25 (.agg D2) (.agg D2)).run Tryd.prog w' = .ok true w' := fun w' => by rw [hD2]; exact dig_eq _ w'
              rw [← hD2]
              have HD2 := Lib.hid hD2
              clear hD2
              have hsz8 : w3.heap.size ≤ w8.heap.size := Nat.le_trans hsz (Nat.le_trans hb4.size (Nat.le_trans hgr5.size (Nat.le_trans hb6.size (Nat.le_trans hb7.size hb8.size))))
              have hq : L.length + m ≤ 140737488355328 := by omega
              go_wp2_with (at_builtin; refine wpList_appg bt rfl (.tmp 86) (.tmp 87) rfl w3.heap.size _ _ _ L rfl hown8 _ _ _ _ bs rfl (hb.below hbw8) hq hsz8 ?_; intro A9 c9 w9 hown9 hg9 _)
              have hbw9 : Below w.heap.size w w9 := below_row hbw8 hbw8.size hown8 (by omega) hg9
              have hc9 := hc8.grown hg9 (by
                intro e
                have := (World.ownsRow.lt hown g3 e.symm).2
                omega)
              refine (sumP_any A9 _ c9 (L ++ bs) w9 hown9.bs hown9.le (by omega) (hT.stay hbw9)).mono ?_
              rintro e w10 ⟨rfl, hb10⟩
              rw [← HD2.out]
              have hbw10 := hbw9.trans (hb10.mono hbw9.size)
              have hc10 := hc9.below hb10
              go_wp2_with fail
              refine (shaLen_any g3 (L ++ bs) w10 hc10).mono ?_
              rw [show (L ++ bs).length = tt by rw [List.length_append, HBM.out, HLt.out, HTT.out]; omega]
              rintro e w' ⟨rfl, rfl⟩
              go_wp2_with fail
              refine (lives05 w10 (hT.stay hbw10)).mono ?_
              rintro e w11 ⟨rfl, hb11⟩
              go_wp2_with fail
              go_ret
              exact ⟨by simp, hbw10.trans (hb11.mono hbw10.size)⟩
        · have q1 : decide ((3000 : Int) < ((m + total5 l : Nat) : Int)) = true := by simp; omega
          go_wp2_with fail
          refine (lives05 w hT).mono ?_
          rintro e w1 ⟨rfl, hb1⟩
          go_wp2_with fail
          go_ret
          exact ⟨by simp, hb1⟩
  · have q2 : decide ((30 : Int) < (n : Int)) = true := by simp; omega
    go_enter Tryd.func4, Tryd.ntmps4
    go_wp2_with fail
    go_loop [5, 18] (fun s i => ∃ (k : Nat) (z : Int), k ≤ n ∧ i = .int .i64 k ∧ s = .int .i64 z) (fun _ i => n - (intOf i).toNat)
    case atStart => exact ⟨0, m, Nat.zero_le _, rfl, rfl⟩
    case round =>
      obtain ⟨k, z, hk, rfl, rfl⟩ := hrel
      by_cases hlt : k < n
      · obtain ⟨b0, off, bs0, A1, c1, rfl, _, hx, hcell, _, _, _⟩ := h.at_ hlt
        clear hx
        go_wp2_with fail
        go_round
        case rel => exact ⟨k + 1, _, by omega, by go_num, rfl⟩
        case measure => simp [intOf]; omega
      · by_cases hz : (3000 : Int) < z
        · have q1 : decide ((3000 : Int) < z) = true := by simp; omega
          go_wp2_with fail
          refine (lives05 w hT).mono ?_
          rintro e w1 ⟨rfl, hb1⟩
          go_wp2_with fail
          go_ret
          exact ⟨by simp, hb1⟩
        · have q1 : decide ((3000 : Int) < z) = false := by simp; omega
          go_wp2_with fail
          refine (lives05 w hT).mono ?_
          rintro e w1 ⟨rfl, hb1⟩
          go_wp2_with fail
          go_ret
          exact ⟨by simp, hb1⟩
end Go.Proofs.YtmnanbcinfdbaaaDoor
