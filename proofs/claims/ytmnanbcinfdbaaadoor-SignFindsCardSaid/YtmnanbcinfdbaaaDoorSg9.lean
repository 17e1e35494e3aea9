/- Strong at a block that is there; sign.Of refused; the document's Block and First; conditions: none beyond their hypotheses. -/
import Derived.Test.YtmnanbcinfdbaaaDoorSg8
namespace Go.Proofs.YtmnanbcinfdbaaaDoor
open Go.RowKit Go.Proofs.U
set_option linter.unusedVariables false
section
variable (g mb B0 : Nat) (Ab : Option Addr) (nb cb : Nat) (base : List UInt8) (s : Nat) (w : World)
set_option maxRecDepth 100000 in
set_option maxHeartbeats 2000000 in
theorem strongYes_any (h : Tt w g mb B0 Ab nb cb base s) (i : Int) (hH : Has (nb / s) i = true) : Calls Tryd.prog 38 #[.pointer (some ⟨g, 0, none⟩), .int .i64 i] w fun e w' =>
    e = .returned (.agg ((Sh.dig (blkB base s i.toNat)).map bv).toArray) ∧ Below w.heap.size w w' := by
  have h0 : ∀ w', Below w.heap.size w w' → Calls Tryd.prog 72 #[.pointer (some ⟨g, 0, none⟩), .int .i64 i] w' fun e w'' => e = .returned (.bool true) ∧ w' = w'' := fun w' hb => by
    have := has_any g mb B0 Ab nb cb base s w' (h.stay hb) i
    rw [hH] at this
    exact this
  obtain ⟨k, rfl, hk⟩ := Has_nat hH
  obtain ⟨gA, cl, hx, hr⟩ := h.place hk
  have hr4 : w.rangeAt gA (k * 33 + 1) ((Sh.dig (blkB base s k)).map bv) := fun q v hv => by
    have := hr (q + 1) v (by simpa [bval] using hv)
    rw [show k * 33 + (q + 1) = k * 33 + 1 + q by omega] at this
    exact this
  have c2 : w.cell? ⟨g, 2, none⟩ = some (.slice (some ⟨gA, 0, none⟩) (nb / s) cl) := Blk.cell hx 2
  obtain ⟨hz, hs⟩ := Go.zero_of_info zeroD
  obtain ⟨z, hzz⟩ : ∃ z, z = ((List.replicate 32 (0 : UInt8)).map bv).toArray := ⟨_, rfl⟩
  rw [← hzz] at hz
  have hzs : z.size = 32 := by rw [hzz]; rfl
  rw [show ((k : Int)).toNat = k from rfl]
  have hDl : ((Sh.dig (blkB base s k)).map bv).length = 32 := by simp [Sh.dig_len]
  have hDa := dig_all (Sh.dig (blkB base s k))
  obtain ⟨DD, hDD⟩ : ∃ DD : List Value, DD = (Sh.dig (blkB base s k)).map bv := ⟨_, rfl⟩
  rw [← hDD] at hDl hDa hr4 ⊢
  have hDs : DD.toArray.size = 32 := by simpa using hDl
  have hb0 : Below w.heap.size w (w.alloc (.cells z 25)) := (Below.refl _ _).alloc (Nat.le_refl _) _
  have h1 := h0 _ hb0
  have hBz := Blk.new w 25 z
  have c2' := (hb0.cell (Blk.lt hx)).trans c2
  have hr5 := range_stay hr4 hb0
  obtain ⟨n, hn⟩ : ∃ n, n = nb / s := ⟨_, rfl⟩
  rw [← hn] at c2' hk
  have HZ := Lib.hid (And.intro hs (And.intro hzs (And.intro hDl (And.intro hDa (And.intro hDs hr5)))))
  clear hs hzs hDl hDa hDs hr5 hr4 hr hx c2 h h0 hH hDD hzz hn
  go_enter Tryd.func38, Tryd.ntmps38
  go_wp2_with (first
    | (go_at_call 72; refine h1.mono ?_; rintro e w' ⟨rfl, rfl⟩)
    | (refine wpList_load_mid rfl 25 (.tmp 14) rfl gA (k * 33 + 1) rfl DD _ HZ.out.2.2.2.2.2 Tryd.underlying25 rfl (by rw [HZ.out.2.2.1]; exact HZ.out.1) ?_)
    | (refine wpList_store_blk rfl 25 (.tmp 4) (.tmp 15) rfl w.heap.size DD.toArray rfl rfl _ z hBz (by rw [HZ.out.2.2.2.2.1]; exact HZ.out.1) (by rw [HZ.out.2.2.2.2.1]; exact HZ.out.2.1) HZ.out.2.2.2.1 ?_; intro w3 hb3 hg3)
    | (refine wpList_load_blk rfl 25 (.tmp 4) rfl w.heap.size rfl _ DD.toArray _ hb3 Tryd.underlying25 rfl (by rw [HZ.out.2.2.2.2.1]; exact HZ.out.1) ?_)
    | (refine wpList_store_blk rfl 25 (.tmp 4) (.tmp 16) rfl w.heap.size DD.toArray rfl rfl _ DD.toArray hb3 (by rw [HZ.out.2.2.2.2.1]; exact HZ.out.1) rfl HZ.out.2.2.2.1 ?_; intro w4 hb4 hg4))
  have hb9 : Below w.heap.size w w3 := hb0.grown hg3 hb0.size (fun k hk => by injection hk; omega)
  refine bodyPost_ret (v := .agg DD.toArray) ?_ rfl ⟨rfl, hb9.grown hg4 hb9.size (fun k hk => by injection hk; omega)⟩
  refine results_cell_row Tryd.results38 _ _ w.heap.size _ _ (0, 0) _ ?_ hb4 Tryd.underlying25 rfl (by rw [HZ.out.2.2.2.2.1]; exact HZ.out.1)
  rfl
set_option maxHeartbeats 2000000 in
theorem strongNo_any (h : Tt w g mb B0 Ab nb cb base s) (i : Int) (hH : Has (nb / s) i = false) : Calls Tryd.prog 38 #[.pointer (some ⟨g, 0, none⟩), .int .i64 i] w fun e w' =>
    e = .returned (.agg (Z32.map bv).toArray) ∧ Below w.heap.size w w' := by
  have h0 : ∀ w', Below w.heap.size w w' → Calls Tryd.prog 72 #[.pointer (some ⟨g, 0, none⟩), .int .i64 i] w' fun e w'' => e = .returned (.bool false) ∧ w' = w'' := fun w' hb => by
    have := has_any g mb B0 Ab nb cb base s w' (h.stay hb) i
    rw [hH] at this
    exact this
  obtain ⟨hz, hs⟩ := Go.zero_of_info zeroD
  obtain ⟨z, hzz⟩ : ∃ z, z = ((List.replicate 32 (0 : UInt8)).map bv).toArray := ⟨_, rfl⟩
  rw [← hzz] at hz
  have hzs : z.size = 32 := by rw [hzz]; rfl
  have hza : z.all (·.oneCell') = true := by rw [hzz]; exact dig_all _
  have HZ := Lib.hid (And.intro hs (And.intro hzs (And.intro hza hzz)))
  have hg : (.agg (Z32.map bv).toArray : Value) = .agg z := by rw [hzz]; rfl
  rw [hg]
  have hb0 : Below w.heap.size w (w.alloc (.cells z 25)) := (Below.refl _ _).alloc (Nat.le_refl _) _
  have hB := Blk.new w 25 z
  have h1 := h0 _ hb0
  clear hs hzs hza hzz hg h0 hH h
  go_enter Tryd.func38, Tryd.ntmps38
  go_wp2_with (first
    | (go_at_call 72; refine h1.mono ?_; rintro e w' ⟨rfl, rfl⟩)
    | (refine wpList_load_blk rfl 25 (.tmp 4) rfl w.heap.size rfl _ z _ hB Tryd.underlying25 rfl (by rw [HZ.out.2.1]; exact HZ.out.1) ?_)
    | (refine wpList_store_blk rfl 25 (.tmp 4) (.tmp 16) rfl w.heap.size z rfl rfl _ z hB (by rw [HZ.out.2.1]; exact HZ.out.1) rfl HZ.out.2.2.1 ?_; intro w4 hb4 hg4))
  refine bodyPost_ret (v := .agg z) ?_ rfl ⟨rfl, hb0.grown hg4 hb0.size (fun k hk => by injection hk; omega)⟩
  refine results_cell_row Tryd.results38 _ _ w.heap.size _ _ (0, 0) _ ?_ hb4 Tryd.underlying25 rfl (by rw [HZ.out.2.1]; exact HZ.out.1)
  rfl
end
/-- Of refuses -/
def NoTab (w : World) (code : Int) (e : Ending) (w' : World) : Prop := e = .returned (.tuple #[.pointer none, .int .i64 code]) ∧ w = w'
set_option maxHeartbeats 1000000 in
theorem ofArg_any (v : Value) (s : Int) (w : World) (hs : s < 4 ∨ 64 < s) : Calls Tryd.prog 30 #[v, .int .i64 s] w (NoTab w 2) := by
  rcases Int.lt_or_le s 4 with h | h
  · have t1 : decide (s < 4) = true := by simpa using h
    go_enter Tryd.func30, Tryd.ntmps30
    go_wp2_with fail
    exact bodyPost_ret (results_tmp2 rfl _ _ _) rfl ⟨rfl, rfl⟩
  · have t1 : decide (s < 4) = false := by simpa using h
    have t2 : decide (64 < s) = true := by simp; omega
    clear hs h
    go_enter Tryd.func30, Tryd.ntmps30
    go_wp2_with fail
    exact bodyPost_ret (results_tmp2 rfl _ _ _) rfl ⟨rfl, rfl⟩
set_option maxHeartbeats 1000000 in
theorem ofLong_any (A : Option Addr) (n c : Nat) (s : Int) (w : World) (h1 : 4 ≤ s) (h2 : s ≤ 64) (hn : 4096 < n) (hm : n ≤ maxLen) : Calls Tryd.prog 30 #[.slice A n c, .int .i64 s] w (NoTab w 13) := by
  have t1 : decide (s < 4) = false := by simp; omega
  have t2 : decide (64 < s) = false := by simp; omega
  have t3 : decide (4096 < (n : Int)) = true := by simp; omega
  clear h1 h2 hn
  go_enter Tryd.func30, Tryd.ntmps30
  go_wp2_with fail
  exact bodyPost_ret (results_tmp2 rfl _ _ _) rfl ⟨rfl, rfl⟩
/-- the document's block -/
def RBlk (w : World) (A : Option Addr) (c s : Nat) (bs : List UInt8) (e : Ending) (w' : World) : Prop := (∃ A' c', e = .returned (.tuple #[.slice A' s c', .bool true]) ∧ s ≤ c' ∧ BS w' w.heap.size A' s bs) ∧ Drawn w w'
set_option maxHeartbeats 1000000 in
theorem rblock_any (A : Option Addr) (n c s k : Nat) (base : List UInt8) (w : World) (hb : BS w w.heap.size A n base) (hc : n ≤ c) (hn : n ≤ 1000000) (hs : 4 ≤ s) (hk : k < n / s) :
    Calls Tryd.prog 36 #[.slice A n c, .int .i64 (s : Int), .int .i64 (k : Int)] w (RBlk w A c s (blkB base s k)) := by
  have hks : (k + 1) * s ≤ n / s * s := Nat.mul_le_mul_right s (by omega)
  have hns : n / s * s ≤ n := Nat.div_mul_le_self n s
  rw [Nat.succ_mul] at hks
  obtain ⟨bb, bo, rfl, _⟩ := hb.2 (by omega)
  obtain ⟨lo, hlo'⟩ : ∃ lo, lo = k * s := ⟨_, rfl⟩
  have hb2 : BS w w.heap.size (some ⟨bb, bo + lo, none⟩) s (blkB base s k) := by
    rw [hlo']
    exact (hb.drop (k := k * s) (by omega)).take (k := s) (by omega)
  rw [← hlo'] at hks
  have m1 : (k : Int) * (s : Int) = (lo : Int) := by rw [hlo']; simp
  have w1 : IntKind.i64.wrap ((k : Int) * (s : Int)) = (lo : Int) := by rw [m1]; exact wrap_nat_i64 (by omega)
  have w2 : IntKind.i64.wrap ((lo : Int) + (s : Int)) = ((lo + s : Nat) : Int) := by
    have := wrap_nat_i64 (n := lo + s) (by omega)
    rwa [Int.natCast_add] at this ⊢
  have hle : lo + s ≤ c := by omega
  have q1 : ((n : Int)).tdiv (s : Int) = ((n / s : Nat) : Int) := by simp [Int.tdiv_eq_ediv]
  obtain ⟨m, hm⟩ : ∃ m, m = n / s := ⟨_, rfl⟩
  rw [← hm] at q1 hk
  have hm2 : m ≤ n := by rw [hm]; exact Nat.div_le_self _ _
  have w3 : IntKind.i64.wrap (m : Int) = (m : Int) := wrap_nat_i64 (by omega)
  have t1 : decide ((k : Int) < 0) = false := by simp
  have t2 : decide ((m : Int) ≤ (k : Int)) = false := by simp; omega
  have t3 : decide (m ≤ k) = false := by simp; omega
  have HB := Lib.hid hb2
  clear m1 hlo' hks hns hb2 hb hm hk
  go_enter Tryd.func36, Tryd.ntmps36
  go_wp2_with fail
  have hsub : lo + s - lo = s := Nat.add_sub_cancel_left _ _
  refine bodyPost_ret (results_tmp2 rfl _ _ _) rfl ⟨⟨some ⟨bb, bo + lo, none⟩, c - lo, ?_, by omega, HB.out⟩, 0, rfl⟩
  rw [hsub]
  rfl
set_option maxHeartbeats 1000000 in
theorem rblockNo_any (A : Option Addr) (n c s : Nat) (i : Int) (w : World) (hn : n ≤ 1000000) (hs : 4 ≤ s) (hi : Has (n / s) i = false) :
    Calls Tryd.prog 36 #[.slice A n c, .int .i64 (s : Int), .int .i64 i] w fun e w' => e = .returned (.tuple #[.slice none 0 0, .bool false]) ∧ Drawn w w' := by
  have q1 : ((n : Int)).tdiv (s : Int) = ((n / s : Nat) : Int) := by simp [Int.tdiv_eq_ediv]
  obtain ⟨m, hm⟩ : ∃ m, m = n / s := ⟨_, rfl⟩
  rw [← hm] at q1 hi
  have hm2 : m ≤ n := by rw [hm]; exact Nat.div_le_self _ _
  have w3 : IntKind.i64.wrap (m : Int) = (m : Int) := wrap_nat_i64 (by omega)
  clear hm
  unfold Has at hi
  rcases Int.lt_or_le i 0 with h | h
  · have t1 : decide (i < 0) = true := by simpa using h
    clear hi
    go_enter Tryd.func36, Tryd.ntmps36
    go_wp2_with fail
    exact bodyPost_ret (results_tmp2 rfl _ _ _) rfl ⟨rfl, 0, rfl⟩
  · have t1 : decide (i < 0) = false := by simpa using h
    have t2 : decide ((m : Int) ≤ i) = true := by
      simp only [Bool.and_eq_false_iff, decide_eq_false_iff_not] at hi
      simp only [decide_eq_true_eq]
      omega
    clear hi h
    go_enter Tryd.func36, Tryd.ntmps36
    go_wp2_with fail
    exact bodyPost_ret (results_tmp2 rfl _ _ _) rfl ⟨rfl, 0, rfl⟩
/-- what First answers -/
def fstI (base : List UInt8) (s : Nat) (b : List UInt8) : Int := match fst17 base s b (base.length / s) with | some i => (i : Int) | none => -1
theorem fst_hit {base : List UInt8} {s : Nat} {b : List UInt8} {k : Nat} (hno : ∀ i, i < k → (blkB base s i == b) = false) (hk : k < base.length / s) (hb : (blkB base s k == b) = true) : fstI base s b = (k : Int) := by
  have : fst17 base s b (base.length / s) = some k := by
    unfold fst17
    rw [List.find?_eq_some_iff_getElem]
    refine ⟨hb, k, by simpa using hk, by simp, fun j hj => ?_⟩
    simp only [List.getElem_range]
    rw [hno j hj]; rfl
  unfold fstI
  rw [this]
theorem fst_miss {base : List UInt8} {s : Nat} {b : List UInt8} (hno : ∀ i, i < base.length / s → (blkB base s i == b) = false) : fstI base s b = -1 := by
  have : fst17 base s b (base.length / s) = none := by
    unfold fst17
    rw [List.find?_eq_none]
    intro i hi
    rw [hno i (List.mem_range.1 hi)]; simp
  unfold fstI
  rw [this]
set_option maxHeartbeats 2000000 in
theorem rfirst_any (A : Option Addr) (n c s : Nat) (base : List UInt8) (w : World) (hb : BS w w.heap.size A n base) (hc : n ≤ c) (hn : n ≤ 1000000) (hs : 4 ≤ s)
    (A' : Option Addr) (m c' : Nat) (b : List UInt8) (hb' : BS w w.heap.size A' m b) :
    Calls Tryd.prog 31 #[.slice A n c, .int .i64 (s : Int), .slice A' m c'] w fun e w' => e = .returned (.int .i64 (fstI base s b)) ∧ Drawn w w' := by
  have hbl := hb.1
  obtain ⟨R, hR⟩ : ∃ R, R = fstI base s b := ⟨_, rfl⟩
  have q1 : ((n : Int)).tdiv (s : Int) = ((n / s : Nat) : Int) := by simp [Int.tdiv_eq_ediv]
  obtain ⟨N, hN⟩ : ∃ N, N = n / s := ⟨_, rfl⟩
  rw [← hR]
  have hm2 : N ≤ n := by rw [hN]; exact Nat.div_le_self _ _
  have w3 : IntKind.i64.wrap (N : Int) = (N : Int) := wrap_nat_i64 (by omega)
  have h2 := fun (w' : World) (h : BS w' w.heap.size A' m b) => run_str h 22 5 9 Tryd.underlying22 Tryd.underlying5 Tryd.underlying9 c'
  have hF : (∀ k, (∀ i, i < k → (blkB base s i == b) = false) → k < N → (blkB base s k == b) = true → R = (k : Int)) ∧ ((∀ i, i < N → (blkB base s i == b) = false) → R = -1) := ⟨fun k h1 h2 h3 => by rw [hR]; exact fst_hit h1 (by rw [hbl, ← hN]; exact h2) h3, fun h1 => by rw [hR]; exact fst_miss (by rw [hbl, ← hN]; exact h1)⟩
  have HF := Lib.hid hF
  have HN := Lib.hid hN
  rw [← hN] at q1
  clear hR hN hbl hF
  go_enter Tryd.func31, Tryd.ntmps31
  go_wp2_with fail
  go_loopg [7] N (fun r i wr => ∃ k : Nat, r + k = N ∧ i = .int .i64 (k : Int) ∧ Drawn w wr ∧ ∀ j, j < k → (blkB base s j == b) = false)
  case atStart => exact ⟨0, by omega, rfl, Drawn.refl _, fun j hj => absurd hj (by omega)⟩
  case round =>
    obtain ⟨k, hgk, rfl, hd, hno⟩ := hrel
    have HGK := Lib.hid (And.intro hgk hno)
    obtain ⟨wo, rfl⟩ : ∃ wo : World, wo = wr := ⟨_, rfl⟩
    by_cases hlt : k < N
    · have t1 : decide ((k : Int) < (N : Int)) = true := by simpa using hlt
      have hz := (hd.below w.heap.size).size
      have hblk := rblock_any A n c s k base wo ((hd.bs hb).more hz) hc hn hs (by rw [← HN.out]; exact hlt)
      clear hgk hno
      have h4 := h2 wo (hd.bs hb')
      cases hB : (blkB base s k == b)
      · go_wp2_with fail
        refine hblk.mono ?_
        rintro e w1 ⟨⟨A1, c1, rfl, hc1, hbs1⟩, hd1⟩
        have h3 := run_str hbs1 22 5 9 Tryd.underlying22 Tryd.underlying5 Tryd.underlying9 c1
        have h5 := h2 w1 ((hd.trans hd1).bs hb')
        go_wp2_with fail
        go_roundg (gk - 1)
        case measure => have := HGK.out.1; omega
        case rel => exact ⟨k + 1, by have := HGK.out.1; omega, by go_num, hd.trans hd1, fun j hj => by
          rcases Nat.lt_or_ge j k with h | h
          · exact HGK.out.2 j h
          · obtain rfl : j = k := by omega
            exact hB⟩
      · have hRk := HF.out.1 k HGK.out.2 hlt hB
        subst hRk
        go_wp2_with fail
        refine hblk.mono ?_
        rintro e w1 ⟨⟨A1, c1, rfl, hc1, hbs1⟩, hd1⟩
        have h3 := run_str hbs1 22 5 9 Tryd.underlying22 Tryd.underlying5 Tryd.underlying9 c1
        have h5 := h2 w1 ((hd.trans hd1).bs hb')
        go_wp2_with fail
        go_ret
        exact ⟨rfl, hd.trans hd1⟩
    · obtain rfl : k = N := by omega
      have t1 : decide ((k : Int) < (k : Int)) = false := by simp
      have hR1 := HF.out.2 hno
      subst hR1
      clear hgk hno
      go_wp2_with fail
      go_ret
      exact ⟨rfl, hd⟩
end Go.Proofs.YtmnanbcinfdbaaaDoor
