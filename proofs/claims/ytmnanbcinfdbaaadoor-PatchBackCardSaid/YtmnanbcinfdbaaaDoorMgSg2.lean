/- The walk of sign.Of; conditions: none beyond its hypotheses. The walks of the table's methods; conditions: none beyond their hypotheses. -/
import Derived.Test.YtmnanbcinfdbaaaDoorMgSg1
import Derived.Test.YtmnanbcinfdbaaaDoorMgSh7
import Derived.Test.YtmnanbcinfdbaaaDoorMgSg3
import Derived.Maps.GroupsBeside
import Derived.Maps.Keyed
import Derived.Outline
import Derived.BigQuiet
import Derived.IntWalk
set_option linter.unusedSimpArgs false
set_option linter.unusedVariables false
section
namespace Go.Proofs.YtmnanbcinfdbaaaDoor
open Go.RowKit Go.Proofs.U
set_option linter.unusedVariables false
attribute [local go_sem] Oper.semAt_some
set_option maxHeartbeats 400000 in
theorem cut_any (A : Option Addr) (n c : Nat) (s : Nat) (w : World) :
    Calls Tryd.prog 70 #[.slice A n c, .int .i64 (s : Int)] w fun e w' => e = .returned (.func (.func 104) #[] #[.pointer (some ⟨w.heap.size, 0, none⟩), .pointer (some ⟨w.heap.size + 1, 0, none⟩)]) ∧ w' = (w.alloc (.cells #[.slice A n c] 22)).alloc (.cells #[.int .i64 (s : Int)] 3) := by
  have hmf : ∀ (fn : Fn) (first cap : Array Value) (w : World), (Instr.makeFunc fn first cap).run Tryd.prog w = .ok (.func fn first cap) w := fun _ _ _ _ => rfl
  go_enter Tryd.func70, Tryd.ntmps70
  go_wp2_with fail
  go_ret
  exact ⟨rfl, rfl⟩
/-- what Of gives of a base and a size that are right -/
def OfRet (w : World) (Ab : Option Addr) (nb cb : Nat) (base : List UInt8) (s : Nat) (e : Ending) (w' : World) : Prop :=
  e = .returned (.tuple #[.pointer (some ⟨w.heap.size + 1, 0, none⟩), .int .i64 0]) ∧ Tab w' (w.heap.size + 1) w.heap.size (w.heap.size + 5) Ab nb cb base s (nb / s) (nb / s) ∧ Below w.heap.size w w'
set_option maxRecDepth 100000 in
set_option maxHeartbeats 4000000 in
theorem of_any (Ab : Option Addr) (nb cb s : Nat) (base : List UInt8) (w : World) (hb : BS w w.heap.size Ab nb base) (hcb : nb ≤ cb) (hnb : nb ≤ 4096) (hs : 4 ≤ s) (hs2 : s ≤ 64) (hT : Tabs w) :
    Calls Tryd.prog 30 #[.slice Ab nb cb, .int .i64 (s : Int)] w (OfRet w Ab nb cb base s) := by
  have hmm := @run_makeMap Tryd.prog
  refine (callsIn_wide (n := 3)).1 ?_
  refine callsIn_of_wp_marks Tryd.func30 rfl trivial ?_
  simp only [Tryd.ntmps30, List.size_toArray, List.length_cons, List.length_nil, Nat.reduceAdd, Nat.reduceSub, Array.replicate_succ, Array.replicate_zero, List.push_toArray, List.append_toArray, List.nil_append, List.cons_append]
  gi_wp2_with (refine ⟨trivial, ?_⟩; gi_at_call 70; refine (callsIn_wide.2 (cut_any Ab nb cb s _)).mono ?_; rintro e w' ⟨rfl, rfl⟩)
  obtain ⟨bb, bo, hAb⟩ : ∃ bb bo, 0 < nb → Ab = some ⟨bb, bo, none⟩ := by
    rcases Nat.eq_zero_or_pos nb with h | h
    · exact ⟨0, 0, fun h' => absurd h' (by omega)⟩
    · obtain ⟨b, o, e, _⟩ := hb.2 h; exact ⟨b, o, fun _ => e⟩
  obtain ⟨W5, hW5⟩ : ∃ W5, W5 = (((((w.alloc (.map #[] 0)).alloc (.cells #[.slice Ab nb cb, .int .i64 (s : Int), .slice none 0 0, .map (some w.heap.size)] 96)).alloc (.cells #[.pointer (some ⟨w.heap.size + 1, 0, none⟩)] 46)).alloc (.cells #[.slice Ab nb cb] 22)).alloc (.cells #[.int .i64 (s : Int)] 3)) := ⟨_, rfl⟩
  rw [← hW5]
  have hz5 : W5.heap.size = w.heap.size + 5 := by rw [hW5]; simp
  have hb5 : Below w.heap.size w W5 := by
    rw [hW5]; exact (((((Below.refl _ _).alloc (Nat.le_refl _) _).alloc (by simp) _).alloc (by simp; omega) _).alloc (by simp; omega) _).alloc (by simp; omega) _
  have hT5 : Tab W5 (w.heap.size + 1) w.heap.size (w.heap.size + 5) Ab nb cb base s 0 0 := by
    have hg0 := (World.ownsGroups_made w Tryd.prog 34 3 .i64 : (w.alloc (.map #[] 0)).ownsGroups (H := Unit) Tryd.prog 34 (w.heap.size + 1) 3 .i64 w.heap.size 0 (.map []))
    refine ⟨⟨none, 0, ?_, World.ownsRow_nil _ _ _ _⟩, ?_⟩
    · have := (((Blk.new (w.alloc (.map #[] 0)) 96 #[.slice Ab nb cb, .int .i64 (s : Int), .slice none 0 0, .map (some w.heap.size)]).alloc (.cells #[.pointer (some ⟨w.heap.size + 1, 0, none⟩)] 46)).alloc (.cells #[.slice Ab nb cb] 22)).alloc (.cells #[.int .i64 (s : Int)] 3)
      rw [World.size_alloc] at this
      rw [hW5]; exact this
    · rw [hW5]
      refine ⟨#[], 0, ?_, ⟨by simp, Go.MapKept.stamped_empty 0, by simp⟩, Nat.le_refl _, rfl, by omega, by simp, by simp⟩
      have h0 := (MapKept.heap_alloc w (.map #[] 0)).1
      have hb1 : Below (w.heap.size + 1) (w.alloc (.map #[] 0)) ((((( w.alloc (.map #[] 0)).alloc (.cells #[.slice Ab nb cb, .int .i64 (s : Int), .slice none 0 0, .map (some w.heap.size)] 96)).alloc (.cells #[.pointer (some ⟨w.heap.size + 1, 0, none⟩)] 46)).alloc (.cells #[.slice Ab nb cb] 22)).alloc (.cells #[.int .i64 (s : Int)] 3)) :=
        ((((Below.refl _ _).alloc (by simp) _).alloc (by simp) _).alloc (by simp) _).alloc (by simp) _
      exact (hb1.block _ (by omega)).trans h0
  have ht5 : Blk W5 (w.heap.size + 2) 46 #[.pointer (some ⟨w.heap.size + 1, 0, none⟩)] := by
    have := ((Blk.new ((w.alloc (.map #[] 0)).alloc (.cells #[.slice Ab nb cb, .int .i64 (s : Int), .slice none 0 0, .map (some w.heap.size)] 96)) 46 #[.pointer (some ⟨w.heap.size + 1, 0, none⟩)]).alloc (.cells #[.slice Ab nb cb] 22)).alloc (.cells #[.int .i64 (s : Int)] 3)
    rw [World.size_alloc, World.size_alloc] at this
    rw [hW5]; exact this
  have hn5 : Blk W5 (w.heap.size + 3) 22 #[.slice Ab nb cb] := by
    have := (Blk.new (((w.alloc (.map #[] 0)).alloc (.cells #[.slice Ab nb cb, .int .i64 (s : Int), .slice none 0 0, .map (some w.heap.size)] 96)).alloc (.cells #[.pointer (some ⟨w.heap.size + 1, 0, none⟩)] 46)) 22 #[.slice Ab nb cb]).alloc (.cells #[.int .i64 (s : Int)] 3)
    rw [World.size_alloc, World.size_alloc, World.size_alloc] at this
    rw [hW5]; exact this
  have hs5 : Blk W5 (w.heap.size + 4) 3 #[.int .i64 (s : Int)] := by
    have := Blk.new ((((w.alloc (.map #[] 0)).alloc (.cells #[.slice Ab nb cb, .int .i64 (s : Int), .slice none 0 0, .map (some w.heap.size)] 96)).alloc (.cells #[.pointer (some ⟨w.heap.size + 1, 0, none⟩)] 46)).alloc (.cells #[.slice Ab nb cb] 22)) 3 #[.int .i64 (s : Int)]
    rw [World.size_alloc, World.size_alloc, World.size_alloc, World.size_alloc] at this
    rw [hW5]; exact this
  clear hW5 hmm
  have HZ := Lib.hid hz5
  clear hz5
  refine range_cap (gf := 104) (lb := #[.pointer (some ⟨w.heap.size + 3, 0, none⟩), .pointer (some ⟨w.heap.size + 3 + 1, 0, none⟩)]) (Bn := w.heap.size + 3) (N := nb / s) (enc := encC bb bo s) (Kp := KpC (w.heap.size + 3) (w.heap.size + 4))
    rfl (enters_of Tryd.func104 (by kernel_rfl) rfl) (fun k => rfl) (cut_seq (w.heap.size + 3) (w.heap.size + 4) Ab bb bo nb cb s W5 hn5 hs5 (by omega) hAb hcb hnb hs hs2) (by rw [HZ.out]; omega)
    (fun h1 h2 q hq => (h2 q hq).trans (h1 q hq)) (fun W o hW q hq => Below.heap_alloc W o q (by rw [HZ.out] at hW; omega)) (fun W l o o' hl hh q hq => World.putObj_heap_other (by rw [HZ.out] at hl; omega))
    (fun k W => Tab W (w.heap.size + 1) w.heap.size (w.heap.size + 5) Ab nb cb base s k k ∧ Blk W (w.heap.size + 2) 46 #[.pointer (some ⟨w.heap.size + 1, 0, none⟩)] ∧ Below w.heap.size w W)
    ?hI ?h0 (fun k => { tmps := #[.slice Ab nb cb, .int .i64 (s : Int), undef, undef, .pointer none, .int .i64 0, .pointer (some ⟨w.heap.size + 1 + 1, 0, none⟩), .int .i64 (k : Int), .slice (some ⟨bb, bo + k * s, none⟩) s s, undef, .bool (decide ((s : Int) < 4) || decide (64 < (s : Int))), .int .i64 (s : Int), .bool (decide ((s : Int) < 4)), .bool (decide ((s : Int) < 4)), .int .i64 (s : Int), .bool (decide (64 < (s : Int))), .bool (decide ((s : Int) < 4) || decide (64 < (s : Int))), .bool (decide (4096 < (nb : Int))), .slice Ab nb cb, .int .i64 (nb : Int), .bool (decide (4096 < (nb : Int))), .slice Ab nb cb, .int .i64 (s : Int), .map (some w.heap.size), .agg #[.slice Ab nb cb, .int .i64 (s : Int), .slice none 0 0, .map (some w.heap.size)], .pointer (some ⟨w.heap.size + 1, 0, none⟩), .slice Ab nb cb, .int .i64 (s : Int), .func (.func 104) #[] #[.pointer (some ⟨w.heap.size + 1 + 1 + 1, 0, none⟩), .pointer (some ⟨w.heap.size + 1 + 1 + 1 + 1, 0, none⟩)], .int .i64 (k : Int), .slice (some ⟨bb, bo + k * s, none⟩) s s, undef, undef, undef, undef, undef, undef, undef, undef, undef, undef, undef, undef, undef, undef, undef, undef, undef, undef, undef, undef, undef, undef, undef, undef, undef, undef, undef, undef, undef, undef, undef, undef], defers := [] }) ?assign ?body ?done
  case hI =>
    rintro k A B row ⟨h1, h2, h3⟩ hg hr
    have hz := HZ.out
    have hap : ∀ E, 22 ∉ E → Apart A (w.heap.size + 5) row E := fun E hE j hj => by
      rcases hr j hj with rfl | ⟨hge, o, ho, hc⟩
      · exact .inl (by omega)
      · exact Apart.obj ho hc j rfl
    have hne : ∀ q, q < w.heap.size + 5 → q ≠ w.heap.size + 3 → some q ≠ row := fun q hq hq3 e => by
      rcases hr q e.symm with h | ⟨h, _⟩ <;> omega
    exact ⟨h1.only hg (hne _ (by omega) (by omega)) (hne _ (by omega) (by omega)) (hap _ (by decide)), h2.grown hg (hne _ (by omega) (by omega)), h3.grown hg h3.size (fun q hq => by rcases hr q hq with h | ⟨h, _⟩ <;> omega)⟩
  case h0 => exact ⟨hT5, ht5, hb5⟩
  case assign =>
    intro l m k W K hK
    unfold encC
    gi_wp2
    exact hK
  case body =>
    rintro l m k W hk ⟨hTab, htb, hbw⟩ hWs
    have hks : (k + 1) * s ≤ nb / s * s := Nat.mul_le_mul_right s (by omega)
    have hns : nb / s * s ≤ nb := Nat.div_mul_le_self nb s
    have hk4 : k * 4 ≤ k * s := Nat.mul_le_mul_left k hs
    rw [Nat.succ_mul] at hks
    have hbs : BS W w.heap.size (some ⟨bb, bo + k * s, none⟩) s (blkB base s k) := by
      have h1 := hb.below hbw
      rw [hAb (by omega)] at h1
      exact (h1.drop (k := k * s) (by omega)).take (k := s) (by omega)
    rw [HZ.out] at hWs ⊢
    refine wpIn_mono (body_any _ (by kernel_rfl) w.heap.size s k nb cb Ab bb bo base hs2 (by omega) l m W _ rfl rfl rfl rfl (hT.stay hbw) hbs hTab htb hWs) ?_
    rintro e a W' ⟨rfl, h1, h2, h3, h4, h5⟩
    exact ⟨rfl, h1, h2, h3, h4, hbw.trans h5⟩
  case done =>
    rintro D W hD ⟨h1, h2, h3⟩ hd
    have c0 := Blk.cell h2 0
    simp at c0
    have c0' : W.cell? ⟨w.heap.size + 1 + 1, 0, none⟩ = some (.pointer (some ⟨w.heap.size + 1, 0, none⟩)) := c0
    have HI := Lib.hid (And.intro h1 (And.intro h2 (And.intro h3 hd)))
    clear h1 h2 h3 hd c0
    gi_wp2
    have hz := HZ.out
    refine ⟨by simp, .inl ⟨_, _, rfl, run_takeDeferred HI.out.2.2.2, ?_⟩⟩
    have hgp := grownBy_putObj' W D (.deferred none)
    refine ⟨_, results_tmp2 rfl _ _ _, rfl, HI.out.1.only hgp (by simp; omega) (by simp; omega) (Apart.obj HI.out.2.2.2 rfl), HI.out.2.2.1.grown hgp HI.out.2.2.1.size (fun q hq => by injection hq; omega)⟩
end Go.Proofs.YtmnanbcinfdbaaaDoor
end

section
namespace Go.Proofs.YtmnanbcinfdbaaaDoor
open Go.RowKit Go.Proofs.U
set_option linter.unusedVariables false
theorem wrap_nat_i64 {n : Nat} (h : n ≤ 4611686018427387904) : IntKind.i64.wrap (n : Int) = (n : Int) := by
  rw [IntKind.wrap_i64]; omega
set_option maxHeartbeats 400000 in
theorem equal_any (A : Option Addr) (n c : Nat) (bs : List UInt8) (A' : Option Addr) (m d : Nat) (bs' : List UInt8) (w : World) (B B' : Nat) (hb : BS w B A n bs) (hb' : BS w B' A' m bs') :
    Calls Tryd.prog 75 #[.slice A n c, .slice A' m d] w fun e w' => e = .returned (.bool (bs == bs')) ∧ w = w' := by
  have h1 := run_str hb 22 5 9 Tryd.underlying22 Tryd.underlying5 Tryd.underlying9 c
  have h2 := run_str hb' 22 5 9 Tryd.underlying22 Tryd.underlying5 Tryd.underlying9 d
  go_enter Tryd.func75, Tryd.ntmps75
  go_wp2
  go_ret
  exact ⟨rfl, rfl⟩
/-- a finished table, its base beside it -/
structure Tt (w : World) (g mb B0 : Nat) (Ab : Option Addr) (nb cb : Nat) (base : List UInt8) (s : Nat) : Prop where
  tab : Tab w g mb B0 Ab nb cb base s (nb / s) (nb / s)
  bs : BS w w.heap.size Ab nb base
  hc : nb ≤ cb
  hn : nb ≤ 4096
  lo : 4 ≤ s
  hi : s ≤ 64
theorem Tt.stay {w w' : World} {g mb B0 : Nat} {Ab : Option Addr} {nb cb : Nat} {base : List UInt8} {s : Nat} (h : Tt w g mb B0 Ab nb cb base s) (hb : Below w.heap.size w w') : Tt w' g mb B0 Ab nb cb base s :=
  ⟨h.tab.below hb, (h.bs.below hb).more hb.size, h.hc, h.hn, h.lo, h.hi⟩
section
variable (g mb B0 : Nat) (Ab : Option Addr) (nb cb : Nat) (base : List UInt8) (s : Nat) (w : World)
set_option maxHeartbeats 1000000 in
theorem size_any (h : Tt w g mb B0 Ab nb cb base s) : Calls Tryd.prog 34 #[.pointer (some ⟨g, 0, none⟩)] w fun e w' => e = .returned (.int .i64 (s : Int)) ∧ w = w' := by
  obtain ⟨Al, cl, hx, _⟩ := h.tab.row
  have c1 : w.cell? ⟨g, 1, none⟩ = some (.int .i64 (s : Int)) := Blk.cell hx 1
  go_enter Tryd.func34, Tryd.ntmps34
  go_wp2_with fail
  go_ret
  exact ⟨rfl, rfl⟩
set_option maxHeartbeats 1000000 in
theorem sizeNil_any : Calls Tryd.prog 34 #[.pointer none] w fun e w' => e = .returned (.int .i64 0) ∧ w = w' := by
  go_enter Tryd.func34, Tryd.ntmps34
  go_wp2_with fail
  go_ret
  exact ⟨rfl, rfl⟩
set_option maxHeartbeats 1000000 in
theorem len_any (h : Tt w g mb B0 Ab nb cb base s) : Calls Tryd.prog 35 #[.pointer (some ⟨g, 0, none⟩)] w fun e w' => e = .returned (.int .i64 ((nb / s : Nat) : Int)) ∧ w = w' := by
  obtain ⟨Al, cl, hx, _⟩ := h.tab.row
  obtain ⟨n, hn⟩ : ∃ n, n = nb / s := ⟨_, rfl⟩
  rw [← hn] at hx ⊢
  clear hn
  have c1 : w.cell? ⟨g, 2, none⟩ = some (.slice Al n cl) := Blk.cell hx 2
  go_enter Tryd.func35, Tryd.ntmps35
  go_wp2_with fail
  go_ret
  exact ⟨rfl, rfl⟩
set_option maxHeartbeats 1000000 in
theorem lenNil_any : Calls Tryd.prog 35 #[.pointer none] w fun e w' => e = .returned (.int .i64 0) ∧ w = w' := by
  go_enter Tryd.func35, Tryd.ntmps35
  go_wp2_with fail
  go_ret
  exact ⟨rfl, rfl⟩
/-- there is an i-th block -/
def Has (n : Nat) (i : Int) : Bool := decide (0 ≤ i) && decide (i < (n : Int))
set_option maxHeartbeats 1000000 in
theorem has_of (p : Value) (n : Nat) (hlen : Calls Tryd.prog 35 #[p] w fun e w' => e = .returned (.int .i64 (n : Int)) ∧ w = w') (i : Int) :
    Calls Tryd.prog 72 #[p, .int .i64 i] w fun e w' => e = .returned (.bool (Has n i)) ∧ w = w' := by
  by_cases hi : 0 ≤ i
  · have t1 : decide (0 ≤ i) = true := by simpa using hi
    have hh : Has n i = decide (i < (n : Int)) := by unfold Has; rw [t1]; rfl
    rw [hh]
    clear hh
    go_enter Tryd.func72, Tryd.ntmps72
    go_wp2_with (go_at_call 35; refine hlen.mono ?_; rintro e w' ⟨rfl, rfl⟩)
    go_ret
    exact ⟨rfl, rfl⟩
  · have t1 : decide (0 ≤ i) = false := by simpa using hi
    have hh : Has n i = false := by unfold Has; rw [t1]; rfl
    rw [hh]
    clear hh
    go_enter Tryd.func72, Tryd.ntmps72
    go_wp2_with fail
    go_ret
    exact ⟨rfl, rfl⟩
theorem has_any (h : Tt w g mb B0 Ab nb cb base s) (i : Int) : Calls Tryd.prog 72 #[.pointer (some ⟨g, 0, none⟩), .int .i64 i] w fun e w' => e = .returned (.bool (Has (nb / s) i)) ∧ w = w' :=
  has_of w _ _ (len_any g mb B0 Ab nb cb base s w h) i
theorem hasNil_any (i : Int) : Calls Tryd.prog 72 #[.pointer none, .int .i64 i] w fun e w' => e = .returned (.bool (Has 0 i)) ∧ w = w' :=
  has_of w _ 0 (lenNil_any w) i
set_option maxRecDepth 100000 in
set_option maxHeartbeats 1000000 in
theorem bytes_any (h : Tt w g mb B0 Ab nb cb base s) (i : Nat) (hi : i < nb / s) : Calls Tryd.prog 74 #[.pointer (some ⟨g, 0, none⟩), .int .i64 (i : Int)] w fun e w' =>
    (∃ A c, e = .returned (.slice A s c) ∧ s ≤ c ∧ BS w' w.heap.size A s (blkB base s i)) ∧ Below w.heap.size w w' := by
  obtain ⟨Al, cl, hx, _⟩ := h.tab.row
  have c0 : w.cell? ⟨g, 0, none⟩ = some (.slice Ab nb cb) := Blk.cell hx 0
  have c1 : w.cell? ⟨g, 1, none⟩ = some (.int .i64 (s : Int)) := Blk.cell hx 1
  have hks : (i + 1) * s ≤ nb / s * s := Nat.mul_le_mul_right s (by omega)
  have hns : nb / s * s ≤ nb := Nat.div_mul_le_self nb s
  have hc := h.hc
  have hn := h.hn
  have hlo := h.lo
  obtain ⟨bb, bo, rfl, _⟩ := h.bs.2 (by rw [Nat.succ_mul] at hks; omega)
  obtain ⟨lo, hlo'⟩ : ∃ lo, lo = i * s := ⟨_, rfl⟩
  have hb2 : BS w w.heap.size (some ⟨bb, bo + lo, none⟩) s (blkB base s i) := by
    rw [Nat.succ_mul] at hks
    rw [hlo']
    exact (h.bs.drop (k := i * s) (by omega)).take (k := s) (by omega)
  have m1 : (i : Int) * (s : Int) = (lo : Int) := by rw [hlo']; simp
  have m2 : ((i : Int) + 1) * (s : Int) = ((lo + s : Nat) : Int) := by rw [hlo', ← Nat.succ_mul]; simp
  rw [Nat.succ_mul, ← hlo'] at hks
  have w1 : IntKind.i64.wrap ((i : Int) * (s : Int)) = (lo : Int) := by rw [m1]; exact wrap_nat_i64 (by omega)
  have w2 : IntKind.i64.wrap ((i : Int) + 1) = (i : Int) + 1 := by
    have : i ≤ i * s := Nat.le_mul_of_pos_right i (by omega)
    have := wrap_nat_i64 (n := i + 1) (by omega)
    simpa using this
  have w3 : IntKind.i64.wrap (((i : Int) + 1) * (s : Int)) = ((lo + s : Nat) : Int) := by rw [m2]; exact wrap_nat_i64 (by omega)
  have hle : lo + s ≤ cb := by omega
  have hHB := Lib.hid hb2
  clear hlo' m1 m2 hks hns hb2 hi h hx hc hn
  go_enter Tryd.func74, Tryd.ntmps74
  go_wp2_with fail
  go_quiet (fail)
  go_wp2_with fail
  go_ret
  have hsub : (Ending.returned (.slice (some ⟨bb, bo + lo, none⟩) (lo + s - lo) (cb - lo))) = .returned (.slice (some ⟨bb, bo + lo, none⟩) s (cb - lo)) := by rw [Nat.add_sub_cancel_left]
  exact ⟨⟨some ⟨bb, bo + lo, none⟩, cb - lo, hsub, by omega, hHB.out.drewN _⟩, ⟨rfl, rfl, rfl, Nat.le_refl _, fun _ _ => rfl⟩⟩
end
theorem bvals_at (base : List UInt8) (s : Nat) {k j : Nat} (hj : j < 33) : ∀ n, k < n → (bvals base s n)[k * 33 + j]? = (bval (blkB base s k))[j]?
  | 0, h => absurd h (by omega)
  | n + 1, h => by
    rw [bvals]
    by_cases e : k = n
    · subst e
      rw [List.getElem?_append_right (by rw [bvals_len]; omega), bvals_len, Nat.add_sub_cancel_left]
    · rw [List.getElem?_append_left (by rw [bvals_len]; omega)]
      exact bvals_at base s hj n (by omega)
theorem Tt.place {w : World} {g mb B0 : Nat} {Ab : Option Addr} {nb cb : Nat} {base : List UInt8} {s : Nat} (h : Tt w g mb B0 Ab nb cb base s) {k : Nat} (hk : k < nb / s) :
    ∃ gA cl, Blk w g 96 #[.slice Ab nb cb, .int .i64 (s : Int), .slice (some ⟨gA, 0, none⟩) (nb / s) cl, .map (some mb)] ∧ w.rangeAt gA (k * 33) (bval (blkB base s k)) := by
  obtain ⟨Al, cl, hx, hr⟩ := h.tab.row
  obtain ⟨gA, cap, hv, _, _⟩ := World.ownsRow.form hr (by omega)
  injection hv with hA
  subst hA
  refine ⟨gA, cl, hx, fun j v hv => ?_⟩
  have hj : j < 33 := by rw [← bval_len (blkB base s k)]; exact (List.getElem?_eq_some_iff.1 hv).1
  rw [World.ownsRow.cellAt hr _ (by omega), bvals_at base s hj _ hk, hv]
section
variable (g mb B0 : Nat) (Ab : Option Addr) (nb cb : Nat) (base : List UInt8) (s : Nat) (w : World)
theorem Has_nat {n : Nat} {i : Int} (h : Has n i = true) : ∃ k : Nat, i = (k : Int) ∧ k < n := by
  unfold Has at h
  simp only [Bool.and_eq_true, decide_eq_true_eq] at h
  exact ⟨i.toNat, by omega, by omega⟩
set_option maxRecDepth 100000 in
set_option maxHeartbeats 1000000 in
theorem weak_any (h : Tt w g mb B0 Ab nb cb base s) (i : Int) : Calls Tryd.prog 37 #[.pointer (some ⟨g, 0, none⟩), .int .i64 i] w fun e w' => e = .returned (.int .u32 (if Has (nb / s) i then wk base s i.toNat else 0)) ∧ w = w' := by
  have hh := has_any g mb B0 Ab nb cb base s w h i
  cases hH : Has (nb / s) i
  · rw [hH] at hh
    rw [if_neg (by simp)]
    go_enter Tryd.func37, Tryd.ntmps37
    go_wp2_with (go_at_call 72; refine hh.mono ?_; rintro e w' ⟨rfl, rfl⟩)
    go_ret
    exact ⟨rfl, rfl⟩
  · rw [hH] at hh
    rw [if_pos rfl]
    obtain ⟨k, rfl, hk⟩ := Has_nat hH
    obtain ⟨gA, cl, hx, hr⟩ := h.place hk
    have c2 : w.cell? ⟨g, 2, none⟩ = some (.slice (some ⟨gA, 0, none⟩) (nb / s) cl) := Blk.cell hx 2
    have c3 : w.cell? ⟨gA, k * 33, none⟩ = some (.int .u32 (wk base s k)) := hr 0 _ rfl
    obtain ⟨n, hn⟩ : ∃ n, n = nb / s := ⟨_, rfl⟩
    rw [← hn] at hk c2
    obtain ⟨W, hW⟩ : ∃ W, W = wk base s k := ⟨_, rfl⟩
    have hgoal : wk base s ((k : Int)).toNat = W := hW.symm
    rw [hgoal]
    rw [← hW] at c3
    clear hx hr hH hn h hgoal hW
    go_enter Tryd.func37, Tryd.ntmps37
    go_wp2_with (go_at_call 72; refine hh.mono ?_; rintro e w' ⟨rfl, rfl⟩)
    go_ret
    exact ⟨rfl, rfl⟩
theorem wrap_nat_ok (k : Nat) (h : k < 5000) : IntKind.i64.wrap (k : Int) = (k : Int) := wrap_nat_i64 (by omega)
set_option maxRecDepth 100000 in
set_option maxHeartbeats 1000000 in
theorem block_any (h : Tt w g mb B0 Ab nb cb base s) (i : Int) : Calls Tryd.prog 39 #[.pointer (some ⟨g, 0, none⟩), .int .i64 i] w fun e w' =>
    (∃ A n c, e = .returned (.slice A n c) ∧ BS w' w'.heap.size A n (if Has (nb / s) i then blkB base s i.toNat else [])) ∧ Below w.heap.size w w' := by
  have hh := has_any g mb B0 Ab nb cb base s w h i
  have hs := h.hi
  cases hH : Has (nb / s) i
  · rw [hH] at hh
    rw [if_neg (by simp)]
    go_enter Tryd.func39, Tryd.ntmps39
    go_wp2_with (go_at_call 72; refine hh.mono ?_; rintro e w' ⟨rfl, rfl⟩)
    go_ret
    exact ⟨⟨_, _, _, rfl, BS.nil _ _ _⟩, Below.refl _ _⟩
  · rw [hH] at hh
    rw [if_pos rfl]
    obtain ⟨k, rfl, hk⟩ := Has_nat hH
    have hb := bytes_any g mb B0 Ab nb cb base s w h k hk
    rw [show ((k : Int)).toNat = k from rfl]
    clear hk hH
    go_enter Tryd.func39, Tryd.ntmps39
    go_wp2_with (go_at_call 72; refine hh.mono ?_; rintro e w' ⟨rfl, rfl⟩)
    refine hb.mono ?_
    rintro e w1 ⟨⟨A, c, rfl, hc, hbs⟩, hb1⟩
    have hs1 := hb1.size
    go_wp2_with fail
    refine (clone_any A s c (blkB base s k) w1 w.heap.size hbs hb1.size (by omega)).mono ?_
    rintro e w2 ⟨A2, c2, rfl, hown, hb2⟩
    go_wp2_with fail
    go_ret
    exact ⟨⟨_, _, _, rfl, Own.bs hown⟩, hb1.trans (hb2.mono hs1)⟩
set_option maxRecDepth 100000 in
set_option maxHeartbeats 1000000 in
theorem is_any (h : Tt w g mb B0 Ab nb cb base s) (i : Int) (A : Option Addr) (n c : Nat) (bs : List UInt8) (B : Nat) (hbs : BS w B A n bs) (hB : B ≤ w.heap.size) :
    Calls Tryd.prog 40 #[.pointer (some ⟨g, 0, none⟩), .int .i64 i, .slice A n c] w fun e w' =>
    e = .returned (.bool (Has (nb / s) i && (blkB base s i.toNat == bs))) ∧ Below w.heap.size w w' := by
  have hh := has_any g mb B0 Ab nb cb base s w h i
  cases hH : Has (nb / s) i
  · rw [hH] at hh
    rw [Bool.false_and]
    go_enter Tryd.func40, Tryd.ntmps40
    go_wp2_with (go_at_call 72; refine hh.mono ?_; rintro e w' ⟨rfl, rfl⟩)
    go_ret
    exact ⟨rfl, Below.refl _ _⟩
  · rw [hH] at hh
    rw [Bool.true_and]
    obtain ⟨k, rfl, hk⟩ := Has_nat hH
    have hb := bytes_any g mb B0 Ab nb cb base s w h k hk
    rw [show ((k : Int)).toNat = k from rfl]
    clear hk hH
    go_enter Tryd.func40, Tryd.ntmps40
    go_wp2_with (go_at_call 72; refine hh.mono ?_; rintro e w' ⟨rfl, rfl⟩)
    refine hb.mono ?_
    rintro e w1 ⟨⟨A1, c1, rfl, hc, hbs1⟩, hb1⟩
    go_wp2_with fail
    refine (equal_any A1 s c1 (blkB base s k) A n c bs w1 w.heap.size B hbs1 (hbs.below (hb1.mono hB))).mono ?_
    rintro e w2 ⟨rfl, rfl⟩
    go_wp2_with fail
    go_ret
    exact ⟨rfl, hb1⟩
end
end Go.Proofs.YtmnanbcinfdbaaaDoor
end
