/- The walk of sign.Of; conditions: none beyond its hypotheses. -/
import Derived.Test.YtmnanbcinfdbaaaDoorSg1
import Derived.Test.YtmnanbcinfdbaaaDoorSgp
import Derived.Test.YtmnanbcinfdbaaaDoorSh8
import Derived.Test.YtmnanbcinfdbaaaDoorSg3
import Derived.Maps.GroupsBeside
import Derived.Maps.Keyed
import Derived.Outline
namespace Go.Proofs.YtmnanbcinfdbaaaDoor
open Go.RowKit Go.Proofs.U
set_option linter.unusedVariables false
attribute [local go_sem] Oper.semAt_some
set_option maxHeartbeats 400000 in
theorem cut_any (A : Option Addr) (n c : Nat) (s : Nat) (w : World) :
    Calls Tryd.prog 70 #[.slice A n c, .int .i64 (s : Int)] w fun e w' => e = .returned (.func (.func 104) #[] #[.pointer (some ⟨w.heap.size, 0, none⟩), .pointer (some ⟨w.heap.size + 1, 0, none⟩)]) ∧ w' = (w.alloc (.cells #[.slice A n c] 22)).alloc (.cells #[.int .i64 (s : Int)] 3) := by
  have hmf : ∀ (fn : Fn) (first cap : Array Value) (w : World), (Instr.makeFunc fn first cap).run Tryd.prog w = .ok (.func fn first cap) w := fun _ _ _ _ => rfl
  go_enter Tryd.func70, Tryd.ntmps70
  go_wp2_with fail
  go_ret
  exact ⟨rfl, rfl⟩
/-- what Of gives of a base and a size that are right -/
def OfRet (w : World) (Ab : Option Addr) (nb cb : Nat) (base : List UInt8) (s : Nat) (e : Ending) (w' : World) : Prop :=
  e = .returned (.tuple #[.pointer (some ⟨w.heap.size + 1, 0, none⟩), .int .i64 0]) ∧ Tab w' (w.heap.size + 1) w.heap.size (w.heap.size + 5) Ab nb cb base s (nb / s) (nb / s) ∧ Below w.heap.size w w'
set_option maxRecDepth 100000 in
set_option maxHeartbeats 4000000 in
theorem of_any (Ab : Option Addr) (nb cb s : Nat) (base : List UInt8) (w : World) (hb : BS w w.heap.size Ab nb base) (hcb : nb ≤ cb) (hnb : nb ≤ 4096) (hs : 4 ≤ s) (hs2 : s ≤ 64) (hT : Tabs w) :
    Calls Tryd.prog 30 #[.slice Ab nb cb, .int .i64 (s : Int)] w (OfRet w Ab nb cb base s) := by
  have hmm := @run_makeMap Tryd.prog
  refine (callsIn_wide (n := 3)).1 ?_
  refine callsIn_of_wp_marks Tryd.func30 rfl trivial ?_
  simp only [Tryd.ntmps30, List.size_toArray, List.length_cons, List.length_nil, Nat.reduceAdd, Nat.reduceSub, Array.replicate_succ, Array.replicate_zero, List.push_toArray, List.append_toArray, List.nil_append, List.cons_append]
  gi_wp2_with (refine ⟨trivial, ?_⟩; gi_at_call 70; refine (callsIn_wide.2 (cut_any Ab nb cb s _)).mono ?_; rintro e w' ⟨rfl, rfl⟩)
  obtain ⟨bb, bo, hAb⟩ : ∃ bb bo, 0 < nb → Ab = some ⟨bb, bo, none⟩ := by
    rcases Nat.eq_zero_or_pos nb with h | h
    · exact ⟨0, 0, fun h' => absurd h' (by omega)⟩
    · obtain ⟨b, o, e, _⟩ := hb.2 h; exact ⟨b, o, fun _ => e⟩
  obtain ⟨W5, hW5⟩ : ∃ W5, W5 = (((((w.alloc (.map #[] 0)).alloc (.cells #[.slice Ab nb cb, .int .i64 (s : Int), .slice none 0 0, .map (some w.heap.size)] 96)).alloc (.cells #[.pointer (some ⟨w.heap.size + 1, 0, none⟩)] 46)).alloc (.cells #[.slice Ab nb cb] 22)).alloc (.cells #[.int .i64 (s : Int)] 3)) := ⟨_, rfl⟩
  rw [← hW5]
  have hz5 : W5.heap.size = w.heap.size + 5 := by rw [hW5]; simp
  have hb5 : Below w.heap.size w W5 := by
    rw [hW5]; exact (((((Below.refl _ _).alloc (Nat.le_refl _) _).alloc (by simp) _).alloc (by simp; omega) _).alloc (by simp; omega) _).alloc (by simp; omega) _
  have hT5 : Tab W5 (w.heap.size + 1) w.heap.size (w.heap.size + 5) Ab nb cb base s 0 0 := by
    have hg0 := (World.ownsGroups_made w Tryd.prog 34 3 .i64 : (w.alloc (.map #[] 0)).ownsGroups (H := Unit) Tryd.prog 34 (w.heap.size + 1) 3 .i64 w.heap.size 0 (.map []))
    refine ⟨⟨none, 0, ?_, World.ownsRow_nil _ _ _ _⟩, ?_⟩
    · have := (((Blk.new (w.alloc (.map #[] 0)) 96 #[.slice Ab nb cb, .int .i64 (s : Int), .slice none 0 0, .map (some w.heap.size)]).alloc (.cells #[.pointer (some ⟨w.heap.size + 1, 0, none⟩)] 46)).alloc (.cells #[.slice Ab nb cb] 22)).alloc (.cells #[.int .i64 (s : Int)] 3)
      rw [World.size_alloc] at this
      rw [hW5]; exact this
    · rw [hW5]
      refine ⟨#[], 0, ?_, ⟨by simp, Go.MapKept.stamped_empty 0, by simp⟩, Nat.le_refl _, rfl, by omega, by simp, by simp⟩
      have h0 := (MapKept.heap_alloc w (.map #[] 0)).1
      have hb1 : Below (w.heap.size + 1) (w.alloc (.map #[] 0)) ((((( w.alloc (.map #[] 0)).alloc (.cells #[.slice Ab nb cb, .int .i64 (s : Int), .slice none 0 0, .map (some w.heap.size)] 96)).alloc (.cells #[.pointer (some ⟨w.heap.size + 1, 0, none⟩)] 46)).alloc (.cells #[.slice Ab nb cb] 22)).alloc (.cells #[.int .i64 (s : Int)] 3)) :=
        ((((Below.refl _ _).alloc (by simp) _).alloc (by simp) _).alloc (by simp) _).alloc (by simp) _
      exact (hb1.block _ (by omega)).trans h0
  have ht5 : Blk W5 (w.heap.size + 2) 46 #[.pointer (some ⟨w.heap.size + 1, 0, none⟩)] := by
    have := ((Blk.new ((w.alloc (.map #[] 0)).alloc (.cells #[.slice Ab nb cb, .int .i64 (s : Int), .slice none 0 0, .map (some w.heap.size)] 96)) 46 #[.pointer (some ⟨w.heap.size + 1, 0, none⟩)]).alloc (.cells #[.slice Ab nb cb] 22)).alloc (.cells #[.int .i64 (s : Int)] 3)
    rw [World.size_alloc, World.size_alloc] at this
    rw [hW5]; exact this
  have hn5 : Blk W5 (w.heap.size + 3) 22 #[.slice Ab nb cb] := by
    have := (Blk.new (((w.alloc (.map #[] 0)).alloc (.cells #[.slice Ab nb cb, .int .i64 (s : Int), .slice none 0 0, .map (some w.heap.size)] 96)).alloc (.cells #[.pointer (some ⟨w.heap.size + 1, 0, none⟩)] 46)) 22 #[.slice Ab nb cb]).alloc (.cells #[.int .i64 (s : Int)] 3)
    rw [World.size_alloc, World.size_alloc, World.size_alloc] at this
    rw [hW5]; exact this
  have hs5 : Blk W5 (w.heap.size + 4) 3 #[.int .i64 (s : Int)] := by
    have := Blk.new ((((w.alloc (.map #[] 0)).alloc (.cells #[.slice Ab nb cb, .int .i64 (s : Int), .slice none 0 0, .map (some w.heap.size)] 96)).alloc (.cells #[.pointer (some ⟨w.heap.size + 1, 0, none⟩)] 46)).alloc (.cells #[.slice Ab nb cb] 22)) 3 #[.int .i64 (s : Int)]
    rw [World.size_alloc, World.size_alloc, World.size_alloc, World.size_alloc] at this
    rw [hW5]; exact this
  clear hW5 hmm
  have HZ := Lib.hid hz5
  clear hz5
  refine range_cap (gf := 104) (lb := #[.pointer (some ⟨w.heap.size + 3, 0, none⟩), .pointer (some ⟨w.heap.size + 3 + 1, 0, none⟩)]) (Bn := w.heap.size + 3) (N := nb / s) (enc := encC bb bo s) (Kp := KpC (w.heap.size + 3) (w.heap.size + 4))
    rfl (enters_of Tryd.func104 (by kernel_rfl) rfl) (fun k => rfl) (cut_seq (w.heap.size + 3) (w.heap.size + 4) Ab bb bo nb cb s W5 hn5 hs5 (by omega) hAb hcb hnb hs hs2) (by rw [HZ.out]; omega)
    (fun h1 h2 q hq => (h2 q hq).trans (h1 q hq)) (fun W o hW q hq => Below.heap_alloc W o q (by rw [HZ.out] at hW; omega)) (fun W l o o' hl hh q hq => World.putObj_heap_other (by rw [HZ.out] at hl; omega))
    (fun k W => Tab W (w.heap.size + 1) w.heap.size (w.heap.size + 5) Ab nb cb base s k k ∧ Blk W (w.heap.size + 2) 46 #[.pointer (some ⟨w.heap.size + 1, 0, none⟩)] ∧ Below w.heap.size w W)
    ?hI ?h0 (fun k => { tmps := #[.slice Ab nb cb, .int .i64 (s : Int), undef, undef, .pointer none, .int .i64 0, .pointer (some ⟨w.heap.size + 1 + 1, 0, none⟩), .int .i64 (k : Int), .slice (some ⟨bb, bo + k * s, none⟩) s s, undef, .bool (decide ((s : Int) < 4) || decide (64 < (s : Int))), .int .i64 (s : Int), .bool (decide ((s : Int) < 4)), .bool (decide ((s : Int) < 4)), .int .i64 (s : Int), .bool (decide (64 < (s : Int))), .bool (decide ((s : Int) < 4) || decide (64 < (s : Int))), .bool (decide (4096 < (nb : Int))), .slice Ab nb cb, .int .i64 (nb : Int), .bool (decide (4096 < (nb : Int))), .slice Ab nb cb, .int .i64 (s : Int), .map (some w.heap.size), .agg #[.slice Ab nb cb, .int .i64 (s : Int), .slice none 0 0, .map (some w.heap.size)], .pointer (some ⟨w.heap.size + 1, 0, none⟩), .slice Ab nb cb, .int .i64 (s : Int), .func (.func 104) #[] #[.pointer (some ⟨w.heap.size + 1 + 1 + 1, 0, none⟩), .pointer (some ⟨w.heap.size + 1 + 1 + 1 + 1, 0, none⟩)], .int .i64 (k : Int), .slice (some ⟨bb, bo + k * s, none⟩) s s, undef, undef, undef, undef, undef, undef, undef, undef, undef, undef, undef, undef, undef, undef, undef, undef, undef, undef, undef, undef, undef, undef, undef, undef, undef, undef, undef, undef, undef, undef, undef, undef], defers := [] }) ?assign ?body ?done
  case hI =>
    rintro k A B row ⟨h1, h2, h3⟩ hg hr
    have hz := HZ.out
    have hap : ∀ E, 22 ∉ E → Apart A (w.heap.size + 5) row E := fun E hE j hj => by
      rcases hr j hj with rfl | ⟨hge, o, ho, hc⟩
      · exact .inl (by omega)
      · exact Apart.obj ho hc j rfl
    have hne : ∀ q, q < w.heap.size + 5 → q ≠ w.heap.size + 3 → some q ≠ row := fun q hq hq3 e => by
      rcases hr q e.symm with h | ⟨h, _⟩ <;> omega
    exact ⟨h1.only hg (hne _ (by omega) (by omega)) (hne _ (by omega) (by omega)) (hap _ (by decide)), h2.grown hg (hne _ (by omega) (by omega)), h3.grown hg h3.size (fun q hq => by rcases hr q hq with h | ⟨h, _⟩ <;> omega)⟩
  case h0 => exact ⟨hT5, ht5, hb5⟩
  case assign =>
    intro l m k W K hK
    unfold encC
    gi_wp2
    exact hK
  case body =>
    rintro l m k W hk ⟨hTab, htb, hbw⟩ hWs
    have hks : (k + 1) * s ≤ nb / s * s := Nat.mul_le_mul_right s (by omega)
    have hns : nb / s * s ≤ nb := Nat.div_mul_le_self nb s
    have hk4 : k * 4 ≤ k * s := Nat.mul_le_mul_left k hs
    rw [Nat.succ_mul] at hks
    have hbs : BS W w.heap.size (some ⟨bb, bo + k * s, none⟩) s (blkB base s k) := by
      have h1 := hb.below hbw
      rw [hAb (by omega)] at h1
      exact (h1.drop (k := k * s) (by omega)).take (k := s) (by omega)
    rw [HZ.out] at hWs ⊢
    refine wpIn_mono (body_any _ (by kernel_rfl) w.heap.size s k nb cb Ab bb bo base hs2 (by omega) l m W _ rfl rfl rfl rfl (hT.stay hbw) hbs hTab htb hWs) ?_
    rintro e a W' ⟨rfl, h1, h2, h3, h4, h5⟩
    exact ⟨rfl, h1, h2, h3, h4, hbw.trans h5⟩
  case done =>
    rintro D W hD ⟨h1, h2, h3⟩ hd
    have c0 := Blk.cell h2 0
    simp at c0
    have c0' : W.cell? ⟨w.heap.size + 1 + 1, 0, none⟩ = some (.pointer (some ⟨w.heap.size + 1, 0, none⟩)) := c0
    have HI := Lib.hid (And.intro h1 (And.intro h2 (And.intro h3 hd)))
    clear h1 h2 h3 hd c0
    gi_wp2
    have hz := HZ.out
    refine ⟨by simp, .inl ⟨_, _, rfl, run_takeDeferred HI.out.2.2.2, ?_⟩⟩
    have hgp := grownBy_putObj' W D (.deferred none)
    refine ⟨_, results_tmp2 rfl _ _ _, rfl, HI.out.1.only hgp (by simp; omega) (by simp; omega) (Apart.obj HI.out.2.2.2 rfl), HI.out.2.2.1.grown hgp HI.out.2.2.1.size (fun q hq => by injection hq; omega)⟩
end Go.Proofs.YtmnanbcinfdbaaaDoor
