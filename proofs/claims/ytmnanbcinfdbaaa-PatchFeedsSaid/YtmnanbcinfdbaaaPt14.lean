/- The walk of PatchFeeds; conditions: none beyond their hypotheses. -/
import Derived.Test.YtmnanbcinfdbaaaPt13
namespace Go.Proofs.Ytmnanbcinfdbaaa
open Go.RowKit Go.Proofs.U
set_option linter.unusedVariables false
set_option maxRecDepth 100000 in
set_option maxHeartbeats 1000000 in
theorem feed_bad (g : Nat) (Ab : Option Addr) (nb cb : Nat) (base hs : List UInt8) (o f : Nat) (hf : f ≠ 0) (A : Option Addr) (n c : Nat) (b : List UInt8) (w : World) (hp : PtS w g Ab nb cb base hs o f) :
    Calls Try.prog 24 #[.pointer (some ⟨g, 0, none⟩), .slice A n c] w (FeedRet w g Ab nb cb base (Gr.feedP nb base hs o f b)) := by
  have hR : Gr.feedP nb base hs o f b = ([], o, hs, f) := by unfold Gr.feedP; rw [if_pos hf]
  rw [hR]
  obtain ⟨Ah, ch, hk, hbase, hheld, hch⟩ := hp
  have b1 : ((f : Int) != 0) = true := by rw [bne_iff_ne]; omega
  have HB := Lib.hid (And.intro hbase (And.intro hheld (And.intro hch hk)))
  clear hR hbase hheld hch hk
  go_enter_defers Try.func24, Try.ntmps24
  go_wp2_with fail
  go_step3
  go_wp2_with fail
  refine (fault_any HB.out.2.2.2).mono ?_
  rintro e w1 ⟨rfl, ⟨q1, rfl⟩⟩
  go_wp2_with fail
  refine (fault_any (HB.out.2.2.2.drewN q1)).mono ?_
  rintro e w1 ⟨rfl, ⟨q2, rfl⟩⟩
  go_wp2_with fail
  rw [Exit.noGoto_ret]
  have hpp : PtS w g Ab nb cb base hs o f := ⟨Ah, ch, HB.out.2.2.2, HB.out.1, HB.out.2.1, HB.out.2.2.1⟩
  exact ⟨_, results_tmp2 rfl _ _ _, none, 0, rfl, Own.nil _ _ _, hpp.below (below_drewN (Below.refl _ _) (q1 + q2)), only_drewN (World.grownBy.refl _ _) (q1 + q2)⟩
theorem feed_any (g : Nat) (Ab : Option Addr) (nb cb : Nat) (base hs : List UInt8) (o f : Nat) (A : Option Addr) (n c : Nat) (b : List UInt8) (w : World)
    (hp : PtS w g Ab nb cb base hs o f) (hcb : nb ≤ cb) (hnb : nb ≤ 4096) (ho : o ≤ 4096) (hb : BS w w.heap.size A n b) (hn : n ≤ 1000000) (hhs : hs.length ≤ 1000000) :
    Calls Try.prog 24 #[.pointer (some ⟨g, 0, none⟩), .slice A n c] w (FeedRet w g Ab nb cb base (Gr.feedP nb base hs o f b)) := by
  by_cases hf : f = 0
  · subst hf; exact feed_ok g Ab nb cb base hs o A n c b w hp hcb hnb ho hb hn hhs
  · exact feed_bad g Ab nb cb base hs o f hf A n c b w hp
theorem rfeed_any (Ab Ah A : Option Addr) (nb cb ch n c : Nat) (base hs b : List UInt8) (o f : Nat) (w : World) (hbase : BS w w.heap.size Ab nb base) (hcb : nb ≤ cb) (hnb : nb ≤ 4096) (ho : o ≤ 4096) (hh : BS w w.heap.size Ah hs.length hs) (hch : hs.length ≤ ch) (hhs : hs.length ≤ 1000000) (hb : BS w w.heap.size A n b) (hn : n ≤ 1000000) :
    Calls Try.prog 23 #[.agg #[.slice Ab nb cb, .slice Ah hs.length ch, .int .i64 (o : Int), .int .i64 (f : Int)], .slice A n c] w (RFeedRet w Ab nb cb (Gr.feedP nb base hs o f b)) := by
  by_cases hf : f = 0
  · subst hf; exact rfeed_ok Ab Ah A nb cb ch n c base hs b o w hbase hcb hnb ho hh hhs hb hn
  · exact rfeed_bad Ab Ah A nb cb ch n c hs o f hf w hh hch base b
theorem PtS.off {w w' : World} {g d : Nat} {Ab : Option Addr} {nb cb : Nat} {base hs : List UInt8} {o f : Nat} {T : TypeId} {cs : Array Value} (h : PtS w g Ab nb cb base hs o f) (hk : Blk w d T cs) (hT : T ≠ 5) (hgd : g < d) (hg : w.grownBy w' (some d)) : PtS w' g Ab nb cb base hs o f := by
  obtain ⟨Ah, ch, h1, h2, h3, h4⟩ := h
  exact ⟨Ah, ch, h1.grown hg (by intro e; injection e; omega), h2.grown hg (Nat.le_of_lt h1.lt) (fun k hk => by injection hk; omega), h3.grown hg (Nat.zero_le _) hk hT, h4⟩
/-- what holds at the head of a round of PatchFeeds -/
def PfAt (w0 : World) (g d : Nat) (Ab : Option Addr) (nb cb : Nat) (base : List UInt8) (wr : World) : Prop :=
  ∃ hs o f A3 c3, PtS wr g Ab nb cb base hs o f ∧ hs.length < 140 ∧ o ≤ 4096 ∧ (f ≠ 0 → hs = []) ∧ Blk wr d 49 (ptC Ab nb cb A3 hs.length c3 o f) ∧ BS wr wr.heap.size A3 hs.length hs ∧ hs.length ≤ c3 ∧ Below w0.heap.size w0 wr
def tot (o : List (List UInt8)) : Nat := (o.map List.length).sum
theorem tot_snoc (o : List (List UInt8)) (k : Nat) (bs : List UInt8) (h : o[k]? = some bs) : tot (o.take (k + 1)) = tot (o.take k) + bs.length := by
  rw [List.take_add_one, h]; simp [tot]
theorem tot_le (o : List (List UInt8)) (B k : Nat) (h : ∀ bs ∈ o, bs.length ≤ B) : tot (o.take k) ≤ k * B := by
  induction k with
  | zero => simp [tot]
  | succ k ih =>
    rcases hx : o[k]? with _ | x
    · have : o.take (k + 1) = o.take k := by rw [List.take_add_one, hx]; simp
      rw [this, Nat.succ_mul]; omega
    · rw [tot_snoc o k x hx, Nat.succ_mul]
      have := h x (List.mem_of_getElem? hx)
      omega
theorem tot_mem {o : List (List UInt8)} {k : Nat} {bs : List UInt8} (h : o[k]? = some bs) : bs.length ≤ tot o := by
  unfold tot
  induction o generalizing k with
  | nil => simp at h
  | cons x o ih =>
    cases k with
    | zero => simp only [List.getElem?_cons_zero, Option.some.injEq] at h; subst h; simp
    | succ k => simp only [List.getElem?_cons_succ] at h; have := ih h; simp; omega
set_option maxRecDepth 100000 in
set_option maxHeartbeats 4000000 in
theorem patchFeeds_big (Ab A : Option Addr) (nb cb n c : Nat) (base : List UInt8) (l : List (List UInt8)) (w : World) (hb : BS w w.heap.size Ab nb base) (hcb : nb ≤ cb) (hmb : nb ≤ maxLen) (h : SS w 0 w.heap.size A n l) (hbd : ∀ bs ∈ l, bs.length ≤ 140737488355328) (hm : n ≤ maxLen) (hbig : ¬ (nb ≤ 5000 ∧ n ≤ 200 ∧ tot l ≤ 10000)) :
    Calls Try.prog 5 #[.slice Ab nb cb, .slice A n c] w (Yes w) := by
  unfold maxLen at hmb hm
  have hll := h.1
  by_cases hn : n ≤ 200
  · have htk := fun k => tot_le l 140737488355328 k hbd
    have HL := Lib.hid (And.intro hb (And.intro hbd (And.intro hll htk)))
    clear hb hbd hll htk
    go_enter Try.func5, Try.ntmps5
    go_wp2_with fail
    go_loop [5, 20] (fun o i => ∃ k : Nat, k ≤ n ∧ i = .int .i64 k ∧ o = .int .i64 ((tot (l.take k) : Nat) : Int)) (fun _ i => n - (intOf i).toNat)
    case atStart => exact ⟨0, Nat.zero_le _, rfl, rfl⟩
    case round =>
      obtain ⟨k, hk, rfl, rfl⟩ := hrel
      have hbk := HL.out.2.2.2 k
      replace hbk : tot (l.take k) ≤ 28147497671065600 := by omega
      by_cases hlt : k < n
      · obtain ⟨b, off, bs, A2, c2, rfl, _, hx, hcell, hc2, hbs0, _⟩ := h.at_ hlt
        have hsn := tot_snoc l k bs hx
        have hbl := HL.out.2.1 bs (List.mem_of_getElem? hx)
        generalize hT : tot (l.take k) = T at hsn hbk ⊢
        have HX := Lib.hid (And.intro hx (And.intro hsn hbs0))
        clear hx hsn hT hbs0
        go_wp2_with fail
        go_round
        case rel => exact ⟨k + 1, by omega, by go_num, by rw [HX.out.2.1]; go_num⟩
        case measure => simp [intOf]; omega
      · obtain rfl : k = n := by omega
        rw [List.take_of_length_le (by rw [HL.out.2.2.1]; omega)] at hbk ⊢
        generalize hT : tot l = T at hbk hbig ⊢
        have hor : (5000 : Int) < (nb : Int) ∨ (10000 : Int) < (T : Int) := by omega
        clear hT hbig
        rcases hor with h5 | h5
        · go_wp2_with fail
          refine (lives20 w).mono ?_
          rintro e w2 ⟨rfl, hb2⟩
          go_wp2_with fail
          go_ret
          exact ⟨rfl, hb2⟩
        · have hd2 : decide ((200 : Int) < (k : Int)) = false := by simp; omega
          go_wp2_with fail
          all_goals
            refine (lives20 w).mono ?_
            rintro e w2 ⟨rfl, hb2⟩
            go_wp2_with fail
            go_ret
            exact ⟨rfl, hb2⟩
  · have HL := Lib.hid (And.intro hb (And.intro hbd hll))
    clear hb hbd hll hbig
    go_enter Try.func5, Try.ntmps5
    go_wp2_with fail
    go_loop [5, 20] (fun o i => ∃ (k : Nat) (z : Int), k ≤ n ∧ i = .int .i64 k ∧ o = .int .i64 z) (fun _ i => n - (intOf i).toNat)
    case atStart => exact ⟨0, 0, Nat.zero_le _, rfl, rfl⟩
    case round =>
      obtain ⟨k, z, hk, rfl, rfl⟩ := hrel
      by_cases hlt : k < n
      · obtain ⟨b, off, bs, A2, c2, rfl, _, hx, hcell, hc2, hbs0, _⟩ := h.at_ hlt
        have HX := Lib.hid (And.intro hx hbs0)
        clear hx hbs0
        go_wp2_with fail
        go_round
        case rel => exact ⟨k + 1, _, by omega, by go_num, rfl⟩
        case measure => simp [intOf]; omega
      · obtain rfl : k = n := by omega
        have h5 : (200 : Int) < (k : Int) := by omega
        go_wp2_with fail
        all_goals
          refine (lives20 w).mono ?_
          rintro e w2 ⟨rfl, hb2⟩
          go_wp2_with fail
          go_ret
          exact ⟨rfl, hb2⟩
set_option maxRecDepth 100000 in
set_option maxHeartbeats 8000000 in
theorem patchFeeds_small (Ab A : Option Addr) (nb cb n c : Nat) (base : List UInt8) (l : List (List UInt8)) (w : World) (hb : BS w w.heap.size Ab nb base) (hcb : nb ≤ cb) (h : SS w 0 w.heap.size A n l) (hn : n ≤ 200) (hT : tot l ≤ 10000) (hnb : nb ≤ 5000) :
    Calls Try.prog 5 #[.slice Ab nb cb, .slice A n c] w (Yes w) := by
  obtain ⟨hzQ, _⟩ := Go.zero_of_info zeroQ
  have hll := h.1
  have htk : ∀ k, tot (l.take k) ≤ 10000 := fun k => by
    refine Nat.le_trans ?_ hT
    unfold tot
    have : (l.map List.length).sum = ((l.take k).map List.length).sum + ((l.drop k).map List.length).sum := by rw [← List.sum_append, ← List.map_append, List.take_append_drop]
    omega
  have HL := Lib.hid (And.intro hb (And.intro hll (And.intro htk hT)))
  clear hb hll htk hT
  go_enter Try.func5, Try.ntmps5
  go_wp2_with fail
  go_loop [5, 20] (fun o i => ∃ k : Nat, k ≤ n ∧ i = .int .i64 k ∧ o = .int .i64 ((tot (l.take k) : Nat) : Int)) (fun _ i => n - (intOf i).toNat)
  case atStart => exact ⟨0, Nat.zero_le _, rfl, rfl⟩
  case round =>
    obtain ⟨k, hk, rfl, rfl⟩ := hrel
    have hbk := HL.out.2.2.1 k
    by_cases hlt : k < n
    · obtain ⟨b, off, bs, A2, c2, rfl, _, hx, hcell, hc2, hbs0, _⟩ := h.at_ hlt
      have hsn := tot_snoc l k bs hx
      have hbl := tot_mem hx
      have hbl2 := HL.out.2.2.2
      replace hbl : bs.length ≤ 10000 := by omega
      generalize hT : tot (l.take k) = T at hsn hbk ⊢
      have HX := Lib.hid (And.intro hx (And.intro hsn hbs0))
      clear hx hsn hT hbs0 hbl2
      go_wp2_with fail
      go_round
      case rel => exact ⟨k + 1, by omega, by go_num, by rw [HX.out.2.1]; go_num⟩
      case measure => simp [intOf]; omega
    · obtain rfl : k = n := by omega
      rw [List.take_of_length_le (by rw [HL.out.2.1]; omega)] at hbk ⊢
      generalize hT : tot l = T at hbk ⊢
      have HT := Lib.hid hT
      clear hT
      have g1 : ¬ (5000 : Int) < (nb : Int) := by omega
      have g2 : ¬ (200 : Int) < (k : Int) := by omega
      have g3 : ¬ (10000 : Int) < (T : Int) := by omega
      by_cases hn4 : nb ≤ 4096
      · go_wp2_with fail
        refine (new_any Ab nb cb w hn4).mono ?_
        rintro e w1 ⟨rfl, hw1⟩
        have hb1 : Below w.heap.size w w1 := by rw [hw1]; exact (Below.refl _ _).alloc (Nat.le_refl _) _
        have hz1 : w.heap.size < w1.heap.size := by rw [hw1]; simp
        have hp1 : PtS w1 w.heap.size Ab nb cb base [] 0 0 := by
          rw [hw1]
          exact ⟨none, 0, Blk.new _ _ _, HL.out.1.below (hw1 ▸ hb1), Dat.nil _ _ _, Nat.le_refl _⟩
        clear hw1
        obtain ⟨g, hg⟩ : ∃ g, g = w.heap.size := ⟨_, rfl⟩
        rw [← hg] at hp1 ⊢
        have hgw : w.heap.size ≤ g := by omega
        have hgz : g < w1.heap.size := by omega
        clear hg
        have hal1 := fun o => (Below.refl w1.heap.size w1).alloc (Nat.le_refl _) o
        have hP : PfAt w g w1.heap.size Ab nb cb base (w1.alloc (.cells #[.slice Ab nb cb, .slice none 0 0, .int .i64 0, .int .i64 0] 49)) :=
          ⟨[], 0, 0, none, 0, hp1.below (hal1 _), by decide, by omega, fun h => absurd rfl h, Blk.new _ _ _, BS.nil _ _ _, Nat.le_refl _, hb1.trans ((hal1 _).mono hb1.size)⟩
        have HP := Lib.hid hP
        clear hP hp1 hal1
        go_wp2_with fail
        obtain ⟨d, hd⟩ : ∃ d, d = w1.heap.size := ⟨_, rfl⟩
        rw [← hd]
        have hgd : g < d := by omega
        have hwd : w.heap.size ≤ d := by omega
        have HD := Lib.hid hd
        clear hd
        go_loopg [58] k (fun r i wr => ∃ j : Nat, r + j = k ∧ i = .int .i64 j ∧ PfAt w g d Ab nb cb base wr)
        case atStart => exact ⟨0, rfl, rfl, by rw [HD.out]; exact HP.out⟩
        case round =>
          obtain ⟨j, hgk, rfl, hs, o, f, A3, c3, hps, hh1, hh2, hh3, hdk, hdb, hdc, hbw⟩ := hrel
          have HGK := Lib.hid hgk
          obtain ⟨wo, rfl⟩ : ∃ wo : World, wo = wr := ⟨_, rfl⟩
          by_cases hlt : j < k
          · clear hgk
            obtain ⟨b, off, bs, A2, c2, rfl, _, hx, hcell, hc2, hbs0, _⟩ := (h.below hbw).at_ hlt
            have hbsw : BS w w.heap.size A2 bs.length bs := hbs0.keep fun p hp => (hbw.cell hp).symm
            have hbl := tot_mem hx
            have hTl := HT.out
            replace hbl : bs.length ≤ 10000 := by omega
            obtain ⟨⟨out, o', rest, f'⟩, hR⟩ : ∃ R, Gr.feedP nb base hs o f bs = R := ⟨_, rfl⟩
            obtain ⟨hr1, hr2, hr3⟩ := Gr.feedP_held (by omega) hh1 hh2 hh3 hR
            have hrf := rfeed_any Ab A3 A2 nb cb c3 bs.length c2 base hs bs o f wo ((HL.out.1.below hbw).more hbw.size) hcb hn4 hh2 hdb hdc (by omega) ((hbsw.below hbw).more hbw.size) (by omega)
            have hfd := fun w' hp' hb' => feed_any g Ab nb cb base hs o f A2 bs.length c2 bs w' hp' hcb hn4 hh2 hb' (by omega) (by omega)
            rw [hR] at hrf hfd
            have q0 := hdk.cell 0
            have q1 := hdk.cell 1
            have q2 := hdk.cell 2
            have q3 := hdk.cell 3
            simp [ptC] at q0 q1 q2 q3
            have HC := Lib.hid (And.intro hrf (And.intro hfd (And.intro hbsw (And.intro hps (And.intro hdk hbs0)))))
            clear hrf hfd hR hx hbs0 hbsw hps hdk hdb hTl
            go_wp2_with fail
            refine HC.out.1.mono ?_
            rintro e w2 ⟨Aw, cw, A4, c4, rfl, hwant, hrest, hrc, hb2⟩
            simp only at hwant hrest hrc ⊢
            have hrc' := hrc
            clear q0 q1 q2 q3
            have hbw2 := hbw.trans (hb2.mono hbw.size)
            have hal2 := fun o => (Below.refl w2.heap.size w2).alloc (Nat.le_refl _) o
            have hk2 := fun cs => Blk.new w2 49 cs
            have H2 := Lib.hid (And.intro hal2 (And.intro hk2 (And.intro hwant (And.intro hrest (And.intro hb2 hbw2)))))
            clear hal2 hk2 hwant hrest hb2 hbw2
            go_wp2_with fail
            obtain ⟨V, hV⟩ : ∃ V, V = Obj.cells #[.slice Ab nb cb, .slice A4 rest.length c4, .int .i64 (o' : Int), .int .i64 (f' : Int)] 49 := ⟨_, rfl⟩
            rw [← hV]
            have hb3 := H2.out.1 V
            have hv3 : Blk (w2.alloc V) w2.heap.size 49 (ptC Ab nb cb A4 rest.length c4 o' f') := by rw [hV]; exact H2.out.2.1 _
            have hbw3 := H2.out.2.2.2.2.2.trans (hb3.mono H2.out.2.2.2.2.2.size)
            have hp3 := (HC.out.2.2.2.1.below H2.out.2.2.2.2.1).below hb3
            have hd3 := (HC.out.2.2.2.2.1.stay H2.out.2.2.2.2.1).stay hb3
            have hwant3 := (H2.out.2.2.1.below hb3).more hb3.size
            have hrest3 := (H2.out.2.2.2.1.below hb3).more hb3.size
            have hbs3 := (HC.out.2.2.1.below hbw3).more hbw3.size
            generalize (w2.alloc V) = w3 at hv3 hbw3 hp3 hd3 hwant3 hrest3 hbs3 ⊢
            have hvd : d < w2.heap.size := by have := HC.out.2.2.2.2.1.lt; have := H2.out.2.2.2.2.1.size; omega
            generalize w2.heap.size = v at hv3 hvd ⊢
            have H3 := Lib.hid (And.intro hv3 (And.intro hbw3 (And.intro hd3 (And.intro hwant3 hrest3))))
            clear hv3 hbw3 hd3 hwant3 hrest3 hb3 hV
            refine (HC.out.2.1 w3 hp3 hbs3).mono ?_
            rintro e w4 ⟨Ag, cg, rfl, hgot, hp4, hg4⟩
            simp only at hgot hp4 ⊢
            have hgk3 := hp3
            obtain ⟨Ah, ch, hgk3, _, _, _⟩ := hgk3
            have hv4 := H3.out.1.grown hg4 (by intro e; injection e; omega)
            have hd4 := H3.out.2.2.1.grown hg4 (by intro e; injection e; omega)
            have hwant4 := (bs_off H3.out.2.2.2.1 hgk3 (ptC_no8 _ _ _ _ _ _ _ _) hg4 (Nat.le_refl _)).more hg4.size
            have hrest4 := (bs_off H3.out.2.2.2.2 hgk3 (ptC_no8 _ _ _ _ _ _ _ _) hg4 (Nat.le_refl _)).more hg4.size
            have hbw4 := below_only H3.out.2.1 H3.out.2.1.size hg4 (fun k hk => by injection hk; omega)
            have hgot4 := hgot.bs
            clear hp3 hbs3 hgk3 hg4 hgot
            have v0 := hv4.cell 0
            have v1 := hv4.cell 1
            have v2 := hv4.cell 2
            have v3 := hv4.cell 3
            have q0 := hd4.cell 0
            have q1 := hd4.cell 1
            have q2 := hd4.cell 2
            have q3 := hd4.cell 3
            have z0 := hd4.frozen 0
            have z1 := hd4.frozen 1
            have z2 := hd4.frozen 2
            have z3 := hd4.frozen 3
            simp [ptC] at v0 v1 v2 v3 q0 q1 q2 q3
            have H4 := Lib.hid (And.intro hp4 (And.intro hd4 (And.intro hwant4 (And.intro hrest4 (And.intro hbw4 hgot4)))))
            clear hv4 hd4 hwant4 hrest4 hbw4 hgot4 hp4
            have hE : ∃ E : Int, ((endP f' rest.length : Nat) : Int) = E ∧ ((((f' : Int) == 0) = true ∧ decide (0 < rest.length) = true ∧ E = 11) ∨ (((f' : Int) == 0) = true ∧ decide (0 < rest.length) = false ∧ E = (f' : Int)) ∨ (((f' : Int) == 0) = false ∧ E = (f' : Int))) := by
              refine ⟨_, rfl, ?_⟩
              unfold endP
              by_cases h0 : f' = 0
              · by_cases h1 : 0 < rest.length
                · left; simp [h0, h1]
                · right; left; simp [h0, h1]
              · right; right; simp [h0]
            obtain ⟨E, hE1, hE2⟩ := hE
            have HE := Lib.hid hE1
            clear hE1
            rcases hE2 with ⟨b1, b2, rfl⟩ | ⟨b1, b2, rfl⟩ | ⟨b1, rfl⟩
            all_goals
              have h140 : decide ((140 : Int) ≤ (rest.length : Int)) = false := by simp; omega
              go_wp2_with fail
              have hg5 : w4.grownBy ((((w4.setCell ⟨d, 0, none⟩ (.slice Ab nb cb)).setCell ⟨d, 1, none⟩ (.slice A4 rest.length c4)).setCell ⟨d, 2, none⟩ (.int .i64 (o' : Int))).setCell ⟨d, 3, none⟩ (.int .i64 (f' : Int))) (some d) := only_setCell (only_setCell (only_setCell (only_setCell (World.grownBy.refl _ _) (p := ⟨d, 0, none⟩) (.inl rfl) _) (p := ⟨d, 1, none⟩) (.inl rfl) _) (p := ⟨d, 2, none⟩) (.inl rfl) _) (p := ⟨d, 3, none⟩) (.inl rfl) _
              have hd5 := (((H4.out.2.1.set_ 0 (.slice Ab nb cb)).set_ 1 (.slice A4 rest.length c4)).set_ 2 (.int .i64 (o' : Int))).set_ 3 (.int .i64 (f' : Int))
              generalize ((((w4.setCell ⟨d, 0, none⟩ (.slice Ab nb cb)).setCell ⟨d, 1, none⟩ (.slice A4 rest.length c4)).setCell ⟨d, 2, none⟩ (.int .i64 (o' : Int))).setCell ⟨d, 3, none⟩ (.int .i64 (f' : Int))) = w5 at hg5 hd5 ⊢
              have hd6 : Blk w5 d 49 (ptC Ab nb cb A4 rest.length c4 o' f') := by simpa [ptC] using hd5
              have hp5 := H4.out.1.off H4.out.2.1 (by decide) hgd hg5
              have hwant5 := (bs_off H4.out.2.2.1 H4.out.2.1 (ptC_no8 _ _ _ _ _ _ _ _) hg5 (Nat.le_refl _)).more hg5.size
              have hrest5 := (bs_off H4.out.2.2.2.1 H4.out.2.1 (ptC_no8 _ _ _ _ _ _ _ _) hg5 (Nat.le_refl _)).more hg5.size
              have hgot5 := (bs_off H4.out.2.2.2.2.2 H4.out.2.1 (ptC_no8 _ _ _ _ _ _ _ _) hg5 (Nat.le_refl _)).more hg5.size
              have hbw5 := below_only H4.out.2.2.2.2.1 H4.out.2.2.2.2.1.size hg5 (fun k hk => by injection hk; omega)
              have hpp := hp5
              obtain ⟨Ah5, ch5, hgk5, _, _, _⟩ := hpp
              have H5 := Lib.hid (And.intro hd6 (And.intro hp5 (And.intro hwant5 (And.intro hrest5 (And.intro hgot5 (And.intro hbw5 hgk5))))))
              clear hg5 hd5 hd6 hp5 hwant5 hrest5 hgot5 hbw5 hgk5 v0 v1 v2 v3 q0 q1 q2 q3 z0 z1 z2 z3
              have e4 : (out == out) = true := by simp
              have e5 : ((f' : Int) != (f' : Int)) = false := by simp
              have e6 : ((o' : Int) != (o' : Int)) = false := by simp
              have e7 : ((rest.length : Int) != (rest.length : Int)) = false := by simp
              have hEnd := fun (w' : World) (h : Blk w' g 79 (ptC Ab nb cb Ah5 rest.length ch5 o' f')) => end_any h
              simp only [HE.out] at hEnd
              have HEnd := Lib.hid hEnd
              clear hEnd
              refine wp_region_class (C := fun w' => Drawn w5 w') (by kernel_rfl) (by kernel_rfl) (Drawn.one _) ?_
              repeat
                (refine wpQuiet_step (fun K hK => ?_)
                 rw [if_pos (by rfl)]
                 apply Exists.intro
                 refine ⟨fun w' hw' => ?_, hK _ ?_⟩
                 · have a1 := (hw'.cell _).trans (H5.out.1.cell 1)
                   have a2 := (hw'.cell _).trans (H5.out.1.cell 2)
                   have bg : Blk w' g 79 (ptC Ab nb cb Ah5 rest.length ch5 o' f') := by obtain ⟨q, rfl⟩ := hw'; exact H5.out.2.2.2.2.2.2.drewN q
                   have HG := Lib.hid bg
                   clear bg
                   simp [ptC] at a1 a2
                   go_simp
                   first
                     | done
                     | rfl
                     | (with_reducible refine (same_any Ag out.length cg out Aw out.length cw out w' w5.heap.size w5.heap.size (hw'.bs H5.out.2.2.2.2.1) (hw'.bs H5.out.2.2.1)).mono ?_
                        rintro e w1 ⟨rfl, rfl⟩
                        exact ⟨by rw [e4], hw'⟩)
                     | (with_reducible refine (fault_any HG.out).mono ?_
                        rintro e w1 ⟨rfl, hd1⟩
                        exact ⟨rfl, hw'.trans hd1⟩)
                     | (with_reducible refine (HEnd.out w' HG.out).mono ?_
                        rintro e w1 ⟨rfl, hd1⟩
                        exact ⟨rfl, hw'.trans hd1⟩)
                     | (with_reducible refine (out_any HG.out).mono ?_
                        rintro e w1 ⟨rfl, hd1⟩
                        exact ⟨rfl, hw'.trans hd1⟩)
                     | (with_reducible refine (held_any HG.out).mono ?_
                        rintro e w1 ⟨rfl, hd1⟩
                        exact ⟨rfl, hw'.trans hd1⟩)
                 clear hK K
                 go_simp)
              refine wpQuiet_nil ?_
              intro w6 hw6
              go_wp2_with fail
              go_roundg (gk - 1)
              case measure => have := HGK.out; omega
              case rel =>
                refine ⟨j + 1, by have := HGK.out; omega, by go_num, rest, o', f', A4, c4, ?_, hr1, hr2, hr3, ?_, ?_, hrc', H5.out.2.2.2.2.2.1.trans (hw6.below _)⟩
                · exact H5.out.2.1.below (hw6.below _)
                · obtain ⟨q, rfl⟩ := hw6; exact H5.out.1.drewN q
                · exact (hw6.bs H5.out.2.2.2.1).more ((hw6.below w5.heap.size).size)
          · obtain rfl : j = k := by omega
            go_wp2_with fail
            refine (lives20 wo).mono ?_
            rintro e w2 ⟨rfl, hb2⟩
            go_wp2_with fail
            go_ret
            exact ⟨rfl, hbw.trans (hb2.mono hbw.size)⟩
      · go_wp2_with fail
        refine (new_long Ab nb cb w (by omega)).mono ?_
        rintro e w1 ⟨rfl, rfl⟩
        go_wp2_with fail
        refine (lives20 _).mono ?_
        rintro e w2 ⟨rfl, hb2⟩
        go_wp2_with fail
        go_ret
        exact ⟨rfl, hb2⟩
end Go.Proofs.Ytmnanbcinfdbaaa
