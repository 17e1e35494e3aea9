/- The walk of msg.Write; conditions: none beyond its hypotheses. -/
import Derived.Test.YthhhiiagppckhaaGreatDoorMgMs12a
set_option linter.unusedSimpArgs false
set_option linter.unusedVariables false
section
namespace Go.Proofs.YthhhiiagppckhaaGreatDoor
open Go.RowKit Go.Proofs.U
set_option linter.unusedVariables false

set_option maxRecDepth 100000 in
set_option maxHeartbeats 8000000 in
theorem mwrite_any (B0 : Nat) (m : Ms.Msg) (v : Value) (w : World) (h : MsgV w B0 m v) (hr : m.rows.length ≤ 1000000000) (hwf : Ms.Wf m) :
    Calls Tryz.prog 26 #[v] w (WriteRet w m) := by
  have hv := h
  obtain ⟨A, c, A2, c2, rfl, ha1, ha2, ha3, ha4⟩ := h
  have hw1 : ∃ w1, w1 = (w.alloc (.cells (mCells m A c A2 c2) 27)) := ⟨_, rfl⟩
  have hk1 : Blk (w.alloc (.cells (mCells m A c A2 c2) 27)) w.heap.size 27 (mCells m A c A2 c2) := Blk.new w _ _
  have hb1 := alloc_b w (.cells (mCells m A c A2 c2) 27)
  have hck := mcheck_any B0 m _ _ (hv.below hb1) hr
  have HWF := Lib.hid hwf
  obtain ⟨X, hX⟩ : ∃ X, X = wrM m := ⟨_, rfl⟩
  obtain ⟨CK, hCK⟩ : ∃ CK, CK = Ms.check m := ⟨_, rfl⟩
  unfold WriteRet
  rw [← hX, ← hCK]
  rw [← hCK] at hck
  have HX := Lib.hid (And.intro hX hCK)
  clear hX hwf
  simp only [mCells] at hw1 hb1 hck ⊢
  by_cases h0 : CK = 0
  · subst h0
    obtain ⟨k, hkk, hk16, hbd, hln⟩ := check_ok hCK.symm
    have hkd := fun w' => mkind_in k hk16 w'
    rw [← hkk] at hkd
    have HKK := Lib.hid (And.intro hkk (And.intro hbd hln))
    clear hkk hbd hln hCK
    go_enter Tryz.func26, Tryz.ntmps26
    go_wp2_with fail
    simp only [mCells] at hk1
    obtain ⟨w1, hw1⟩ := hw1
    rw [← hw1] at hk1 hb1 hck ⊢
    clear hw1
    refine hck.mono ?_
    rintro e w2 ⟨rfl, hb2⟩
    have hk2 := hk1.stay hb2
    have hbw2 := hb1.trans (hb2.mono hb1.size)
    have x0 := hk2.cell 0
    simp only [List.getElem?_toArray, List.getElem?_cons_zero] at x0
    clear hb2 hk1 hb1 hck
    go_wp2_with fail
    refine (hkd _).mono ?_
    rintro e w3 ⟨rfl, hb3⟩
    rw [hasN_ne k hk16]
    have hk3 := hk2.stay hb3
    have hbw3 := hbw2.trans (hb3.mono hbw2.size)
    obtain ⟨P, hP⟩ : ∃ P, P = Ms.hasN (k + 1) := ⟨_, rfl⟩
    obtain ⟨NM, hNM⟩ : ∃ NM, NM = nameN (k + 1) := ⟨_, rfl⟩
    have hPl : P.length ≤ 10 := by rw [hP]; exact hasN_short _
    rw [← hP, ← hNM]
    have HP := Lib.hid hP
    clear hNM hP hkd hk2 hbw2 x0 hb3
    have hal1 := alloc_b w3 (.cells #[.string (strOf NM), .string (strOf P)] 86)
    have hal2 := alloc_b (w3.alloc (.cells #[.string (strOf NM), .string (strOf P)] 86)) (.cells #[.slice none 0 0] 101)
    have hal3 := alloc_b ((w3.alloc (.cells #[.string (strOf NM), .string (strOf P)] 86)).alloc (.cells #[.slice none 0 0] 101)) (.cells #[.int .u64 ((k : Int) + 1)] 22)
    have hal := (hal1.trans (hal2.mono hal1.size)).trans (hal3.mono (Nat.le_trans hal1.size hal2.size))
    have hk4 := hk3.stay hal
    have x0 := hk4.cell 0
    have x0' := (hk3.stay (hal1.trans (hal2.mono hal1.size))).cell 0
    simp only [List.getElem?_toArray, List.getElem?_cons_zero] at x0 x0'
    rw [HKK.out.1] at x0 x0'
    have i1 : (k : Int) + 1 ≤ 16 := by omega
    have hpen4 : PenW (((w3.alloc (.cells #[.string (strOf NM), .string (strOf P)] 86)).alloc (.cells #[.slice none 0 0] 101)).alloc (.cells #[.int .u64 ((k : Int) + 1)] 22)) (w3.heap.size + 1) w.heap.size [] :=
      ⟨none, 0, (blk_second w3 _ _ _).alloc _, World.ownsRow_nil _ _ _ _, by have := hbw3.size; omega⟩
    have hq4 : Blk (((w3.alloc (.cells #[.string (strOf NM), .string (strOf P)] 86)).alloc (.cells #[.slice none 0 0] 101)).alloc (.cells #[.int .u64 ((k : Int) + 1)] 22)) (w3.heap.size + 1 + 1) 22 ([k + 1].map u64v).toArray := by
      have := blk_second (w3.alloc (.cells #[.string (strOf NM), .string (strOf P)] 86)) (.cells #[.slice none 0 0] 101) 22 #[.int .u64 ((k : Int) + 1)]
      rw [World.size_alloc] at this
      exact this
    have hp4 : Blk (((w3.alloc (.cells #[.string (strOf NM), .string (strOf P)] 86)).alloc (.cells #[.slice none 0 0] 101)).alloc (.cells #[.int .u64 ((k : Int) + 1)] 22)) w3.heap.size 86 #[.string (strOf NM), .string (strOf P)] := ((Blk.new w3 _ _).alloc _).alloc _
    have hbw4 := hbw3.trans (hal.mono hbw3.size)
    have hz4 : (((w3.alloc (.cells #[.string (strOf NM), .string (strOf P)] 86)).alloc (.cells #[.slice none 0 0] 101)).alloc (.cells #[.int .u64 ((k : Int) + 1)] 22)).heap.size = w3.heap.size + 3 := by simp
    have hz3 := hbw3.size
    clear x0 x0' hal1 hal2 hal3 hal
    have hk16' := hk16
    have x0 := hk4.cell 0
    simp only [List.getElem?_toArray, List.getElem?_cons_zero] at x0
    rw [HKK.out.1] at x0
    have x0' := (((hk3.alloc (.cells #[.string (strOf NM), .string (strOf P)] 86)).alloc (.cells #[.slice none 0 0] 101))).cell 0
    simp only [List.getElem?_toArray, List.getElem?_cons_zero] at x0'
    rw [HKK.out.1] at x0'
    go_wp2_with fail
    generalize (((w3.alloc (.cells #[.string (strOf NM), .string (strOf P)] 86)).alloc (.cells #[.slice none 0 0] 101)).alloc (.cells #[.int .u64 ((k : Int) + 1)] 22)) = w4 at hk4 hpen4 hq4 hp4 hbw4 hz4 x0 ⊢
    clear x0 x0' hk3 hbw3
    refine (pnums_any (w3.heap.size + 1) w.heap.size ((w3.heap.size + 1) + 1) [] [k + 1] (by simp; omega) 1 rfl (by omega) w4 hpen4 (by simp) (by omega) hq4).mono ?_
    rintro e w5 ⟨rfl, hpen5, hp5⟩
    have hk5 := hp5.blk hk4 (by omega) (by decide)
    have hr5 := hp5.blk hp4 (by omega) (by decide)
    have hbw5 := hp5.below hbw4 (by omega) (by omega)
    have hz5 := hp5.size
    have y1 := hr5.cell 1
    simp only [List.getElem?_toArray, List.getElem?_cons_succ, List.getElem?_cons_zero] at y1
    have hpen5' : PenW w5 (w3.heap.size + 1) w.heap.size (Gr.numB (k + 1)) := by simpa [numsB] using hpen5
    clear hpen4 hq4 hp4 hk4 hp5 hbw4 hpen5
    go_wp2_with fail
    obtain ⟨gp, hgp⟩ : ∃ gp, gp = w3.heap.size + 1 := ⟨_, rfl⟩
    rw [← hgp] at hpen5' ⊢
    obtain ⟨it, hit⟩ : ∃ it, it = w5.heap.size := ⟨_, rfl⟩
    have hi0 : (w5.iter (strOf P) 0).heap[it]? = some (.stringIter (strOf P) 0) := by rw [hit]; exact World.iter_heap w5 (strOf P) 0
    have hal := alloc_b w5 (.stringIter (strOf P) 0)
    have hws : WS w (w5.iter (strOf P) 0) gp it (mCells m A c A2 c2) P 0 (Gr.numB (k + 1) ++ (P.take 0).flatMap fun c => Ms.part c m) :=
      ⟨hk5.stay hal, by rw [List.take_zero, List.flatMap_nil, List.append_nil]; exact hpen5'.below hal, hi0, hbw5.trans (hal.mono hbw5.size), by omega, by omega⟩
    rw [← hit]
    generalize w5.iter (strOf P) 0 = w6 at hws ⊢
    clear hi0 hal hpen5' y1 hr5 hk5 hbw5 hz5 hz4 hz3 hit hgp
    go_loopg [9] P.length (fun r _ wr => ∃ pos : Nat, r + pos = P.length ∧ WS w wr gp it (mCells m A c A2 c2) P pos (Gr.numB (k + 1) ++ (P.take pos).flatMap fun c => Ms.part c m))
    case atStart => exact ⟨0, by omega, hws⟩
    case round =>
      clear hws
      obtain ⟨pos, hpos, hws⟩ := hrel
      obtain ⟨wo, rfl⟩ : ∃ wo : World, wo = wr := ⟨_, rfl⟩
      by_cases hk0 : gk = 0
      · subst hk0
        have hnx : ∀ ty, (Instr.next (.pointer (some ⟨it, 0, none⟩)) true ty).run Tryz.prog wo = _ := fun ty => Lib.run_next_end_at wo it (strOf P) pos ty hws.iter (by rw [str_size]; omega)
        have hXe : X = Gr.numB (k + 1) ++ (P.take pos).flatMap fun c => Ms.part c m := by
          rw [HX.out.1, wrM, if_pos HX.out.2.symm, List.take_of_length_le (by omega), HP.out]
          unfold Ms.enc Ms.has
          rw [HKK.out.1]; rfl
        have hpn := hws.pen
        rw [← hXe] at hpn
        have hXl : X.length ≤ 140737488355328 := by
          have h1 := (Gr.numB_len (k + 1)).1
          have h2 := parts_len (P.take pos) m (fun c hc => by
            have hc' : c ∈ Ms.hasN (k + 1) := by rw [← HP.out]; exact List.mem_of_mem_take hc
            exact part_len c ((Ms.hasN_alpha _).1 c hc') m (HKK.out.2.1 c hc') (HKK.out.2.2 c hc'))
          have h3 : (P.take pos).length ≤ 10 := by rw [List.length_take]; omega
          rw [hXe, List.length_append]; omega
        have HXe := Lib.hid hXe
        clear hXe
        go_wp2_with fail
        refine (pbytes_any gp w.heap.size X wo hpn hXl).mono ?_
        rintro e w7 ⟨A7, c7, rfl, hown7, hb7⟩
        go_wp2_with fail
        go_ret2
        have hz := hws.bel.size
        exact ⟨A7, c7, rfl, World.ownsRow.mono hown7 hz, hws.bel.trans (hb7.mono hz)⟩
      · obtain ⟨cc, hcc⟩ : ∃ cc, P[pos]? = some cc := ⟨_, List.getElem?_eq_getElem (by omega)⟩
        have hcm : cc ∈ Ms.hasN (k + 1) := by rw [← HP.out]; exact List.mem_of_getElem? hcc
        have hca := (Ms.hasN_alpha (k + 1)).1 cc hcm
        have hbc := HKK.out.2.1 cc hcm
        have hlc := HKK.out.2.2 cc hcm
        have hnx := fun ty => next_letter (P := Tryz.prog) wo it P pos ty cc hws.iter hcc (alpha_ascii cc hca)
        have hw1 := hws.next
        generalize wo.iterAt it (strOf P) (pos + 1) = w1 at hnx hw1
        have hfl := flat_take (f := fun c => Ms.part c m) hcc
        have hbl : (Gr.numB (k + 1) ++ (P.take pos).flatMap fun c => Ms.part c m).length ≤ 30000 := by
          have h1 := (Gr.numB_len (k + 1)).1
          have h2 := parts_len (P.take pos) m (fun c hc => by
            have hc' : c ∈ Ms.hasN (k + 1) := by rw [← HP.out]; exact List.mem_of_mem_take hc
            exact part_len c ((Ms.hasN_alpha _).1 c hc') m (HKK.out.2.1 c hc') (HKK.out.2.2 c hc'))
          have h3 : (P.take pos).length ≤ 10 := by rw [List.length_take]; omega
          rw [List.length_append]; omega
        obtain ⟨bs, hbs⟩ : ∃ bs, bs = Gr.numB (k + 1) ++ (P.take pos).flatMap fun c => Ms.part c m := ⟨_, rfl⟩
        have hnew : Gr.numB (k + 1) ++ ((P.take (pos + 1)).flatMap fun c => Ms.part c m) = bs ++ Ms.part cc m := by rw [hfl, hbs, List.append_assoc]
        rw [← hbs] at hw1 hbl
        have HN := Lib.hid hnew
        have HBL := Lib.hid (And.intro hbc hlc)
        have hzb := hw1.bel.size
        have hgo1 := hw1.o1
        have hgo2 := hw1.o2
        have hgl := hw1.pen.lt
        clear hnew hfl hws hcc hcm hbc hlc hbs
        simp only [Ms.alpha, List.mem_cons, List.not_mem_nil, or_false] at hca
        rcases hca with rfl | rfl | rfl | rfl | rfl | rfl | rfl | rfl | rfl | rfl | rfl | rfl | rfl | rfl | rfl
        · have hnum : ∀ w', Blk w' w.heap.size 27 (mCells m A c A2 c2) → Calls Tryz.prog 47 #[.pointer (some ⟨w.heap.size, 0, none⟩), .int .i32 112] w' (fun e w2 => e = .returned (.tuple #[.pointer (some ⟨w.heap.size, 3, none⟩), .int .i64 255, .bool true]) ∧ w2 = w') := fun w' h => mnum_any w.heap.size 112 (by decide) _ rfl w' h
          have hbig : ∀ w', Blk w' w.heap.size 27 (mCells m A c A2 c2) → Calls Tryz.prog 48 #[.pointer (some ⟨w.heap.size, 0, none⟩), .int .i32 112] w' (fun e w2 => e = .returned (.pointer none) ∧ w2 = w') := fun w' h => mbig_any w.heap.size 112 (by decide) _ rfl w' h
          have hnx1 := hnx
          simp only [UInt8.toNat_ofNat, Nat.reducePow, Nat.reduceMod] at hnx1
          clear hnx
          have hin : 0 ≤ m.proto ∧ m.proto ≤ 255 := of_decide_eq_true HBL.out.1
          obtain ⟨p, hp⟩ : ∃ p : Nat, m.proto = (p : Int) := ⟨m.proto.toNat, by omega⟩
          have hlt : p < 18446744073709551616 := by omega
          have hple : p ≤ 255 := by omega
          have HQ : Hid (Ms.part 112 m = Gr.numB p) := by
            have e : Ms.part 112 m = Gr.numB m.proto.toNat := rfl
            rw [hp] at e; exact Lib.hid e
          have x := hw1.msg.cell 3
          simp [mCells] at x
          rw [hp] at x
          have HPP := Lib.hid hp
          clear hp hin
          go_wp2_with (first
            | (go_at_call 47; refine (hnum _ (by first | exact h3.msg | exact hw1.msg)).mono ?_; rintro e wq ⟨rfl, hwq⟩; have hwq2 := hwq.symm; clear hwq; subst hwq2)
            | (go_at_call 48; refine (hbig _ (by first | exact h3.msg | exact hw1.msg)).mono ?_; rintro e wq ⟨rfl, hwq⟩; have hwq2 := hwq.symm; clear hwq; subst hwq2)
            | (go_at_call 46
               have hal := alloc_b w1 (.cells #[.int .u64 (p : Int)] 22)
               refine (pnums_any gp w.heap.size w1.heap.size bs [p] (by simpa using hlt) 1 rfl (by omega) _ (hw1.below hal).pen (by omega) (Nat.le_trans hw1.bel.size hal.size) (Blk.new _ _ _)).mono ?_
               rintro e w3 ⟨rfl, hpen3, hp3⟩
               have h3 := (hw1.below hal).step hp3 hpen3))
          replace h3 : WS w w3 gp it (mCells m A c A2 c2) P (pos + 1) (bs ++ Gr.numB p) := by simpa [numsB] using h3
          go_roundg (gk - 1)
          case measure => omega
          case rel => exact ⟨pos + 1, by omega, by rw [HN.out, HQ.out]; exact h3⟩
        · have hnum : ∀ w', Blk w' w.heap.size 27 (mCells m A c A2 c2) → Calls Tryz.prog 47 #[.pointer (some ⟨w.heap.size, 0, none⟩), .int .i32 115] w' (fun e w2 => e = .returned (.tuple #[.pointer none, .int .i64 0, .bool false]) ∧ w2 = w') := fun w' h => mnum_any w.heap.size 115 (by decide) _ rfl w' h
          have hbig : ∀ w', Blk w' w.heap.size 27 (mCells m A c A2 c2) → Calls Tryz.prog 48 #[.pointer (some ⟨w.heap.size, 0, none⟩), .int .i32 115] w' (fun e w2 => e = .returned (.pointer (some ⟨w.heap.size, 1, none⟩)) ∧ w2 = w') := fun w' h => mbig_any w.heap.size 115 (by decide) _ rfl w' h
          have hnx1 := hnx
          simp only [UInt8.toNat_ofNat, Nat.reducePow, Nat.reduceMod] at hnx1
          clear hnx
          have hlt := HWF.out.session
          have HQ : Hid (Ms.part 115 m = Gr.numB m.session) := Lib.hid rfl
          obtain ⟨p, hp⟩ : ∃ p, p = m.session := ⟨_, rfl⟩
          rw [← hp] at hlt HQ
          have x := hw1.msg.cell 1
          simp [mCells] at x
          rw [← hp] at x
          have HPP := Lib.hid hp
          clear hp
          go_wp2_with (first
            | (go_at_call 47; refine (hnum _ (by first | exact h3.msg | exact hw1.msg)).mono ?_; rintro e wq ⟨rfl, hwq⟩; have hwq2 := hwq.symm; clear hwq; subst hwq2)
            | (go_at_call 48; refine (hbig _ (by first | exact h3.msg | exact hw1.msg)).mono ?_; rintro e wq ⟨rfl, hwq⟩; have hwq2 := hwq.symm; clear hwq; subst hwq2)
            | (go_at_call 46
               have hal := alloc_b w1 (.cells #[.int .u64 (p : Int)] 22)
               refine (pnums_any gp w.heap.size w1.heap.size bs [p] (by simpa using hlt) 1 rfl (by omega) _ (hw1.below hal).pen (by omega) (Nat.le_trans hw1.bel.size hal.size) (Blk.new _ _ _)).mono ?_
               rintro e w3 ⟨rfl, hpen3, hp3⟩
               have h3 := (hw1.below hal).step hp3 hpen3))
          replace h3 : WS w w3 gp it (mCells m A c A2 c2) P (pos + 1) (bs ++ Gr.numB p) := by simpa [numsB] using h3
          go_roundg (gk - 1)
          case measure => omega
          case rel => exact ⟨pos + 1, by omega, by rw [HN.out, HQ.out]; exact h3⟩
        · have hnum : ∀ w', Blk w' w.heap.size 27 (mCells m A c A2 c2) → Calls Tryz.prog 47 #[.pointer (some ⟨w.heap.size, 0, none⟩), .int .i32 110] w' (fun e w2 => e = .returned (.tuple #[.pointer none, .int .i64 0, .bool false]) ∧ w2 = w') := fun w' h => mnum_any w.heap.size 110 (by decide) _ rfl w' h
          have hbig : ∀ w', Blk w' w.heap.size 27 (mCells m A c A2 c2) → Calls Tryz.prog 48 #[.pointer (some ⟨w.heap.size, 0, none⟩), .int .i32 110] w' (fun e w2 => e = .returned (.pointer (some ⟨w.heap.size, 2, none⟩)) ∧ w2 = w') := fun w' h => mbig_any w.heap.size 110 (by decide) _ rfl w' h
          have hnx1 := hnx
          simp only [UInt8.toNat_ofNat, Nat.reducePow, Nat.reduceMod] at hnx1
          clear hnx
          have hlt := HWF.out.n
          have HQ : Hid (Ms.part 110 m = Gr.numB m.n) := Lib.hid rfl
          obtain ⟨p, hp⟩ : ∃ p, p = m.n := ⟨_, rfl⟩
          rw [← hp] at hlt HQ
          have x := hw1.msg.cell 2
          simp [mCells] at x
          rw [← hp] at x
          have HPP := Lib.hid hp
          clear hp
          go_wp2_with (first
            | (go_at_call 47; refine (hnum _ (by first | exact h3.msg | exact hw1.msg)).mono ?_; rintro e wq ⟨rfl, hwq⟩; have hwq2 := hwq.symm; clear hwq; subst hwq2)
            | (go_at_call 48; refine (hbig _ (by first | exact h3.msg | exact hw1.msg)).mono ?_; rintro e wq ⟨rfl, hwq⟩; have hwq2 := hwq.symm; clear hwq; subst hwq2)
            | (go_at_call 46
               have hal := alloc_b w1 (.cells #[.int .u64 (p : Int)] 22)
               refine (pnums_any gp w.heap.size w1.heap.size bs [p] (by simpa using hlt) 1 rfl (by omega) _ (hw1.below hal).pen (by omega) (Nat.le_trans hw1.bel.size hal.size) (Blk.new _ _ _)).mono ?_
               rintro e w3 ⟨rfl, hpen3, hp3⟩
               have h3 := (hw1.below hal).step hp3 hpen3))
          replace h3 : WS w w3 gp it (mCells m A c A2 c2) P (pos + 1) (bs ++ Gr.numB p) := by simpa [numsB] using h3
          go_roundg (gk - 1)
          case measure => omega
          case rel => exact ⟨pos + 1, by omega, by rw [HN.out, HQ.out]; exact h3⟩
        · have hnum : ∀ w', Blk w' w.heap.size 27 (mCells m A c A2 c2) → Calls Tryz.prog 47 #[.pointer (some ⟨w.heap.size, 0, none⟩), .int .i32 102] w' (fun e w2 => e = .returned (.tuple #[.pointer none, .int .i64 0, .bool false]) ∧ w2 = w') := fun w' h => mnum_any w.heap.size 102 (by decide) _ rfl w' h
          have hbig : ∀ w', Blk w' w.heap.size 27 (mCells m A c A2 c2) → Calls Tryz.prog 48 #[.pointer (some ⟨w.heap.size, 0, none⟩), .int .i32 102] w' (fun e w2 => e = .returned (.pointer none) ∧ w2 = w') := fun w' h => mbig_any w.heap.size 102 (by decide) _ rfl w' h
          have hnx1 := hnx
          simp only [UInt8.toNat_ofNat, Nat.reducePow, Nat.reduceMod] at hnx1
          clear hnx
          have HQ : Hid (Ms.part 102 m = Gr.numB (if m.flag = true then 1 else 0)) := Lib.hid rfl
          have x := hw1.msg.cell 13
          simp [mCells] at x
          go_wp2_with (first
            | (go_at_call 47; refine (hnum _ (by first | exact h3.msg | exact hw1.msg)).mono ?_; rintro e wq ⟨rfl, hwq⟩; have hwq2 := hwq.symm; clear hwq; subst hwq2)
            | (go_at_call 48; refine (hbig _ (by first | exact h3.msg | exact hw1.msg)).mono ?_; rintro e wq ⟨rfl, hwq⟩; have hwq2 := hwq.symm; clear hwq; subst hwq2)
            | (go_at_call 49
               have hal := alloc_b w1 (.cells #[.bool m.flag] 4)
               refine (ptruth_any gp w.heap.size w1.heap.size bs m.flag _ (hw1.below hal).pen (by omega) (Nat.le_trans hw1.bel.size hal.size) (Blk.new _ _ _)).mono ?_
               rintro e w3 ⟨rfl, hpen3, hp3⟩
               have h3 := (hw1.below hal).step hp3 hpen3))
          go_roundg (gk - 1)
          case measure => omega
          case rel => exact ⟨pos + 1, by omega, by rw [HN.out, HQ.out]; exact h3⟩
        · have hnum : ∀ w', Blk w' w.heap.size 27 (mCells m A c A2 c2) → Calls Tryz.prog 47 #[.pointer (some ⟨w.heap.size, 0, none⟩), .int .i32 80] w' (fun e w2 => e = .returned (.tuple #[.pointer none, .int .i64 0, .bool false]) ∧ w2 = w') := fun w' h => mnum_any w.heap.size 80 (by decide) _ rfl w' h
          have hbig : ∀ w', Blk w' w.heap.size 27 (mCells m A c A2 c2) → Calls Tryz.prog 48 #[.pointer (some ⟨w.heap.size, 0, none⟩), .int .i32 80] w' (fun e w2 => e = .returned (.pointer none) ∧ w2 = w') := fun w' h => mbig_any w.heap.size 80 (by decide) _ rfl w' h
          have hnx1 := hnx
          simp only [UInt8.toNat_ofNat, Nat.reducePow, Nat.reduceMod] at hnx1
          clear hnx
          have HQ : Hid (Ms.part 80 m = Gr.numB m.path.length ++ m.path) := Lib.hid rfl
          have hle : m.path.length ≤ 96 := of_decide_eq_true HBL.out.2
          have x := hw1.msg.cell 4
          simp [mCells] at x
          obtain ⟨cb, wb, kc, hb, hbd, hbz⟩ := conv_str w1 m.path
          have hal := alloc_b wb (.cells #[.slice (some ⟨w1.heap.size, 0, none⟩) m.path.length cb] 24)
          have hbp := (hw1.pen.belowK hb).below hal
          have HT := Lib.hid (ptextk_any gp w.heap.size wb.heap.size w1.heap.size bs m.path (some ⟨w1.heap.size, 0, none⟩) cb (by omega) _ hbp (by omega) (by have := hal.size; omega) (Blk.new _ _ _) ((hbd.below hal).more hal.size) (fun a ha => .inr (by injection ha with ha; rw [← ha])) (by have := hal.size; omega))
          have h2 := (hw1.below hb).below hal
          have HH2 := Lib.hid h2
          clear hbp hbd h2 hle
          go_wp2_with (first
            | (go_at_call 47; refine (hnum _ (by first | exact h3.msg | exact hw1.msg)).mono ?_; rintro e wq ⟨rfl, hwq⟩; have hwq2 := hwq.symm; clear hwq; subst hwq2)
            | (go_at_call 48; refine (hbig _ (by first | exact h3.msg | exact hw1.msg)).mono ?_; rintro e wq ⟨rfl, hwq⟩; have hwq2 := hwq.symm; clear hwq; subst hwq2)
            | (go_at_call 50
               refine HT.out.mono ?_
               rintro e w3 ⟨rfl, hpen3, hp3⟩
               have h3 := HH2.out.step hp3.step hpen3.pen))
          go_roundg (gk - 1)
          case measure => omega
          case rel => exact ⟨pos + 1, by omega, by rw [HN.out, HQ.out]; exact h3⟩
        · have hnum : ∀ w', Blk w' w.heap.size 27 (mCells m A c A2 c2) → Calls Tryz.prog 47 #[.pointer (some ⟨w.heap.size, 0, none⟩), .int .i32 119] w' (fun e w2 => e = .returned (.tuple #[.pointer (some ⟨w.heap.size, 5, none⟩), .int .i64 2, .bool true]) ∧ w2 = w') := fun w' h => mnum_any w.heap.size 119 (by decide) _ rfl w' h
          have hbig : ∀ w', Blk w' w.heap.size 27 (mCells m A c A2 c2) → Calls Tryz.prog 48 #[.pointer (some ⟨w.heap.size, 0, none⟩), .int .i32 119] w' (fun e w2 => e = .returned (.pointer none) ∧ w2 = w') := fun w' h => mbig_any w.heap.size 119 (by decide) _ rfl w' h
          have hnx1 := hnx
          simp only [UInt8.toNat_ofNat, Nat.reducePow, Nat.reduceMod] at hnx1
          clear hnx
          have hin : 0 ≤ m.what ∧ m.what ≤ 2 := of_decide_eq_true HBL.out.1
          obtain ⟨p, hp⟩ : ∃ p : Nat, m.what = (p : Int) := ⟨m.what.toNat, by omega⟩
          have hlt : p < 18446744073709551616 := by omega
          have hple : p ≤ 2 := by omega
          have HQ : Hid (Ms.part 119 m = Gr.numB p) := by
            have e : Ms.part 119 m = Gr.numB m.what.toNat := rfl
            rw [hp] at e; exact Lib.hid e
          have x := hw1.msg.cell 5
          simp [mCells] at x
          rw [hp] at x
          have HPP := Lib.hid hp
          clear hp hin
          go_wp2_with (first
            | (go_at_call 47; refine (hnum _ (by first | exact h3.msg | exact hw1.msg)).mono ?_; rintro e wq ⟨rfl, hwq⟩; have hwq2 := hwq.symm; clear hwq; subst hwq2)
            | (go_at_call 48; refine (hbig _ (by first | exact h3.msg | exact hw1.msg)).mono ?_; rintro e wq ⟨rfl, hwq⟩; have hwq2 := hwq.symm; clear hwq; subst hwq2)
            | (go_at_call 46
               have hal := alloc_b w1 (.cells #[.int .u64 (p : Int)] 22)
               refine (pnums_any gp w.heap.size w1.heap.size bs [p] (by simpa using hlt) 1 rfl (by omega) _ (hw1.below hal).pen (by omega) (Nat.le_trans hw1.bel.size hal.size) (Blk.new _ _ _)).mono ?_
               rintro e w3 ⟨rfl, hpen3, hp3⟩
               have h3 := (hw1.below hal).step hp3 hpen3))
          replace h3 : WS w w3 gp it (mCells m A c A2 c2) P (pos + 1) (bs ++ Gr.numB p) := by simpa [numsB] using h3
          go_roundg (gk - 1)
          case measure => omega
          case rel => exact ⟨pos + 1, by omega, by rw [HN.out, HQ.out]; exact h3⟩
        · have hnum : ∀ w', Blk w' w.heap.size 27 (mCells m A c A2 c2) → Calls Tryz.prog 47 #[.pointer (some ⟨w.heap.size, 0, none⟩), .int .i32 118] w' (fun e w2 => e = .returned (.tuple #[.pointer none, .int .i64 0, .bool false]) ∧ w2 = w') := fun w' h => mnum_any w.heap.size 118 (by decide) _ rfl w' h
          have hbig : ∀ w', Blk w' w.heap.size 27 (mCells m A c A2 c2) → Calls Tryz.prog 48 #[.pointer (some ⟨w.heap.size, 0, none⟩), .int .i32 118] w' (fun e w2 => e = .returned (.pointer (some ⟨w.heap.size, 6, none⟩)) ∧ w2 = w') := fun w' h => mbig_any w.heap.size 118 (by decide) _ rfl w' h
          have hnx1 := hnx
          simp only [UInt8.toNat_ofNat, Nat.reducePow, Nat.reduceMod] at hnx1
          clear hnx
          have hlt := HWF.out.version
          have HQ : Hid (Ms.part 118 m = Gr.numB m.version) := Lib.hid rfl
          obtain ⟨p, hp⟩ : ∃ p, p = m.version := ⟨_, rfl⟩
          rw [← hp] at hlt HQ
          have x := hw1.msg.cell 6
          simp [mCells] at x
          rw [← hp] at x
          have HPP := Lib.hid hp
          clear hp
          go_wp2_with (first
            | (go_at_call 47; refine (hnum _ (by first | exact h3.msg | exact hw1.msg)).mono ?_; rintro e wq ⟨rfl, hwq⟩; have hwq2 := hwq.symm; clear hwq; subst hwq2)
            | (go_at_call 48; refine (hbig _ (by first | exact h3.msg | exact hw1.msg)).mono ?_; rintro e wq ⟨rfl, hwq⟩; have hwq2 := hwq.symm; clear hwq; subst hwq2)
            | (go_at_call 46
               have hal := alloc_b w1 (.cells #[.int .u64 (p : Int)] 22)
               refine (pnums_any gp w.heap.size w1.heap.size bs [p] (by simpa using hlt) 1 rfl (by omega) _ (hw1.below hal).pen (by omega) (Nat.le_trans hw1.bel.size hal.size) (Blk.new _ _ _)).mono ?_
               rintro e w3 ⟨rfl, hpen3, hp3⟩
               have h3 := (hw1.below hal).step hp3 hpen3))
          replace h3 : WS w w3 gp it (mCells m A c A2 c2) P (pos + 1) (bs ++ Gr.numB p) := by simpa [numsB] using h3
          go_roundg (gk - 1)
          case measure => omega
          case rel => exact ⟨pos + 1, by omega, by rw [HN.out, HQ.out]; exact h3⟩
        · have hnum : ∀ w', Blk w' w.heap.size 27 (mCells m A c A2 c2) → Calls Tryz.prog 47 #[.pointer (some ⟨w.heap.size, 0, none⟩), .int .i32 97] w' (fun e w2 => e = .returned (.tuple #[.pointer none, .int .i64 0, .bool false]) ∧ w2 = w') := fun w' h => mnum_any w.heap.size 97 (by decide) _ rfl w' h
          have hbig : ∀ w', Blk w' w.heap.size 27 (mCells m A c A2 c2) → Calls Tryz.prog 48 #[.pointer (some ⟨w.heap.size, 0, none⟩), .int .i32 97] w' (fun e w2 => e = .returned (.pointer (some ⟨w.heap.size, 7, none⟩)) ∧ w2 = w') := fun w' h => mbig_any w.heap.size 97 (by decide) _ rfl w' h
          have hnx1 := hnx
          simp only [UInt8.toNat_ofNat, Nat.reducePow, Nat.reduceMod] at hnx1
          clear hnx
          have hlt := HWF.out.attempt
          have HQ : Hid (Ms.part 97 m = Gr.numB m.attempt) := Lib.hid rfl
          obtain ⟨p, hp⟩ : ∃ p, p = m.attempt := ⟨_, rfl⟩
          rw [← hp] at hlt HQ
          have x := hw1.msg.cell 7
          simp [mCells] at x
          rw [← hp] at x
          have HPP := Lib.hid hp
          clear hp
          go_wp2_with (first
            | (go_at_call 47; refine (hnum _ (by first | exact h3.msg | exact hw1.msg)).mono ?_; rintro e wq ⟨rfl, hwq⟩; have hwq2 := hwq.symm; clear hwq; subst hwq2)
            | (go_at_call 48; refine (hbig _ (by first | exact h3.msg | exact hw1.msg)).mono ?_; rintro e wq ⟨rfl, hwq⟩; have hwq2 := hwq.symm; clear hwq; subst hwq2)
            | (go_at_call 46
               have hal := alloc_b w1 (.cells #[.int .u64 (p : Int)] 22)
               refine (pnums_any gp w.heap.size w1.heap.size bs [p] (by simpa using hlt) 1 rfl (by omega) _ (hw1.below hal).pen (by omega) (Nat.le_trans hw1.bel.size hal.size) (Blk.new _ _ _)).mono ?_
               rintro e w3 ⟨rfl, hpen3, hp3⟩
               have h3 := (hw1.below hal).step hp3 hpen3))
          replace h3 : WS w w3 gp it (mCells m A c A2 c2) P (pos + 1) (bs ++ Gr.numB p) := by simpa [numsB] using h3
          go_roundg (gk - 1)
          case measure => omega
          case rel => exact ⟨pos + 1, by omega, by rw [HN.out, HQ.out]; exact h3⟩
        · have hnum : ∀ w', Blk w' w.heap.size 27 (mCells m A c A2 c2) → Calls Tryz.prog 47 #[.pointer (some ⟨w.heap.size, 0, none⟩), .int .i32 116] w' (fun e w2 => e = .returned (.tuple #[.pointer none, .int .i64 0, .bool false]) ∧ w2 = w') := fun w' h => mnum_any w.heap.size 116 (by decide) _ rfl w' h
          have hbig : ∀ w', Blk w' w.heap.size 27 (mCells m A c A2 c2) → Calls Tryz.prog 48 #[.pointer (some ⟨w.heap.size, 0, none⟩), .int .i32 116] w' (fun e w2 => e = .returned (.pointer (some ⟨w.heap.size, 8, none⟩)) ∧ w2 = w') := fun w' h => mbig_any w.heap.size 116 (by decide) _ rfl w' h
          have hnx1 := hnx
          simp only [UInt8.toNat_ofNat, Nat.reducePow, Nat.reduceMod] at hnx1
          clear hnx
          have hlt := HWF.out.stamp
          have HQ : Hid (Ms.part 116 m = Gr.numB m.stamp) := Lib.hid rfl
          obtain ⟨p, hp⟩ : ∃ p, p = m.stamp := ⟨_, rfl⟩
          rw [← hp] at hlt HQ
          have x := hw1.msg.cell 8
          simp [mCells] at x
          rw [← hp] at x
          have HPP := Lib.hid hp
          clear hp
          go_wp2_with (first
            | (go_at_call 47; refine (hnum _ (by first | exact h3.msg | exact hw1.msg)).mono ?_; rintro e wq ⟨rfl, hwq⟩; have hwq2 := hwq.symm; clear hwq; subst hwq2)
            | (go_at_call 48; refine (hbig _ (by first | exact h3.msg | exact hw1.msg)).mono ?_; rintro e wq ⟨rfl, hwq⟩; have hwq2 := hwq.symm; clear hwq; subst hwq2)
            | (go_at_call 46
               have hal := alloc_b w1 (.cells #[.int .u64 (p : Int)] 22)
               refine (pnums_any gp w.heap.size w1.heap.size bs [p] (by simpa using hlt) 1 rfl (by omega) _ (hw1.below hal).pen (by omega) (Nat.le_trans hw1.bel.size hal.size) (Blk.new _ _ _)).mono ?_
               rintro e w3 ⟨rfl, hpen3, hp3⟩
               have h3 := (hw1.below hal).step hp3 hpen3))
          replace h3 : WS w w3 gp it (mCells m A c A2 c2) P (pos + 1) (bs ++ Gr.numB p) := by simpa [numsB] using h3
          go_roundg (gk - 1)
          case measure => omega
          case rel => exact ⟨pos + 1, by omega, by rw [HN.out, HQ.out]; exact h3⟩
        · have hnum : ∀ w', Blk w' w.heap.size 27 (mCells m A c A2 c2) → Calls Tryz.prog 47 #[.pointer (some ⟨w.heap.size, 0, none⟩), .int .i32 111] w' (fun e w2 => e = .returned (.tuple #[.pointer (some ⟨w.heap.size, 9, none⟩), .int .i64 8300, .bool true]) ∧ w2 = w') := fun w' h => mnum_any w.heap.size 111 (by decide) _ rfl w' h
          have hbig : ∀ w', Blk w' w.heap.size 27 (mCells m A c A2 c2) → Calls Tryz.prog 48 #[.pointer (some ⟨w.heap.size, 0, none⟩), .int .i32 111] w' (fun e w2 => e = .returned (.pointer none) ∧ w2 = w') := fun w' h => mbig_any w.heap.size 111 (by decide) _ rfl w' h
          have hnx1 := hnx
          simp only [UInt8.toNat_ofNat, Nat.reducePow, Nat.reduceMod] at hnx1
          clear hnx
          have hin : 0 ≤ m.offset ∧ m.offset ≤ 8300 := of_decide_eq_true HBL.out.1
          obtain ⟨p, hp⟩ : ∃ p : Nat, m.offset = (p : Int) := ⟨m.offset.toNat, by omega⟩
          have hlt : p < 18446744073709551616 := by omega
          have hple : p ≤ 8300 := by omega
          have HQ : Hid (Ms.part 111 m = Gr.numB p) := by
            have e : Ms.part 111 m = Gr.numB m.offset.toNat := rfl
            rw [hp] at e; exact Lib.hid e
          have x := hw1.msg.cell 9
          simp [mCells] at x
          rw [hp] at x
          have HPP := Lib.hid hp
          clear hp hin
          go_wp2_with (first
            | (go_at_call 47; refine (hnum _ (by first | exact h3.msg | exact hw1.msg)).mono ?_; rintro e wq ⟨rfl, hwq⟩; have hwq2 := hwq.symm; clear hwq; subst hwq2)
            | (go_at_call 48; refine (hbig _ (by first | exact h3.msg | exact hw1.msg)).mono ?_; rintro e wq ⟨rfl, hwq⟩; have hwq2 := hwq.symm; clear hwq; subst hwq2)
            | (go_at_call 46
               have hal := alloc_b w1 (.cells #[.int .u64 (p : Int)] 22)
               refine (pnums_any gp w.heap.size w1.heap.size bs [p] (by simpa using hlt) 1 rfl (by omega) _ (hw1.below hal).pen (by omega) (Nat.le_trans hw1.bel.size hal.size) (Blk.new _ _ _)).mono ?_
               rintro e w3 ⟨rfl, hpen3, hp3⟩
               have h3 := (hw1.below hal).step hp3 hpen3))
          replace h3 : WS w w3 gp it (mCells m A c A2 c2) P (pos + 1) (bs ++ Gr.numB p) := by simpa [numsB] using h3
          go_roundg (gk - 1)
          case measure => omega
          case rel => exact ⟨pos + 1, by omega, by rw [HN.out, HQ.out]; exact h3⟩
        · have hnum : ∀ w', Blk w' w.heap.size 27 (mCells m A c A2 c2) → Calls Tryz.prog 47 #[.pointer (some ⟨w.heap.size, 0, none⟩), .int .i32 84] w' (fun e w2 => e = .returned (.tuple #[.pointer (some ⟨w.heap.size, 10, none⟩), .int .i64 8300, .bool true]) ∧ w2 = w') := fun w' h => mnum_any w.heap.size 84 (by decide) _ rfl w' h
          have hbig : ∀ w', Blk w' w.heap.size 27 (mCells m A c A2 c2) → Calls Tryz.prog 48 #[.pointer (some ⟨w.heap.size, 0, none⟩), .int .i32 84] w' (fun e w2 => e = .returned (.pointer none) ∧ w2 = w') := fun w' h => mbig_any w.heap.size 84 (by decide) _ rfl w' h
          have hnx1 := hnx
          simp only [UInt8.toNat_ofNat, Nat.reducePow, Nat.reduceMod] at hnx1
          clear hnx
          have hin : 0 ≤ m.total ∧ m.total ≤ 8300 := of_decide_eq_true HBL.out.1
          obtain ⟨p, hp⟩ : ∃ p : Nat, m.total = (p : Int) := ⟨m.total.toNat, by omega⟩
          have hlt : p < 18446744073709551616 := by omega
          have hple : p ≤ 8300 := by omega
          have HQ : Hid (Ms.part 84 m = Gr.numB p) := by
            have e : Ms.part 84 m = Gr.numB m.total.toNat := rfl
            rw [hp] at e; exact Lib.hid e
          have x := hw1.msg.cell 10
          simp [mCells] at x
          rw [hp] at x
          have HPP := Lib.hid hp
          clear hp hin
          go_wp2_with (first
            | (go_at_call 47; refine (hnum _ (by first | exact h3.msg | exact hw1.msg)).mono ?_; rintro e wq ⟨rfl, hwq⟩; have hwq2 := hwq.symm; clear hwq; subst hwq2)
            | (go_at_call 48; refine (hbig _ (by first | exact h3.msg | exact hw1.msg)).mono ?_; rintro e wq ⟨rfl, hwq⟩; have hwq2 := hwq.symm; clear hwq; subst hwq2)
            | (go_at_call 46
               have hal := alloc_b w1 (.cells #[.int .u64 (p : Int)] 22)
               refine (pnums_any gp w.heap.size w1.heap.size bs [p] (by simpa using hlt) 1 rfl (by omega) _ (hw1.below hal).pen (by omega) (Nat.le_trans hw1.bel.size hal.size) (Blk.new _ _ _)).mono ?_
               rintro e w3 ⟨rfl, hpen3, hp3⟩
               have h3 := (hw1.below hal).step hp3 hpen3))
          replace h3 : WS w w3 gp it (mCells m A c A2 c2) P (pos + 1) (bs ++ Gr.numB p) := by simpa [numsB] using h3
          go_roundg (gk - 1)
          case measure => omega
          case rel => exact ⟨pos + 1, by omega, by rw [HN.out, HQ.out]; exact h3⟩
        · have hnum : ∀ w', Blk w' w.heap.size 27 (mCells m A c A2 c2) → Calls Tryz.prog 47 #[.pointer (some ⟨w.heap.size, 0, none⟩), .int .i32 122] w' (fun e w2 => e = .returned (.tuple #[.pointer (some ⟨w.heap.size, 11, none⟩), .int .i64 4096, .bool true]) ∧ w2 = w') := fun w' h => mnum_any w.heap.size 122 (by decide) _ rfl w' h
          have hbig : ∀ w', Blk w' w.heap.size 27 (mCells m A c A2 c2) → Calls Tryz.prog 48 #[.pointer (some ⟨w.heap.size, 0, none⟩), .int .i32 122] w' (fun e w2 => e = .returned (.pointer none) ∧ w2 = w') := fun w' h => mbig_any w.heap.size 122 (by decide) _ rfl w' h
          have hnx1 := hnx
          simp only [UInt8.toNat_ofNat, Nat.reducePow, Nat.reduceMod] at hnx1
          clear hnx
          have hin : 0 ≤ m.size ∧ m.size ≤ 4096 := of_decide_eq_true HBL.out.1
          obtain ⟨p, hp⟩ : ∃ p : Nat, m.size = (p : Int) := ⟨m.size.toNat, by omega⟩
          have hlt : p < 18446744073709551616 := by omega
          have hple : p ≤ 4096 := by omega
          have HQ : Hid (Ms.part 122 m = Gr.numB p) := by
            have e : Ms.part 122 m = Gr.numB m.size.toNat := rfl
            rw [hp] at e; exact Lib.hid e
          have x := hw1.msg.cell 11
          simp [mCells] at x
          rw [hp] at x
          have HPP := Lib.hid hp
          clear hp hin
          go_wp2_with (first
            | (go_at_call 47; refine (hnum _ (by first | exact h3.msg | exact hw1.msg)).mono ?_; rintro e wq ⟨rfl, hwq⟩; have hwq2 := hwq.symm; clear hwq; subst hwq2)
            | (go_at_call 48; refine (hbig _ (by first | exact h3.msg | exact hw1.msg)).mono ?_; rintro e wq ⟨rfl, hwq⟩; have hwq2 := hwq.symm; clear hwq; subst hwq2)
            | (go_at_call 46
               have hal := alloc_b w1 (.cells #[.int .u64 (p : Int)] 22)
               refine (pnums_any gp w.heap.size w1.heap.size bs [p] (by simpa using hlt) 1 rfl (by omega) _ (hw1.below hal).pen (by omega) (Nat.le_trans hw1.bel.size hal.size) (Blk.new _ _ _)).mono ?_
               rintro e w3 ⟨rfl, hpen3, hp3⟩
               have h3 := (hw1.below hal).step hp3 hpen3))
          replace h3 : WS w w3 gp it (mCells m A c A2 c2) P (pos + 1) (bs ++ Gr.numB p) := by simpa [numsB] using h3
          go_roundg (gk - 1)
          case measure => omega
          case rel => exact ⟨pos + 1, by omega, by rw [HN.out, HQ.out]; exact h3⟩
        · have hnum : ∀ w', Blk w' w.heap.size 27 (mCells m A c A2 c2) → Calls Tryz.prog 47 #[.pointer (some ⟨w.heap.size, 0, none⟩), .int .i32 99] w' (fun e w2 => e = .returned (.tuple #[.pointer none, .int .i64 0, .bool false]) ∧ w2 = w') := fun w' h => mnum_any w.heap.size 99 (by decide) _ rfl w' h
          have hbig : ∀ w', Blk w' w.heap.size 27 (mCells m A c A2 c2) → Calls Tryz.prog 48 #[.pointer (some ⟨w.heap.size, 0, none⟩), .int .i32 99] w' (fun e w2 => e = .returned (.pointer none) ∧ w2 = w') := fun w' h => mbig_any w.heap.size 99 (by decide) _ rfl w' h
          have hnx1 := hnx
          simp only [UInt8.toNat_ofNat, Nat.reducePow, Nat.reduceMod] at hnx1
          clear hnx
          have hin : 0 ≤ m.code ∧ m.code ≤ 99 := of_decide_eq_true HBL.out.1
          obtain ⟨p, hp⟩ : ∃ p : Nat, m.code = (p : Int) := ⟨m.code.toNat, by omega⟩
          have hlt : p < 18446744073709551616 := by omega
          have hple : p ≤ 99 := by omega
          have HQ : Hid (Ms.part 99 m = Gr.numB p) := by
            have e : Ms.part 99 m = Gr.numB m.code.toNat := rfl
            rw [hp] at e; exact Lib.hid e
          have x := hw1.msg.cell 12
          simp [mCells] at x
          rw [hp] at x
          have HPP := Lib.hid hp
          clear hp hin
          go_wp2_with (first
            | (go_at_call 47; refine (hnum _ (by first | exact h3.msg | exact hw1.msg)).mono ?_; rintro e wq ⟨rfl, hwq⟩; have hwq2 := hwq.symm; clear hwq; subst hwq2)
            | (go_at_call 48; refine (hbig _ (by first | exact h3.msg | exact hw1.msg)).mono ?_; rintro e wq ⟨rfl, hwq⟩; have hwq2 := hwq.symm; clear hwq; subst hwq2)
            | (go_at_call 46
               have hal := alloc_b w1 (.cells #[.int .u64 (p : Int)] 22)
               refine (pnums_any gp w.heap.size w1.heap.size bs [p] (by simpa using hlt) 1 rfl (by omega) _ (hw1.below hal).pen (by omega) (Nat.le_trans hw1.bel.size hal.size) (Blk.new _ _ _)).mono ?_
               rintro e w3 ⟨rfl, hpen3, hp3⟩
               have h3 := (hw1.below hal).step hp3 hpen3))
          replace h3 : WS w w3 gp it (mCells m A c A2 c2) P (pos + 1) (bs ++ Gr.numB p) := by simpa [numsB] using h3
          go_roundg (gk - 1)
          case measure => omega
          case rel => exact ⟨pos + 1, by omega, by rw [HN.out, HQ.out]; exact h3⟩
        · have hnum : ∀ w', Blk w' w.heap.size 27 (mCells m A c A2 c2) → Calls Tryz.prog 47 #[.pointer (some ⟨w.heap.size, 0, none⟩), .int .i32 100] w' (fun e w2 => e = .returned (.tuple #[.pointer none, .int .i64 0, .bool false]) ∧ w2 = w') := fun w' h => mnum_any w.heap.size 100 (by decide) _ rfl w' h
          have hbig : ∀ w', Blk w' w.heap.size 27 (mCells m A c A2 c2) → Calls Tryz.prog 48 #[.pointer (some ⟨w.heap.size, 0, none⟩), .int .i32 100] w' (fun e w2 => e = .returned (.pointer none) ∧ w2 = w') := fun w' h => mbig_any w.heap.size 100 (by decide) _ rfl w' h
          have hnx1 := hnx
          simp only [UInt8.toNat_ofNat, Nat.reducePow, Nat.reduceMod] at hnx1
          clear hnx
          have HQ : Hid (Ms.part 100 m = Gr.numB m.data.length ++ m.data) := Lib.hid rfl
          have hle : m.data.length ≤ 200 := of_decide_eq_true HBL.out.2
          have x := hw1.msg.cell 14
          simp [mCells] at x
          have hal := alloc_b w1 (.cells #[.slice A m.data.length c] 24)
          have h2 := hw1.below hal
          have HT := Lib.hid (ptext_any gp w.heap.size w1.heap.size bs m.data A c _ h2.pen (by omega) (Nat.le_trans hw1.bel.size hal.size) (Blk.new _ _ _) (ha1.1.below h2.bel))
          have HH2 := Lib.hid h2
          clear h2 hle
          go_wp2_with (first
            | (go_at_call 47; refine (hnum _ (by first | exact h3.msg | exact hw1.msg)).mono ?_; rintro e wq ⟨rfl, hwq⟩; have hwq2 := hwq.symm; clear hwq; subst hwq2)
            | (go_at_call 48; refine (hbig _ (by first | exact h3.msg | exact hw1.msg)).mono ?_; rintro e wq ⟨rfl, hwq⟩; have hwq2 := hwq.symm; clear hwq; subst hwq2)
            | (go_at_call 50
               refine HT.out.mono ?_
               rintro e w3 ⟨rfl, hpen3, hp3⟩
               have h3 := HH2.out.step hp3 hpen3))
          go_roundg (gk - 1)
          case measure => omega
          case rel => exact ⟨pos + 1, by omega, by rw [HN.out, HQ.out]; exact h3⟩
        · have hnum : ∀ w', Blk w' w.heap.size 27 (mCells m A c A2 c2) → Calls Tryz.prog 47 #[.pointer (some ⟨w.heap.size, 0, none⟩), .int .i32 114] w' (fun e w2 => e = .returned (.tuple #[.pointer none, .int .i64 0, .bool false]) ∧ w2 = w') := fun w' h => mnum_any w.heap.size 114 (by decide) _ rfl w' h
          have hbig : ∀ w', Blk w' w.heap.size 27 (mCells m A c A2 c2) → Calls Tryz.prog 48 #[.pointer (some ⟨w.heap.size, 0, none⟩), .int .i32 114] w' (fun e w2 => e = .returned (.pointer none) ∧ w2 = w') := fun w' h => mbig_any w.heap.size 114 (by decide) _ rfl w' h
          have hnx1 := hnx
          simp only [UInt8.toNat_ofNat, Nat.reducePow, Nat.reduceMod] at hnx1
          clear hnx
          have HQ : Hid (Ms.part 114 m = Gr.numB m.rows.length ++ m.rows.flatMap Ms.rowB) := Lib.hid rfl
          have hbn : (m.rows.all fun x => Ms.inb x.kind 2 && Ms.inb x.size 4096) = true := HBL.out.1
          have hln : (decide (m.rows.length ≤ 8) && m.rows.all fun x => decide (x.path.length ≤ 96)) = true := HBL.out.2
          rw [Bool.and_eq_true, decide_eq_true_eq, List.all_eq_true] at hln
          rw [List.all_eq_true] at hbn
          have hrow : ∀ x ∈ m.rows, x.path.length ≤ 96 ∧ (0 ≤ x.kind ∧ x.kind ≤ 2) ∧ (0 ≤ x.size ∧ x.size ≤ 4096) := fun x hx => by
            have h1 := hbn x hx
            rw [Bool.and_eq_true] at h1
            exact ⟨of_decide_eq_true (hln.2 x hx), of_decide_eq_true h1.1, of_decide_eq_true h1.2⟩
          have hn8 := hln.1
          have HROW := Lib.hid hrow
          clear hbn hln hrow
          obtain ⟨n, hn⟩ : ∃ n, n = m.rows.length := ⟨_, rfl⟩
          rw [← hn] at hn8 HQ
          have x := hw1.msg.cell 15
          simp [mCells] at x
          rw [← hn] at x
          have HNN := Lib.hid hn
          clear hn
          go_wp2_with (first
            | (go_at_call 47; refine (hnum _ (by first | exact h3.msg | exact hw1.msg)).mono ?_; rintro e wq ⟨rfl, hwq⟩; have hwq2 := hwq.symm; clear hwq; subst hwq2)
            | (go_at_call 48; refine (hbig _ (by first | exact h3.msg | exact hw1.msg)).mono ?_; rintro e wq ⟨rfl, hwq⟩; have hwq2 := hwq.symm; clear hwq; subst hwq2)
            | (go_at_call 46
               have hal := alloc_b w1 (.cells #[.int .u64 (n : Int)] 22)
               refine (pnums_any gp w.heap.size w1.heap.size bs [n] (by simp; omega) 1 rfl (by omega) _ (hw1.below hal).pen (by omega) (Nat.le_trans hw1.bel.size hal.size) (Blk.new _ _ _)).mono ?_
               rintro e w3 ⟨rfl, hpen3, hp3⟩
               have h3 := (hw1.below hal).step hp3 hpen3
               have x3 := h3.msg.cell 15
               simp [mCells] at x3
               rw [← HNN.out] at x3))
          replace h3 : WS w w3 gp it (mCells m A c A2 c2) P (pos + 1) (bs ++ (Gr.numB n ++ (m.rows.take 0).flatMap Ms.rowB)) := by simpa [numsB] using h3
          clear hw1 hp3 hpen3 hal x x3 hnum hbig
          obtain ⟨go, rfl⟩ : ∃ go, go = gk := ⟨_, rfl⟩
          go_loopg [98] n (fun r j wr => ∃ k2 : Nat, r + k2 = n ∧ j = .int .i64 (k2 : Int) ∧ WS w wr gp it (mCells m A c A2 c2) P (pos + 1) (bs ++ (Gr.numB n ++ (m.rows.take k2).flatMap Ms.rowB)))
          case atStart => exact ⟨0, by omega, rfl, h3⟩
          case round =>
            clear h3
            obtain ⟨k2, hgk2, rfl, hws⟩ := hrel
            obtain ⟨wi, rfl⟩ : ∃ wi : World, wi = wr := ⟨_, rfl⟩
            by_cases hlt : k2 < n
            · obtain ⟨x, hx⟩ : ∃ x, m.rows[k2]? = some x := ⟨_, List.getElem?_eq_getElem (by rw [← HNN.out]; exact hlt)⟩
              obtain ⟨hpl, hkb, hsb⟩ := HROW.out x (List.mem_of_getElem? hx)
              obtain ⟨hv64, hs64⟩ := HWF.out.rows x (List.mem_of_getElem? hx)
              obtain ⟨b1, o1, rfl, hbl1, r1⟩ := ha3.at_ hx
              have hrt : (m.rows.take (k2 + 1)).flatMap Ms.rowB = (m.rows.take k2).flatMap Ms.rowB ++ Ms.rowB x := by rw [List.take_add_one, hx, List.flatMap_append]; simp
              obtain ⟨kn, hkn⟩ : ∃ kn : Nat, x.kind = (kn : Int) := ⟨x.kind.toNat, by omega⟩
              obtain ⟨sn, hsn⟩ : ∃ sn : Nat, x.size = (sn : Int) := ⟨x.size.toNat, by omega⟩
              have hRB : Ms.rowB x = (Gr.numB x.path.length ++ x.path) ++ (Gr.numB kn ++ (Gr.numB x.version ++ (Gr.numB x.stamp ++ Gr.numB sn))) := by unfold Ms.rowB; rw [hkn, hsn]; rfl
              have hkn2 : kn ≤ 2 := by omega
              have hsn2 : sn ≤ 4096 := by omega
              have q0 := (hws.bel.cell (p := ⟨b1, o1 + k2 * 5 + 0, none⟩) hbl1).trans (r1 0 _ rfl)
              have q1 := (hws.bel.cell (p := ⟨b1, o1 + k2 * 5 + 1, none⟩) hbl1).trans (r1 1 _ rfl)
              have q2 := (hws.bel.cell (p := ⟨b1, o1 + k2 * 5 + 2, none⟩) hbl1).trans (r1 2 _ rfl)
              have q3 := (hws.bel.cell (p := ⟨b1, o1 + k2 * 5 + 3, none⟩) hbl1).trans (r1 3 _ rfl)
              have q4 := (hws.bel.cell (p := ⟨b1, o1 + k2 * 5 + 4, none⟩) hbl1).trans (r1 4 _ rfl)
              rw [Nat.add_zero] at q0
              rw [hkn] at q1
              rw [hsn] at q4
              clear r1 hkb hsb hkn hsn hx
              obtain ⟨pt, hpt⟩ : ∃ pt, pt = x.path := ⟨_, rfl⟩
              obtain ⟨xv, hxv⟩ : ∃ xv, xv = x.version := ⟨_, rfl⟩
              obtain ⟨xs, hxs⟩ : ∃ xs, xs = x.stamp := ⟨_, rfl⟩
              rw [← hpt] at hpl hRB q0
              rw [← hxv] at hv64 hRB q2
              rw [← hxs] at hs64 hRB q3
              have HR := Lib.hid (And.intro hrt hRB)
              clear hrt hRB hpt hxv hxs
              have hbsl : (bs ++ (Gr.numB n ++ (m.rows.take k2).flatMap Ms.rowB)).length ≤ 35184372000000 := rows_len (by omega) HNN.out HROW.out (by have := HNN.out; omega)
              obtain ⟨bq, hbq⟩ : ∃ bq, bq = bs ++ (Gr.numB n ++ (m.rows.take k2).flatMap Ms.rowB) := ⟨_, rfl⟩
              rw [← hbq] at hws hbsl
              have HBQ := Lib.hid hbq
              clear hbq
              have hgl2 := hws.pen.lt
              have hzb2 := hws.bel.size
              have hale := alloc_b wi (.cells #[.string (strOf pt), .int .i64 (kn : Int), .int .u64 (xv : Int), .int .u64 (xs : Int), .int .i64 (sn : Int)] 52)
              have hwx := hws.below hale
              have hxb := Blk.new wi 52 #[.string (strOf pt), .int .i64 (kn : Int), .int .u64 (xv : Int), .int .u64 (xs : Int), .int .i64 (sn : Int)]
              obtain ⟨cb, wb, kc, hb, hbd, hbz⟩ := conv_str (wi.alloc (.cells #[.string (strOf pt), .int .i64 (kn : Int), .int .u64 (xv : Int), .int .u64 (xs : Int), .int .i64 (sn : Int)] 52)) pt
              go_wp2_with fail
              have hz1 : (wi.alloc (.cells #[.string (strOf pt), .int .i64 (kn : Int), .int .u64 (xv : Int), .int .u64 (xs : Int), .int .i64 (sn : Int)] 52)).heap.size = wi.heap.size + 1 := by simp
              have hal := alloc_b wb (.cells #[.slice (some ⟨wi.heap.size + 1, 0, none⟩) pt.length cb] 24)
              have hbp := (hwx.pen.belowK hb).below hal
              have h2 := (hwx.below hb).below hal
              have hx2 := (hxb.stay hb).stay hal
              rw [hz1] at hbp hbd hbz
              refine (ptextk_any gp w.heap.size wb.heap.size (wi.heap.size + 1) bq pt (some ⟨wi.heap.size + 1, 0, none⟩) cb (by omega) _ hbp (by omega) (by have := hal.size; omega) (Blk.new _ _ _) ((hbd.below hal).more hal.size) (fun a ha => .inr (by injection ha with ha; rw [← ha])) (by have := hal.size; omega)).mono ?_
              rintro e w5 ⟨rfl, hpen5, hp5⟩
              have h5 := h2.step hp5.step hpen5.pen
              have hx5 := hp5.step.blk hx2 (by omega) (by decide)
              have z1 := hx5.cell 1
              have z2 := hx5.cell 2
              have z3 := hx5.cell 3
              have z4 := hx5.cell 4
              simp only [List.getElem?_toArray, List.getElem?_cons_succ, List.getElem?_cons_zero] at z1 z2 z3 z4
              clear h2 hx2 hbp hwx hxb kc hb hbd hbz hal hp5 hpen5 hz1 hale q0 q1 q2 q3 q4 hws
              have hal := alloc_b w5 (.cells #[.int .u64 (kn : Int), .int .u64 (xv : Int), .int .u64 (xs : Int), .int .u64 (sn : Int)] 22)
              have hpl9 := (Gr.numB_len pt.length).1
              go_wp2_with fail
              refine (pnums_any gp w.heap.size w5.heap.size _ [kn, xv, xs, sn] (by simp; omega) 4 rfl (by omega) _ (h5.below hal).pen (by simp only [List.length_append]; omega) (Nat.le_trans h5.bel.size hal.size) (Blk.new _ _ _)).mono ?_
              rintro e w6 ⟨rfl, hpen6, hp6⟩
              have h6 := (h5.below hal).step hp6 hpen6
              go_wp2_with fail
              go_roundg (gk - 1)
              case measure => omega
              case rel =>
                refine ⟨k2 + 1, by omega, by go_num, ?_⟩
                rw [HR.out.1, HR.out.2]
                rw [HBQ.out] at h6
                simpa [numsB, List.append_assoc] using h6
            · obtain rfl : k2 = n := by omega
              have hE : (m.rows.take k2) = m.rows := List.take_of_length_le (by rw [← HNN.out]; exact Nat.le_refl _)
              rw [hE] at hws
              go_wp2_with fail
              go_roundg (go - 1)
              case measure => omega
              case rel => exact ⟨pos + 1, by omega, by rw [HN.out, HQ.out]; exact hws⟩
  · have hff : ((CK : Int) == 0) = false := by rw [beq_eq_false_iff_ne]; omega
    have hff2 : ((CK : Int) != 0) = true := by rw [bne_iff_ne]; omega
    have HCK := Lib.hid hCK
    clear hCK
    go_enter Tryz.func26, Tryz.ntmps26
    go_wp2_with fail
    obtain ⟨w1, hw1⟩ := hw1
    rw [← hw1] at hb1 hck ⊢
    clear hw1 hk1
    refine hck.mono ?_
    rintro e w2 ⟨rfl, hb2⟩
    go_wp2_with fail
    go_ret2
    have hE : X = [] := by rw [HX.out.1, wrM, if_neg (by rw [← HCK.out]; exact h0)]
    subst hE
    exact ⟨none, 0, rfl, World.ownsRow_nil _ _ _ _, hb1.trans (hb2.mono hb1.size)⟩
end Go.Proofs.YthhhiiagppckhaaGreatDoor
end
