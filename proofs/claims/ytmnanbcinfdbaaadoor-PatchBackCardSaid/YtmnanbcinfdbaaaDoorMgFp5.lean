/- What Feed does, plain; conditions: none beyond their hypotheses. A stream fed piece by piece, plain; conditions: none beyond their hypotheses. -/
import Derived.Test.YtmnanbcinfdbaaaDoorMgEs3
set_option linter.unusedSimpArgs false
set_option linter.unusedVariables false
section
namespace Go.Proofs.Gr
set_option linter.unusedVariables false
/-- the bytes of a step over a base -/
def doesP (base : List UInt8) (s : Stp) : List UInt8 := if s.k = 1 then (base.drop s.f.toNat).take s.l.toNat else s.d
def fd (n : Int) (base : List UInt8) : Nat → List UInt8 → Nat → List UInt8 → List UInt8 × Nat × List UInt8 × Nat
  | 0, out, o, rest => (out, o, rest, 0)
  | m + 1, out, o, rest =>
    let r := nextP rest
    if r.2.2 = 11 then (out, o, rest, 0)
    else if r.2.2 ≠ 0 then (out, o, [], r.2.2)
    else if okS n r.1 = false then (out, o, [], 2)
    else if 4096 - (o : Int) < r.1.l then (out, o, [], 13)
    else fd n base m (out ++ doesP base r.1) (o + r.1.l.toNat) (rest.drop r.2.1)
section
variable {n : Int} {base out rest : List UInt8} {o m k e : Nat} {s : Stp}
theorem fd_end (h : nextP rest = (s, k, 11)) : fd n base (m + 1) out o rest = (out, o, rest, 0) := by unfold fd; simp [h]
theorem fd_bad (h : nextP rest = (s, k, e)) (h1 : e ≠ 11) (h0 : e ≠ 0) : fd n base (m + 1) out o rest = (out, o, [], e) := by unfold fd; simp [h, h1, h0]
theorem fd_wrong (h : nextP rest = (s, k, 0)) (h1 : okS n s = false) : fd n base (m + 1) out o rest = (out, o, [], 2) := by unfold fd; simp [h, h1]
theorem fd_long (h : nextP rest = (s, k, 0)) (h1 : okS n s = true) (h2 : 4096 - (o : Int) < s.l) : fd n base (m + 1) out o rest = (out, o, [], 13) := by unfold fd; simp [h, h1, h2]
theorem fd_go (h : nextP rest = (s, k, 0)) (h1 : okS n s = true) (h2 : ¬ 4096 - (o : Int) < s.l) : fd n base (m + 1) out o rest = fd n base m (out ++ doesP base s) (o + s.l.toNat) (rest.drop k) := by
  conv => lhs; unfold fd
  simp [h, h1]
  intro hc; omega
end
/-- what comes of a patch that is fed: the bytes, how many came out, what is held, the error -/
def feedP (n : Int) (base hs : List UInt8) (o f : Nat) (b : List UInt8) : List UInt8 × Nat × List UInt8 × Nat :=
  if f ≠ 0 then ([], o, hs, f) else fd n base ((hs ++ b).length + 1) [] o (hs ++ b)
theorem does_len {n : Int} {base : List UInt8} {s : Stp} (h : okS n s = true) (hn : n = base.length) (h4 : n ≤ 4096) : (doesP base s).length = s.l.toNat := by
  rcases okS_inv h h4 with ⟨f, l, rfl, hf, hl1, hl⟩ | ⟨d, rfl, hd1, hd⟩
  · unfold okS okR at h
    simp at h
    unfold doesP
    simp
    omega
  · unfold doesP; simp
theorem nextP_rng {b : List UInt8} {s : Stp} {n : Nat} (h : nextP b = (s, n, 0)) : (s.k = 1 ∨ s.k = 2) ∧ (0 ≤ s.f ∧ s.f ≤ 4096) ∧ (1 ≤ s.l ∧ s.l ≤ 4096) ∧ s.d.length ≤ 128 := by
  obtain ⟨h1, h2, h3⟩ := nextP_len h
  rcases nextP_inv h with ⟨b1, b2, b3, fr, ln, e1, e2, e3, e4, rfl, _⟩ | ⟨b1, b2, d, b3, e1, _, e4, rfl, _⟩
  · have := (enum_bytes e2).2
    exact ⟨.inl rfl, ⟨by simp only; omega, by simp only; omega⟩, ⟨h3, h2⟩, h1⟩
  · exact ⟨.inr rfl, ⟨by simp only; omega, by simp only; omega⟩, ⟨h3, h2⟩, h1⟩
end Go.Proofs.Gr
end

section
namespace Go.Proofs.Gr
set_option linter.unusedVariables false
/-- bytes that end within a number -/
theorem enum_cut {most k : Nat} {p q : List UInt8} (hk : k < 18446744073709551616) (h : p ++ q = numB k) (hq : q ≠ []) : enum most p 0 = (0, [], 11) := by
  cases p with
  | nil => exact enum_nil most
  | cons c r =>
    unfold numB at h
    simp only [List.cons_append, List.cons.injEq] at h
    obtain ⟨h1, h2⟩ := h
    have h8 := digs_len8 k
    have hc : c.toNat = (digs k).length := by rw [h1, UInt8.toNat_ofNat']; omega
    have hl : r.length + q.length = (digs k).length := by rw [← h2]; simp
    have hq1 : 0 < q.length := List.length_pos_iff.2 hq
    exact enum_short most c r (by omega) (by omega)
theorem numP_cut {most k : Nat} {p q : List UInt8} (hk : k < 18446744073709551616) (h : p ++ q = numB k) (hq : q ≠ []) : numP most p 0 = (0, [], 11) := by
  have := enum_cut (most := most) hk h hq
  rw [numP_zero this rfl]
  simp only
  rw [efail_old 2 [] 11 (by decide)]
/-- a list of parts, cut somewhere -/
theorem cut_at {p q a b : List UInt8} (h : p ++ q = a ++ b) : (∃ p', p = a ++ p' ∧ p' ++ q = b) ∨ (∃ q', q' ≠ [] ∧ p ++ q' = a) := by
  rcases List.append_eq_append_iff.1 h with ⟨t, h1, h2⟩ | ⟨t, h1, h2⟩
  · cases t with
    | nil => exact .inl ⟨[], by simpa using h1.symm, by simpa using h2⟩
    | cons x t => exact .inr ⟨x :: t, by simp, h1.symm⟩
  · exact .inl ⟨t, h1, h2.symm⟩
/-- the kind 0: an eye that failed at the first number -/
theorem nextP0_bad {b b1 : List UInt8} {f1 : Nat} (h1 : numP 2 b 0 = (0, b1, f1)) (hf : f1 ≠ 0) : nextP b = (zStp, 0, f1) := by
  unfold nextP
  simp [h1, hf]
/-- bytes that end within a step -/
theorem nextP_cut {n : Int} {s : Stp} {p q : List UInt8} (hs : okS n s = true) (hn : n ≤ 4096) (h : p ++ q = wrS s) (hq : q ≠ []) : (nextP p).2.2 = 11 := by
  have fault : ∀ {most : Nat} {b : List UInt8}, enum most b 11 = (0, b, 11) := fun {most b} => enum_fault most b 11 (by decide)
  have faultP : ∀ {b : List UInt8}, numP 4096 b 11 = (0, b, 11) := fun {b} => by rw [numP_zero (fault) rfl]; simp only; rw [efail_old 2 b 11 (by decide)]
  rcases okS_inv hs hn with ⟨f, l, rfl, hf, hl1, hl⟩ | ⟨d, rfl, hd1, hd⟩
  · have hw : wrS ⟨1, f, l, []⟩ = numB 1 ++ (numB f ++ numB l) := by unfold wrS natI; simp
    rw [hw] at h
    rcases cut_at h with ⟨p1, rfl, h1⟩ | ⟨q1, hq1, h1⟩
    · have e1 : numP 2 (numB 1 ++ p1) 0 = (1, p1, 0) := numP_pos (enum_numB _ (by decide) (by decide)) (by simp)
      rcases cut_at h1 with ⟨p2, rfl, h2⟩ | ⟨q2, hq2, h2⟩
      · have e2 : enum 4096 (numB f ++ p2) 0 = (f, p2, 0) := enum_numB _ (by omega) hf
        have e3 := numP_cut (most := 4096) (by omega) h2 hq
        rw [nextP1_bad e1 e2 e3 (by decide)]
      · have e2 := enum_cut (most := 4096) (by omega) h2 hq2
        rw [nextP1_bad e1 e2 faultP (by decide)]
    · have e1 := numP_cut (most := 2) (by decide) h1 hq1
      rw [nextP0_bad e1 (by decide)]
  · have hw : wrS ⟨2, 0, (d.length : Nat), d⟩ = numB 2 ++ (numB d.length ++ d) := by unfold wrS; simp
    rw [hw] at h
    rcases cut_at h with ⟨p1, rfl, h1⟩ | ⟨q1, hq1, h1⟩
    · have e1 : numP 2 (numB 2 ++ p1) 0 = (2, p1, 0) := numP_pos (enum_numB _ (by decide) (by decide)) (by simp)
      have bad : etext 128 p1 0 = ([], [], 11) → (nextP (numB 2 ++ p1)).2.2 = 11 := fun e2 => by
        rw [nextP2_bad (d := []) (b2 := []) (b4 := []) (f2 := 11) (f4 := 11) e1 e2 (by simp [efail]) (by decide)]
      rcases cut_at h1 with ⟨p2, rfl, h2⟩ | ⟨q2, hq2, h2⟩
      · have e2 : enum 128 (numB d.length ++ p2) 0 = (d.length, p2, 0) := enum_numB _ (by omega) hd
        have hl : p2.length + q.length = d.length := by rw [← h2]; simp
        have hq1 : 0 < q.length := List.length_pos_iff.2 hq
        exact bad (etext_short e2 rfl (by simp only; omega))
      · have e2 := enum_cut (most := 128) (by omega) h2 hq2
        exact bad (etext_bad e2 (by decide))
    · have e1 := numP_cut (most := 2) (by decide) h1 hq1
      rw [nextP0_bad e1 (by decide)]
def outB (base : List UInt8) (l : List Stp) : List UInt8 := l.flatMap (doesP base)
/-- a beginning of a stream: its whole steps come out, the rest is held -/
theorem fd_prefix {n : Int} {base : List UInt8} (hn : n ≤ 4096) : ∀ (l : List Stp) (rest tail out : List UInt8) (o m : Nat), rest ++ tail = wrP l → l.all (okS n) = true → (o : Int) + lsum l ≤ 4096 → rest.length < m →
    ∃ j hs, j ≤ l.length ∧ fd n base m out o rest = (out ++ outB base (l.take j), o + (lsum (l.take j)).toNat, hs, 0) ∧ rest = wrP (l.take j) ++ hs ∧ (tail = [] → j = l.length ∧ hs = [])
  | [], rest, tail, out, o, m, h, _, _, hm => by
    obtain ⟨m, rfl⟩ : ∃ k, m = k + 1 := ⟨m - 1, by omega⟩
    have h0 : rest = [] := (List.append_eq_nil_iff.1 (show rest ++ tail = [] from h)).1
    subst h0
    obtain ⟨⟨s, k, e⟩, hr⟩ : ∃ r, nextP [] = r := ⟨_, rfl⟩
    have he : e = 11 := by
      have : (nextP []).2.2 = 11 := by
        rw [nextP0_bad (numP_zero (enum_nil 2) rfl) (by decide)]; rfl
      rw [hr] at this; exact this
    subst he
    exact ⟨0, [], Nat.le_refl _, by rw [fd_end hr]; simp [outB, lsum], by simp [wrP], fun _ => ⟨rfl, rfl⟩⟩
  | s :: l, rest, tail, out, o, m, h, hok, hsum, hm => by
    obtain ⟨m, rfl⟩ : ∃ k, m = k + 1 := ⟨m - 1, by omega⟩
    have hw : wrP (s :: l) = wrS s ++ wrP l := by simp [wrP]
    have hls : lsum (s :: l) = s.l + lsum l := by simp [lsum]
    simp only [List.all_cons, Bool.and_eq_true] at hok
    have hsl := okS_len hok.1 hn
    rw [hls] at hsum
    have hl0 := lsum_ok hn l hok.2 l.length
    rw [List.take_length] at hl0
    rw [hw] at h
    rcases cut_at h with ⟨r1, rfl, h1⟩ | ⟨q1, hq1, h1⟩
    · have hx := nextP_wrS r1 hok.1 hn
      have hp := nextP_prog hx
      rw [fd_go hx hok.1 (by omega), List.drop_left' rfl]
      obtain ⟨j, hs, hj, h2, h3, h4⟩ := fd_prefix (base := base) hn l r1 tail (out ++ doesP base s) (o + s.l.toNat) m h1 hok.2 (by push_cast; omega) (by rw [List.length_append] at hm; omega)
      have hlt := lsum_ok hn l hok.2 j
      refine ⟨j + 1, hs, by simp; omega, ?_, ?_, fun ht => ?_⟩
      · rw [h2, List.take_succ_cons]
        have e1 : outB base (s :: l.take j) = doesP base s ++ outB base (l.take j) := by simp [outB]
        have e2 : lsum (s :: l.take j) = s.l + lsum (l.take j) := by simp [lsum]
        have e5 : o + s.l.toNat + (lsum (l.take j)).toNat = o + (s.l + lsum (l.take j)).toNat := by omega
        rw [e1, e2, List.append_assoc, e5]
      · rw [List.take_succ_cons]
        have e3 : wrP (s :: l.take j) = wrS s ++ wrP (l.take j) := by simp [wrP]
        rw [e3, List.append_assoc, ← h3]
      · obtain ⟨a, b⟩ := h4 ht
        exact ⟨by simp [a], b⟩
    · have he := nextP_cut hok.1 hn h1 hq1
      obtain ⟨⟨s', k, e⟩, hr⟩ : ∃ r, nextP rest = r := ⟨_, rfl⟩
      rw [hr] at he
      simp only at he
      subst he
      refine ⟨0, rest, Nat.zero_le _, by rw [fd_end hr]; simp [outB, lsum], by simp [wrP], fun ht => ?_⟩
      subst ht
      have := congrArg List.length h
      have h2 := congrArg List.length h1
      have : 0 < q1.length := List.length_pos_iff.2 hq1
      simp only [List.length_append, List.length_nil] at *
      omega
/-- what was fed so far, of a stream -/
def Fed (n : Int) (base : List UInt8) (l : List Stp) (got : List UInt8) (o : Nat) (hs left : List UInt8) : Prop :=
  ∃ j, j ≤ l.length ∧ got = outB base (l.take j) ∧ (o : Int) = lsum (l.take j) ∧ wrP l = wrP (l.take j) ++ (hs ++ left)
theorem Fed.start (n : Int) (base : List UInt8) (l : List Stp) : Fed n base l [] 0 [] (wrP l) := ⟨0, Nat.zero_le _, by simp [outB], by simp [lsum], by simp [wrP]⟩
theorem lsum_split (l : List Stp) (j : Nat) : lsum l = lsum (l.take j) + lsum (l.drop j) := by
  have h : lsum (l.take j ++ l.drop j) = lsum (l.take j) + lsum (l.drop j) := by unfold lsum; rw [List.map_append, List.sum_append]
  rwa [List.take_append_drop] at h
theorem wrP_split (l : List Stp) (j : Nat) : wrP l = wrP (l.take j) ++ wrP (l.drop j) := by
  have h : wrP (l.take j ++ l.drop j) = wrP (l.take j) ++ wrP (l.drop j) := by unfold wrP; rw [List.flatMap_append]
  rwa [List.take_append_drop] at h
/-- the next piece -/
theorem Fed.next {n : Int} {base : List UInt8} {l : List Stp} {got : List UInt8} {o : Nat} {hs left : List UInt8} (h : Fed n base l got o hs left) (hn : n ≤ 4096) (hok : l.all (okS n) = true) (hsum : lsum l ≤ 4096) (k : Nat) :
    ∃ out o' hs', feedP n base hs o 0 (left.take k) = (out, o', hs', 0) ∧ Fed n base l (got ++ out) o' hs' (left.drop k) ∧ (left.drop k = [] → got ++ out = outB base l ∧ (o' : Int) = lsum l ∧ hs' = []) := by
  obtain ⟨j, hj, hg, ho, hw⟩ := h
  have hok2 : (l.drop j).all (okS n) = true := List.all_eq_true.2 fun x hx => List.all_eq_true.1 hok x (List.mem_of_mem_drop hx)
  have hok1 : (l.take j).all (okS n) = true := List.all_eq_true.2 fun x hx => List.all_eq_true.1 hok x (List.mem_of_mem_take hx)
  have hsp := lsum_split l j
  have hwd : hs ++ left = wrP (l.drop j) := by
    have := wrP_split l j
    rw [this] at hw
    exact (List.append_cancel_left hw).symm
  have hpt : (hs ++ left.take k) ++ left.drop k = wrP (l.drop j) := by rw [List.append_assoc, List.take_append_drop, hwd]
  obtain ⟨i, hs', hi, h1, h2, h3⟩ := fd_prefix (base := base) hn (l.drop j) (hs ++ left.take k) (left.drop k) [] o ((hs ++ left.take k).length + 1) hpt hok2 (by omega) (by omega)
  have hl2 := lsum_ok hn (l.drop j) hok2 i
  have htk : l.take (j + i) = l.take j ++ (l.drop j).take i := List.take_add
  have e1 : outB base (l.take (j + i)) = outB base (l.take j) ++ outB base ((l.drop j).take i) := by rw [htk]; unfold outB; rw [List.flatMap_append]
  have e2 : lsum (l.take (j + i)) = lsum (l.take j) + lsum ((l.drop j).take i) := by rw [htk]; unfold lsum; rw [List.map_append, List.sum_append]
  have e3 : wrP (l.take (j + i)) = wrP (l.take j) ++ wrP ((l.drop j).take i) := by rw [htk]; unfold wrP; rw [List.flatMap_append]
  have hji : j + i ≤ l.length := by rw [List.length_drop] at hi; omega
  have ho' : ((o + (lsum ((l.drop j).take i)).toNat : Nat) : Int) = lsum (l.take (j + i)) := by rw [e2]; push_cast; omega
  refine ⟨outB base ((l.drop j).take i), o + (lsum ((l.drop j).take i)).toNat, hs', ?_, ⟨j + i, hji, by rw [e1, hg], ho', ?_⟩, fun ht => ?_⟩
  · unfold feedP
    rw [if_neg (by simp), h1, List.nil_append]
  · rw [hw, e3, List.append_assoc]
    congr 1
    rw [← List.append_assoc, ← h2, List.append_assoc, List.take_append_drop]
  · obtain ⟨a, b⟩ := h3 ht
    have hjl : j + i = l.length := by rw [a, List.length_drop]; omega
    refine ⟨?_, ?_, b⟩
    · rw [hg, ← e1, hjl, List.take_length]
    · rw [ho', hjl, List.take_length]
end Go.Proofs.Gr
end
