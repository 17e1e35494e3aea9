/- What is left of a message's bytes and rows; conditions: none beyond their hypotheses. Plain laws of what is said and read of messages in a row; conditions: none beyond their hypotheses. -/
import Derived.Test.YthhhiiagppckhaaGreatDoorMgMw5
import Derived.Test.YthhhiiagppckhaaGreatDoorMgLn4
import Derived.Test.YthhhiiagppckhaaGreatDoorMgMfit
set_option linter.unusedSimpArgs false
set_option linter.unusedVariables false
section
namespace Go.Proofs.YthhhiiagppckhaaGreatDoor
open Go.RowKit Go.Proofs.U
set_option linter.unusedVariables false

theorem pstep_rows (c : UInt8) (hc : c ∈ Ms.alpha) (m x : Ms.Msg) : (Ms.pstep c m x).rows = if c = 114 then m.rows else x.rows := by
  simp only [Ms.alpha, List.mem_cons, List.not_mem_nil, or_false] at hc
  rcases hc with rfl | rfl | rfl | rfl | rfl | rfl | rfl | rfl | rfl | rfl | rfl | rfl | rfl | rfl | rfl <;> rfl
theorem psteps_parts (m : Ms.Msg) : ∀ (l : List UInt8) (x : Ms.Msg), (∀ c ∈ l, c ∈ Ms.alpha) → (Ms.psteps l m x).data = (if (100 : UInt8) ∈ l then m.data else x.data) ∧ (Ms.psteps l m x).rows = (if (114 : UInt8) ∈ l then m.rows else x.rows)
  | [], x, _ => by simp [Ms.psteps]
  | c :: l, x, h => by
    obtain ⟨h1, h2⟩ := psteps_parts m l (Ms.pstep c m x) fun y hy => h y (List.mem_cons_of_mem _ hy)
    have e : Ms.psteps (c :: l) m x = Ms.psteps l m (Ms.pstep c m x) := rfl
    have hca := h c List.mem_cons_self
    rw [e, h1, h2, pstep_rows c hca]
    constructor
    · by_cases hm : (100 : UInt8) ∈ l
      · simp [hm]
      · simp only [hm, if_false, List.mem_cons, or_false]
        simp only [Ms.alpha, List.mem_cons, List.not_mem_nil, or_false] at hca
        rcases hca with rfl | rfl | rfl | rfl | rfl | rfl | rfl | rfl | rfl | rfl | rfl | rfl | rfl | rfl | rfl <;> rfl
    · by_cases hm : (114 : UInt8) ∈ l
      · simp [hm]
      · simp only [hm, if_false, List.mem_cons, or_false, eq_comm]
theorem plain_parts (m : Ms.Msg) : (Ms.plain m).data = (if (100 : UInt8) ∈ Ms.has m.kind then m.data else []) ∧ (Ms.plain m).rows = (if (114 : UInt8) ∈ Ms.has m.kind then m.rows else []) := by
  unfold Ms.plain
  by_cases h : Ms.has m.kind = []
  · rw [if_pos h, h]; exact ⟨rfl, rfl⟩
  · rw [if_neg h]
    exact psteps_parts m (Ms.has m.kind) _ (Ms.hasN_alpha _).1
theorem wf_wid {m : Ms.Msg} (h : Ms.Wf m) : Ms.Wid m := ⟨h.session, h.n, h.version, h.attempt, h.stamp, h.rows⟩
end Go.Proofs.YthhhiiagppckhaaGreatDoor
end

section
namespace Go.Proofs.YthhhiiagppckhaaGreatDoor
open Go.RowKit Go.Proofs.U
set_option linter.unusedVariables false

def okM (p : Mp) : Bool := decide (Ms.check p.m = 0)
/-- the payloads of the right ones -/
def es33 (l : List Mp) : List (List UInt8) := (l.filter okM).map fun p => Ms.enc p.m
/-- what is wanted of them -/
def pl33 (l : List Mp) : List Ms.Msg := (l.filter okM).map fun p => Ms.plain p.m
theorem es33_yes {l : List Mp} {k : Nat} {p : Mp} (h : l[k]? = some p) (h0 : Ms.check p.m = 0) : es33 (l.take (k + 1)) = es33 (l.take k) ++ [Ms.enc p.m] ∧ pl33 (l.take (k + 1)) = pl33 (l.take k) ++ [Ms.plain p.m] := by
  unfold es33 pl33
  rw [List.take_add_one, h]
  simp [okM, h0]
theorem es33_no {l : List Mp} {k : Nat} {p : Mp} (h : l[k]? = some p) (h0 : Ms.check p.m ≠ 0) : es33 (l.take (k + 1)) = es33 (l.take k) ∧ pl33 (l.take (k + 1)) = pl33 (l.take k) := by
  unfold es33 pl33
  rw [List.take_add_one, h]
  simp [okM, h0]
theorem es33_ok {l : List Mp} (hwf : ∀ p ∈ l, Ms.Wf p.m) : ∀ e ∈ es33 l, e.length ≤ 1400 ∧ (Ms.readP e).2 = 0 := by
  intro e he
  obtain ⟨p, hp, rfl⟩ := List.mem_map.1 he
  obtain ⟨hpl, hpo⟩ := List.mem_filter.1 hp
  have h0 : Ms.check p.m = 0 := of_decide_eq_true hpo
  exact ⟨Ms.enc_len h0, by rw [Ms.read_enc h0 (wf_wid (hwf p hpl))]⟩
theorem es33_pl {l : List Mp} (hwf : ∀ p ∈ l, Ms.Wf p.m) : (es33 l).map rdM = pl33 l := by
  unfold es33 pl33
  rw [List.map_map]
  apply List.map_congr_left
  intro p hp
  obtain ⟨hpl, hpo⟩ := List.mem_filter.1 hp
  have h0 : Ms.check p.m = 0 := of_decide_eq_true hpo
  show (Ms.readP (Ms.enc p.m)).1 = _
  rw [Ms.read_enc h0 (wf_wid (hwf p hpl))]
theorem rdM_rows (e : List UInt8) : (rdM e).rows.length ≤ 1000000000 := by
  have h := (Ms.readP_fit e).2.2.2.2.2.2
  unfold rdM; omega
theorem sayB_fr {m : Ms.Msg} (h : Ms.check m = 0) : sayB m = (fwrap (Ms.enc m)).1 ∧ (sayB m).length ≤ 1410 := by
  have hl := Ms.enc_len h
  have e : sayB m = (fwrap (Ms.enc m)).1 := by
    rw [fwrap_ok _ hl]; unfold sayB; rw [if_pos h]
  refine ⟨e, ?_⟩
  rw [e, fwrap_len _ hl]; omega
theorem sayE_ok {m : Ms.Msg} (h : Ms.check m = 0) : sayE m = .nil := by unfold sayE; rw [if_pos h]
theorem say_no {m : Ms.Msg} (h : Ms.check m ≠ 0) : sayB m = [] ∧ sayE m = .one [115, 97, 121] [] (.code (Ms.check m : Int)) := by
  unfold sayB sayE; rw [if_neg h, if_neg h]; exact ⟨rfl, rfl⟩
theorem frames_snoc (es : List (List UInt8)) (e : List UInt8) : frames (es ++ [e]) = frames es ++ (fwrap e).1 := by
  rw [frames_append]; congr 1; unfold frames; simp
theorem rows_apart {w : World} {base base' s s' n n' c c' : Nat} {e e' : TypeId} {A A' : Option Addr} {vs vs' : List Value} (h : w.ownsRow base e s (.slice A n c) n vs) (h' : w.ownsRow base' e' s' (.slice A' n' c') n' vs') (hne : e ≠ e') :
    (Value.slice A n c).ownBlock = none ∨ (Value.slice A n c).ownBlock ≠ (Value.slice A' n' c').ownBlock := by
  rcases h.2 with ⟨hv, _⟩ | ⟨g, cap, cur, hv, _, hh, _⟩
  · left; rw [hv]; rfl
  · right
    rw [hv]
    intro er
    have hb : Blk w g e cur := hh
    exact hb.row_ne h' hne er
end Go.Proofs.YthhhiiagppckhaaGreatDoor
end
