/- Words for the walks: 32-bit words, slices of bytes, append; conditions: none. A region that draws its order, whose operations yield one value in every world of a class and leave it a world of the class, but for a tail that can only come last: one walk of the text's order serves every order; conditions: those of its hypotheses. Numbers and texts as bytes, plain: what an eye reads, what a pen writes; conditions: none beyond their hypotheses. -/
import Derived.WalkKit
import Derived.Maps.AppendAt
import Derived.Deep.AppendLies
import Derived.RegionTactic
import Derived.OwnWalk
import Derived.Deep.Draws
import Derived.WalkSpells
import Derived.WalkLawsBesides
import Derived.Lib.Hide
import Derived.StillTail
import Derived.Deep.Quiet
import Derived.Below
set_option linter.unusedSimpArgs false
set_option linter.unusedVariables false
section
namespace Go.Proofs.U
set_option linter.unusedVariables false
open Go.RowKit

/-! words of 32 bits, in the walk's own spelling: '↑x.toNat' with x a BitVec 32 -/
def bx (a b : BitVec 32) : BitVec 32 := a ^^^ b
def ba (a b : BitVec 32) : BitVec 32 := a &&& b
def bo (a b : BitVec 32) : BitVec 32 := a ||| b
def bsr (a : BitVec 32) (k : Nat) : BitVec 32 := a >>> k
def ofI (x : Int) : BitVec 32 := BitVec.ofInt 32 x

@[go_sem] theorem ofI_toNat (a : BitVec 32) : ofI (a.toNat : Int) = a := by
  unfold ofI; apply BitVec.eq_of_toNat_eq; simp
theorem toNat_lt (a : BitVec 32) : a.toNat < 4294967296 := a.isLt
theorem wrap_toNat (a : BitVec 32) : IntKind.u32.wrap (a.toNat : Int) = (a.toNat : Int) := by
  rw [IntKind.wrap_u32']; have := toNat_lt a; omega
@[go_sem] theorem bits_xor (x y : Int) : bits .xor .u32 x y = ((bx (ofI x) (ofI y)).toNat : Int) := wrap_toNat _
@[go_sem] theorem bits_and (x y : Int) : bits .and .u32 x y = ((ba (ofI x) (ofI y)).toNat : Int) := wrap_toNat _
@[go_sem] theorem bits_or (x y : Int) : bits .or .u32 x y = ((bo (ofI x) (ofI y)).toNat : Int) := wrap_toNat _
theorem sr_eq (a : BitVec 32) (k : Nat) : (a.toNat : Int) / ((2 ^ k : Nat) : Int) = ((bsr a k).toNat : Int) := by
  unfold bsr; rw [BitVec.toNat_ushiftRight, Nat.shiftRight_eq_div_pow, Int.natCast_ediv]
@[go_sem] theorem sr1 (a : BitVec 32) : (a.toNat : Int) / 2 = ((bsr a 1).toNat : Int) := sr_eq a 1
@[go_sem] theorem sr4 (a : BitVec 32) : (a.toNat : Int) / 16 = ((bsr a 4).toNat : Int) := sr_eq a 4
@[go_sem] theorem sr8 (a : BitVec 32) : (a.toNat : Int) / 256 = ((bsr a 8).toNat : Int) := sr_eq a 8
@[go_sem] theorem sr16 (a : BitVec 32) : (a.toNat : Int) / 65536 = ((bsr a 16).toNat : Int) := sr_eq a 16
@[go_sem] theorem sr24 (a : BitVec 32) : (a.toNat : Int) / 16777216 = ((bsr a 24).toNat : Int) := sr_eq a 24
@[go_sem] theorem srk (a : BitVec 32) (k : Nat) : (a.toNat : Int) / (2 : Int) ^ k = ((bsr a k).toNat : Int) := by
  rw [← sr_eq]; push_cast; rfl
@[go_sem] theorem and15 (a : BitVec 32) : (((ba a (ofI 15)).toNat : Int) < 16) = True := by
  have h : (ba a (ofI 15)).toNat ≤ 15 := by
    unfold ba; rw [BitVec.toNat_and]; exact Nat.and_le_right
  simp; omega
@[go_sem] theorem and15' (a : BitVec 32) : ((ba a (ofI 15)).toNat < 16) = True := by
  have h : (ba a (ofI 15)).toNat ≤ 15 := by
    unfold ba; rw [BitVec.toNat_and]; exact Nat.and_le_right
  simp; omega

def nt (a : BitVec 32) : BitVec 32 := bx (ofI IntKind.u32.max) a
theorem nt_eq (a : BitVec 32) : nt a = ~~~ a := by
  unfold nt bx
  rw [show ofI IntKind.u32.max = BitVec.allOnes 32 from by decide]
  exact BitVec.allOnes_xor
@[go_sem] theorem sub_nt (a : BitVec 32) : 4294967295 - (a.toNat : Int) = ((nt a).toNat : Int) := by
  rw [nt_eq, BitVec.toNat_not]; have := toNat_lt a; omega
def lsb0 (a : BitVec 32) : Bool := a.getLsbD 0
theorem lsb0_eq (a : BitVec 32) : lsb0 a = (a.toNat % 2 == 1) := by
  unfold lsb0; rw [BitVec.getLsbD, Nat.testBit_zero]
  cases h : decide (a.toNat % 2 = 1) <;> simp at h <;> simp [h]
@[go_sem] theorem rem2 (a : BitVec 32) : ((a.toNat : Int) % 2 == 1) = lsb0 a := by
  rw [lsb0_eq]
  rcases Nat.mod_two_eq_zero_or_one a.toNat with h | h
  · rw [show ((a.toNat : Int) % 2) = 0 by omega, h]; rfl
  · rw [show ((a.toNat : Int) % 2) = 1 by omega, h]; rfl
@[go_sem] theorem and1 (a : BitVec 32) : (((ba a (ofI 1)).toNat : Int) == 1) = lsb0 a := by
  rw [← rem2]; congr 1
  unfold ba; rw [show ofI 1 = 1#32 from by decide, BitVec.toNat_and]
  have := Nat.and_two_pow_sub_one_eq_mod a.toNat 1
  simp at this ⊢

theorem addr_add (b off j : Nat) : (⟨b, off, none⟩ : Addr).add j = ⟨b, off + j, none⟩ := by
  unfold Addr.add; split <;> simp_all

/-- a slice value's bytes -/
def BS (w : World) (B : Nat) (A : Option Addr) (n : Nat) (bs : List UInt8) : Prop :=
  bs.length = n ∧ (0 < n → ∃ b off, A = some ⟨b, off, none⟩ ∧ b < B ∧ ∀ j (h : j < bs.length), w.cell? ⟨b, off + j, none⟩ = some (.int .u8 (bs[j].toNat : Int)))
theorem BS.at_ {w : World} {B n k : Nat} {A : Option Addr} {bs : List UInt8} (h : BS w B A n bs) (hk : k < n) :
    ∃ b off c, A = some ⟨b, off, none⟩ ∧ b < B ∧ bs[k]? = some c ∧ w.cell? ⟨b, off + k, none⟩ = some (.int .u8 (c.toNat : Int)) := by
  obtain ⟨hl, hA⟩ := h
  obtain ⟨b, off, e, hb, hc⟩ := hA (by omega)
  exact ⟨b, off, bs[k]'(by omega), e, hb, by simp [hl, hk], hc k (by omega)⟩

@[go_sem] theorem byte_lt (c : UInt8) : ((c.toNat : Int) < 256) = True := by have := c.toNat_lt; simp; omega
@[go_sem] theorem byte_mod (c : UInt8) : (c.toNat : Int) % 256 = (c.toNat : Int) := by have := c.toNat_lt; omega
def lo8 (a : BitVec 32) : UInt8 := UInt8.ofNat a.toNat
@[go_sem] theorem mod256 (a : BitVec 32) : (a.toNat : Int) % 256 = ((lo8 a).toNat : Int) := by
  unfold lo8; rw [UInt8.toNat_ofNat']; omega

theorem BS.cut {w : World} {B n : Nat} {A : Option Addr} {bs : List UInt8} (h : BS w B A n bs) : bs.length = n := h.1
theorem BS.nil (w : World) (B : Nat) (A : Option Addr) : BS w B A 0 [] := ⟨rfl, fun h => absurd h (by omega)⟩
theorem BS.keep {w w' : World} {B n : Nat} {A : Option Addr} {bs : List UInt8} (h : BS w B A n bs) (hk : ∀ p : Addr, p.block < B → w'.cell? p = w.cell? p) : BS w' B A n bs :=
  ⟨h.1, fun hn => by
    obtain ⟨b, off, e, hb, hc⟩ := h.2 hn
    exact ⟨b, off, e, hb, fun j hj => (hk _ hb).trans (hc j hj)⟩⟩
theorem BS.more {w : World} {B B' n : Nat} {A : Option Addr} {bs : List UInt8} (h : BS w B A n bs) (hB : B ≤ B') : BS w B' A n bs :=
  ⟨h.1, fun hn => by
    obtain ⟨b, off, e, hb, hc⟩ := h.2 hn
    exact ⟨b, off, e, by omega, hc⟩⟩
theorem BS.below {w w' : World} {B n : Nat} {A : Option Addr} {bs : List UInt8} (h : BS w B A n bs) (hb : Below B w w') : BS w' B A n bs := h.keep fun _ hp => hb.cell hp
theorem BS.alloc {w : World} {B n : Nat} {A : Option Addr} {bs : List UInt8} (h : BS w B A n bs) (hB : B ≤ w.heap.size) (o : Obj) : BS (w.alloc o) B A n bs := h.keep fun p hp => World.cell?_alloc_lt w o p (by omega)
theorem BS.grown {w w' : World} {B n : Nat} {A : Option Addr} {bs : List UInt8} {row : Option Nat} (h : BS w B A n bs) (hg : w.grownBy w' row) (hB : B ≤ w.heap.size) (hr : ∀ g, row = some g → B ≤ g) : BS w' B A n bs :=
  h.keep fun p hp => World.cell?_of_block (hg.block p.block (by omega) (fun e => by have := hr _ e.symm; omega))
def bv (c : UInt8) : Value := .int .u8 (c.toNat : Int)
theorem BS.new (w : World) (e : TypeId) (vals : List UInt8) (fr : Nat × Nat := (0, 0)) : BS (w.alloc (.cells (vals.map bv).toArray e fr)) (w.heap.size + 1) (some ⟨w.heap.size, 0, none⟩) vals.length vals :=
  ⟨rfl, fun _ => ⟨_, _, rfl, by omega, fun j hj => by
    simp only [World.cell?, World.alloc]
    rw [show (w.heap.push (Obj.cells (vals.map bv).toArray e fr))[w.heap.size]? = some (Obj.cells (vals.map bv).toArray e fr) by simp]
    simp [hj, bv]⟩⟩

/-- a slice of bytes that the call itself made: nil, or the head of a block from base on -/
def Own (w : World) (base : Nat) (e : TypeId) (A : Option Addr) (n c : Nat) (bs : List UInt8) : Prop := w.ownsRow base e 1 (.slice A n c) n (bs.map bv)
theorem Own.len {w : World} {base n c : Nat} {e : TypeId} {A : Option Addr} {bs : List UInt8} (h : Own w base e A n c bs) : bs.length = n := by
  have := h.1; simpa using this
theorem Own.bs {w : World} {base n c : Nat} {e : TypeId} {A : Option Addr} {bs : List UInt8} (h : Own w base e A n c bs) : BS w w.heap.size A n bs := by
  refine ⟨h.len, fun hn => ?_⟩
  obtain ⟨g, cap, hv, _, hlt⟩ := World.ownsRow.form h hn
  have hA : A = some ⟨g, 0, none⟩ := by injection hv
  subst hA
  refine ⟨g, 0, rfl, hlt, fun j hj => ?_⟩
  have := World.ownsRow.cells (g := g) h rfl j (bv bs[j]) (by simp [hj])
  rw [addr_add] at this
  exact this
theorem Own.alloc {w : World} {base n c : Nat} {e : TypeId} {A : Option Addr} {bs : List UInt8} (h : Own w base e A n c bs) (o : Obj) : Own (w.alloc o) base e A n c bs := World.ownsRow.alloc h o
theorem Own.below {w w' : World} {base n c : Nat} {e : TypeId} {A : Option Addr} {bs : List UInt8} (h : Own w base e A n c bs) (hb : Below w.heap.size w w') : Own w' base e A n c bs :=
  World.ownsRow.kept (row := none) h ⟨hb.os, hb.tape, hb.output, hb.size, fun k hk _ => hb.block k hk⟩ (by
    cases A with
    | none => exact .inl rfl
    | some a => exact .inr (by simp [Value.ownBlock]))
theorem Own.nil (w : World) (base : Nat) (e : TypeId) : Own w base e none 0 0 [] := World.ownsRow_nil w base e 1
theorem Own.mono {w : World} {base base' n c : Nat} {e : TypeId} {A : Option Addr} {bs : List UInt8} (h : Own w base e A n c bs) (hb : base' ≤ base) : Own w base' e A n c bs := by
  refine ⟨h.1, ?_⟩
  rcases h.2 with h2 | ⟨g, cap, cur, hv, hg, r⟩
  · exact .inl h2
  · exact .inr ⟨g, cap, cur, hv, by omega, r⟩

/-- what the program's tables say of '[]byte' -/
structure Bt (P : Program) (t e : TypeId) : Prop where
  ht : P.underlying t = some (.slice e)
  hi : (P.info? e).map (fun i => (i.zero, i.size, i.bytes)) = some (some (.int .u8 0), 1, 1)

section
variable {P : Program} {w : World}
theorem run_append_none (base : Nat) (t ty e : TypeId) (i : TypeInfo) (size : Nat) (ht : P.underlying t = some (.slice e)) (hi : P.info? e = some i)
    (v : Value) (n : Nat) (xs : List Value) (hown : w.ownsRow base e size v n xs) (c : Nat) : (Builtin.append_ #[t, t] ty #[v, .slice none 0 c]).run P w = .ok v w := by
  rcases hown.2 with ⟨rfl, rfl⟩ | ⟨g, cap, cur, rfl, _, _, hnc, _⟩
  · simp [Builtin.append_, run_underlying ht, sizeOf, typeInfo, hi, Builtin.lenOf, Builtin.firstCells]
  · simp [Builtin.append_, run_underlying ht, sizeOf, typeInfo, hi, Builtin.lenOf, Builtin.firstCells, hnc, storeCells]

theorem run_app {t e : TypeId} (hB : Bt P t e) (ty : TypeId) (base : Nat) (A : Option Addr) (n c : Nat) (bs : List UInt8) (hown : Own w base e A n c bs)
    (B : Nat) (A' : Option Addr) (m c' : Nat) (bs' : List UInt8) (hr : BS w B A' m bs') (hlen : n + m ≤ 140737488355328) (hbase : base ≤ w.heap.size) :
    ∃ A2 c2 w2, (Builtin.append_ #[t, t] ty #[.slice A n c, .slice A' m c']).run P w = .ok (.slice A2 (n + m) c2) w2 ∧ Own w2 base e A2 (n + m) c2 (bs ++ bs') ∧
      w.grownBy w2 (Value.slice A n c).ownBlock ∧ ((Value.slice A2 (n + m) c2).ownBlock = (Value.slice A n c).ownBlock ∨ (Value.slice A2 (n + m) c2).ownBlock = some w.heap.size) := by
  obtain ⟨i, hi, hz0, hz1, hz2⟩ := info_parts hB.hi
  have h1 : ∀ u ∈ bs'.map bv, u.oneCell' = true := by
    intro u hu
    obtain ⟨x, _, rfl⟩ := List.mem_map.1 hu
    rfl
  have hshape : ∀ (v2 : Value) (w2 : World), w2.ownsRow base e 1 v2 (n + m) (bs.map bv ++ bs'.map bv) → ∃ A2 c2, v2 = .slice A2 (n + m) c2 := by
    intro v2 w2 h
    rcases h.2 with ⟨rfl, h0⟩ | ⟨g, cap, cur, rfl, _⟩
    · exact ⟨none, 0, by rw [h0]⟩
    · exact ⟨_, _, rfl⟩
  by_cases hm : m = 0
  · subst hm
    have hn : bs' = [] := List.eq_nil_of_length_eq_zero hr.1
    subst hn
    cases A' with
    | none => exact ⟨A, c, w, run_append_none base t ty e i 1 hB.ht hi _ n _ hown c', by simpa using hown, World.grownBy.refl w _, .inl rfl⟩
    | some ad =>
      obtain ⟨v', w', hrun, h2, h3, _, h5⟩ := run_append_own_at (P := P) w base t ty e i (.int .u8 0) 1 1 hB.ht hi hz0 hz1 hz2 rfl (by omega) _ n _ hown ad 0 c' [] rfl
        (fun j u hu => by simp at hu) (by simp) (by simp only [maxLen]; omega) (by omega) hbase
      obtain ⟨A2, c2, rfl⟩ := hshape v' w' (by simpa using h2)
      exact ⟨A2, c2, w', hrun, by simpa [Own] using h2, h3, h5⟩
  · obtain ⟨b, off, rfl, _, hc⟩ := hr.2 (by omega)
    obtain ⟨v', w', hrun, h2, h3, _, h5⟩ := run_append_own_at (P := P) w base t ty e i (.int .u8 0) 1 1 hB.ht hi hz0 hz1 hz2 rfl (by omega) _ n _ hown ⟨b, off, none⟩ m c' (bs'.map bv) (by simp [hr.1])
        (fun j u hu => by
          rw [addr_add]
          obtain ⟨hj, rfl⟩ := List.getElem?_eq_some_iff.1 hu
          rw [hc j (by simpa using hj)]; simp [bv]) h1 (by simp only [maxLen]; omega) (by omega) hbase
    obtain ⟨A2, c2, rfl⟩ := hshape v' w' h2
    exact ⟨A2, c2, w', hrun, by simpa [Own] using h2, h3, h5⟩

theorem wpList_app {t e : TypeId} (hB : Bt P t e) {ops : Array Oper} {rest : List Oper} {o : Oper} {a : Act} {Q : Exit → Act → World → Prop} (hgd : o.guard = none) (s x : Operand)
    (ho : o.op = .call { callee := .builtin .append, args := #[s, x], argTypes := #[t, t] })
    (base : Nat) (A : Option Addr) (n c : Nat) (bs : List UInt8) (hs : a.eval s = .slice A n c) (hown : Own w base e A n c bs)
    (B : Nat) (A' : Option Addr) (m c' : Nat) (bs' : List UInt8) (hx : a.eval x = .slice A' m c') (hr : BS w B A' m bs') (hlen : n + m ≤ 140737488355328) (hbase : base ≤ w.heap.size)
    (h : ∀ A2 c2 w2, Own w2 base e A2 (n + m) c2 (bs ++ bs') → w.grownBy w2 (Value.slice A n c).ownBlock → ((Value.slice A2 (n + m) c2).ownBlock = (Value.slice A n c).ownBlock ∨ (Value.slice A2 (n + m) c2).ownBlock = some w.heap.size) →
      wpList P ops Q rest (a.put o.dst (.slice A2 (n + m) c2)) w2) : wpList P ops Q (o :: rest) a w :=
  wpList_plain hgd fun _ hK => by
    obtain ⟨A2, c2, w2, hrun, h2, h3, h4⟩ := run_app (w := w) hB o.type base A n c bs hown B A' m c' bs' hr hlen hbase
    unfold Oper.wp execOp
    simp only [ho, resolve, invoke, builtin, Sem.run_bind, Sem.run_pure, Result.andThen_ok, List.map_toArray, List.map_cons, List.map_nil, hs, hx, hrun]
    exact hK _ _ (h A2 c2 w2 h2 h3 h4)
end

/-- a call that hands back n bytes in memory of its own, and leaves what was there -/
def OwnRet (e : TypeId) (w : World) (n : Nat) (bs : List UInt8) (en : Ending) (w' : World) : Prop :=
  ∃ A c, en = .returned (.slice A n c) ∧ Own w' w.heap.size e A n c bs ∧ Below w.heap.size w w'

theorem below_of_grown {B : Nat} {w0 w w' : World} {A : Option Addr} {base e n c : Nat} {bs : List UInt8} (h : Below B w0 w) (hB : B ≤ w.heap.size) (hown : Own w base e A n c bs) (hb : B ≤ base)
    (hg : w.grownBy w' (Value.slice A n c).ownBlock) : Below B w0 w' :=
  h.grown hg hB fun k hk => Nat.le_trans hb (World.ownsRow.lt hown k hk).1
theorem Own.made (w : World) (e : TypeId) (base : Nat) (hb : base ≤ w.heap.size) : Own (w.alloc (.cells #[] e)) base e (some ⟨w.heap.size, 0, none⟩) 0 0 [] :=
  World.ownsRow_made w #[] 0 hb (by simp) rfl

def strOf (bs : List UInt8) : ByteArray := ⟨bs.toArray⟩
theorem strOf_nums (bs : List UInt8) : strOfNums (bs.map fun c => (c.toNat : Int)) = strOf bs := by
  unfold strOfNums strOf
  rw [List.map_map]
  congr 2
  conv => rhs; rw [← List.map_id bs]
  apply List.map_congr_left
  intro c _
  simp
@[go_sem] theorem strOf_toList (bs : List UInt8) : (strOf bs).toList = bs := by rw [ByteArray.toList_eq]; rfl
theorem strOf_inj {a b : List UInt8} : strOf a = strOf b ↔ a = b := by
  constructor
  · intro h
    have := congrArg (fun x => x.data.toList) h
    simpa [strOf] using this
  · rintro rfl; rfl
theorem run_str {P : Program} {w : World} {B n : Nat} {A : Option Addr} {bs : List UInt8} (h : BS w B A n bs) (src e dst : TypeId) (hs : P.underlying src = some (.slice e)) (he : P.underlying e = some (.int .u8))
    (hd : P.underlying dst = some .string) (c : Nat) : (convert src dst (.slice A n c)).run P w = .ok (.string (strOf bs)) w := by
  by_cases h0 : n = 0
  · subst h0
    obtain rfl : bs = [] := List.eq_nil_of_length_eq_zero h.1
    cases A with
    | none => exact run_convert_bytes_nil w src e hs he 0 c dst hd
    | some a =>
      rw [run_convert_bytes_string w src dst e _ 0 c hs he hd, run_bytesToString w _ 0 c [] (run_loadCells_list (P := P) w a [] (fun j v hj => by simp at hj))]
      rfl
  · obtain ⟨b, off, rfl, _, hc⟩ := h.2 (by omega)
    rw [← strOf_nums]
    exact run_convert_bytes_arg w src e hs he b off n c _ (by simp [h.1]) (fun i hi => by
      rw [hc i (by rw [h.1]; exact hi)]
      simp [List.getD, show i < bs.length by rw [h.1]; exact hi]) dst hd

theorem BS.take {w : World} {B n k : Nat} {A : Option Addr} {bs : List UInt8} (h : BS w B A n bs) (hk : k ≤ n) : BS w B A k (bs.take k) := by
  refine ⟨by simp; have := h.1; omega, fun h0 => ?_⟩
  obtain ⟨b, off, e, hb, hc⟩ := h.2 (by omega)
  exact ⟨b, off, e, hb, fun j hj => by rw [hc j (by simp at hj; omega)]; simp⟩
theorem BS.drop {w : World} {B n k b off : Nat} {bs : List UInt8} (h : BS w B (some ⟨b, off, none⟩) n bs) (hk : k ≤ n) : BS w B (some ⟨b, off + k, none⟩) (n - k) (bs.drop k) := by
  refine ⟨by simp; have := h.1; omega, fun h0 => ?_⟩
  obtain ⟨b', off', e, hb, hc⟩ := h.2 (by omega)
  simp only [Option.some.injEq, Addr.mk.injEq, and_true] at e
  obtain ⟨rfl, rfl⟩ := e
  refine ⟨b, off + k, rfl, hb, fun j hj => ?_⟩
  rw [show off + k + j = off + (k + j) by omega, hc (k + j) (by simp at hj; omega)]
  simp
theorem BS.drew {w : World} {B n : Nat} {A : Option Addr} {bs : List UInt8} (h : BS w B A n bs) : BS w.drew B A n bs := h
theorem BS.drewN {w : World} {B n : Nat} {A : Option Addr} {bs : List UInt8} (h : BS w B A n bs) (q : Nat) : BS (w.drewN q) B A n bs := h
theorem BS.cells {w : World} {B n b off : Nat} {bs : List UInt8} (h : BS w B (some ⟨b, off, none⟩) n bs) : ∀ k x, bs[k]? = some x → w.cell? ⟨b, off + k, none⟩ = some (.int .u8 (x.toNat : Int)) := by
  intro k x hx
  obtain ⟨hk, rfl⟩ := List.getElem?_eq_some_iff.1 hx
  obtain ⟨b', off', e, hb, hc⟩ := h.2 (by have := h.1; omega)
  simp only [Option.some.injEq, Addr.mk.injEq, and_true] at e
  obtain ⟨rfl, rfl⟩ := e
  exact hc k hk
theorem Own.le {w : World} {base n c : Nat} {e : TypeId} {A : Option Addr} {bs : List UInt8} (h : Own w base e A n c bs) : n ≤ c := by
  rcases h.2 with ⟨hv, h0⟩ | ⟨g, cap, cur, hv, _, _, hnc, _⟩
  · omega
  · injection hv with _ _ hcc; omega
theorem below_drewN {B : Nat} {a w : World} (h : Below B a w) (n : Nat) : Below B a (w.drewN n) := ⟨h.os, h.tape, h.output, h.size, h.block⟩

theorem u32_bne (x y : BitVec 32) : ((x.toNat : Int) != (y.toNat : Int)) = !decide (x = y) := by
  by_cases h : x = y
  · subst h; simp
  · have h2 : ¬ ((x.toNat : Int) = (y.toNat : Int)) := fun e => h (BitVec.eq_of_toNat_eq (by omega))
    simp [h, bne_iff_ne, h2]
theorem u32_beq (x y : BitVec 32) : ((x.toNat : Int) == (y.toNat : Int)) = decide (x = y) := by
  by_cases h : x = y
  · subst h; simp
  · have h2 : ¬ ((x.toNat : Int) = (y.toNat : Int)) := fun e => h (BitVec.eq_of_toNat_eq (by omega))
    simp [h, h2]

def bsl (a : BitVec 32) (k : Nat) : BitVec 32 := a <<< k
@[go_sem] theorem sl1 (a : BitVec 32) : (a.toNat : Int) * 2 % 4294967296 = ((bsl a 1).toNat : Int) := by
  unfold bsl; rw [BitVec.toNat_shiftLeft, Nat.shiftLeft_eq]; omega
def msb (a : BitVec 32) : Bool := a.getLsbD 31
@[go_sem] theorem sr31 (a : BitVec 32) : ((a.toNat : Int) / 2147483648 == 1) = msb a := by
  unfold msb
  rw [BitVec.getLsbD, Nat.testBit_eq_decide_div_mod_eq]
  have := a.isLt
  rw [Bool.eq_iff_iff]
  simp
  omega

theorem Own.cellAt {w : World} {base n c g : Nat} {e : TypeId} {bs : List UInt8} (h : Own w base e (some ⟨g, 0, none⟩) n c bs) (j : Nat) (x : UInt8) (hx : bs[j]? = some x) : w.cell? ⟨g, j, none⟩ = some (.int .u8 (x.toNat : Int)) := by
  obtain ⟨hj, rfl⟩ := List.getElem?_eq_some_iff.1 hx
  rw [World.ownsRow.cellAt h j (by have := h.len; omega)]
  simp [hj, bv]
theorem Own.free {w : World} {base n c g : Nat} {e : TypeId} {bs : List UInt8} (h : Own w base e (some ⟨g, 0, none⟩) n c bs) (j : Nat) : w.frozen? ⟨g, j, none⟩ = false := World.ownsRow.frozenAt h j
theorem Own.set {w : World} {base n c g : Nat} {e : TypeId} {bs : List UInt8} (h : Own w base e (some ⟨g, 0, none⟩) n c bs) (j : Nat) (x : UInt8) : Own (w.setCell ⟨g, j, none⟩ (.int .u8 (x.toNat : Int))) base e (some ⟨g, 0, none⟩) n c (bs.set j x) := by
  have := (World.ownsRow.stored h j (bv x)).1
  unfold Own; rw [List.map_set]; exact this
theorem Own.form {w : World} {base n c : Nat} {e : TypeId} {A : Option Addr} {bs : List UInt8} (h : Own w base e A n c bs) (hn : 0 < n) : ∃ g, A = some ⟨g, 0, none⟩ ∧ base ≤ g ∧ g < w.heap.size := by
  obtain ⟨g, cap, hv, hb, hlt⟩ := World.ownsRow.form h hn
  injection hv with hA
  exact ⟨g, hA, hb, hlt⟩
theorem Own.drew {w : World} {base n c : Nat} {e : TypeId} {A : Option Addr} {bs : List UInt8} (h : Own w base e A n c bs) : Own w.drew base e A n c bs := h

/-- a block that is known whole -/
def Blk (w : World) (g : Nat) (t : TypeId) (cs : Array Value) : Prop := w.heap[g]? = some (.cells cs t (0, 0))
theorem Blk.lt {w : World} {g : Nat} {t : TypeId} {cs : Array Value} (h : Blk w g t cs) : g < w.heap.size := by
  rcases Nat.lt_or_ge g w.heap.size with hlt | hge
  · exact hlt
  · unfold Blk at h; rw [Array.getElem?_eq_none hge] at h; cases h
theorem Blk.cell {w : World} {g : Nat} {t : TypeId} {cs : Array Value} (h : Blk w g t cs) (i : Nat) : w.cell? ⟨g, i, none⟩ = cs[i]? := cell_of_row w g i cs t (0, 0) h
theorem Blk.frozen {w : World} {g : Nat} {t : TypeId} {cs : Array Value} (h : Blk w g t cs) (i : Nat) : w.frozen? ⟨g, i, none⟩ = false := by
  unfold Blk at h
  simp [World.frozen?, h]
theorem Blk.new (w : World) (t : TypeId) (cs : Array Value) : Blk (w.alloc (.cells cs t)) w.heap.size t cs := heap_alloc_new w _
theorem Blk.drew {w : World} {g : Nat} {t : TypeId} {cs : Array Value} (h : Blk w g t cs) : Blk w.drew g t cs := h
theorem Blk.drewN {w : World} {g : Nat} {t : TypeId} {cs : Array Value} (h : Blk w g t cs) (n : Nat) : Blk (w.drewN n) g t cs := h
theorem Blk.alloc {w : World} {g : Nat} {t : TypeId} {cs : Array Value} (h : Blk w g t cs) (o : Obj) : Blk (w.alloc o) g t cs := (Below.heap_alloc w o g h.lt).trans h
theorem Blk.set_ {w : World} {g : Nat} {t : TypeId} {cs : Array Value} (h : Blk w g t cs) (i : Nat) (u : Value) : Blk (w.setCell ⟨g, i, none⟩ u) g t (cs.setIfInBounds i u) := by
  unfold Blk at h ⊢
  simp [World.setCell, Array.getElem?_modify, h]
theorem Blk.far {w : World} {g : Nat} {t : TypeId} {cs : Array Value} (h : Blk w g t cs) {p : Addr} (hp : g ≠ p.block) (u : Value) : Blk (w.setCell p u) g t cs := (Below.heap_setCell w p u g hp).trans h
theorem Blk.below {w w' : World} {g : Nat} {t : TypeId} {cs : Array Value} {B : Nat} (h : Blk w g t cs) (hb : Below B w w') (hg : g < B) : Blk w' g t cs := (hb.block g hg).trans h
theorem Blk.stay {w w' : World} {g : Nat} {t : TypeId} {cs : Array Value} (h : Blk w g t cs) (hb : Below w.heap.size w w') : Blk w' g t cs := h.below hb h.lt
theorem Blk.grown {w w' : World} {g : Nat} {t : TypeId} {cs : Array Value} {row : Option Nat} (h : Blk w g t cs) (hb : w.grownBy w' row) (hg : some g ≠ row) : Blk w' g t cs := (hb.block g h.lt hg).trans h
theorem Blk.ne_ {w : World} {g g' : Nat} {t t' : TypeId} {cs cs' : Array Value} (h : Blk w g t cs) (h' : Blk w g' t' cs') (hne : t ≠ t') : g ≠ g' := by
  rintro rfl
  unfold Blk at h h'
  rw [h] at h'
  injection h' with h'
  injection h' with _ ht
  exact hne ht

theorem only_drewN {a w : World} {row : Option Nat} (h : a.grownBy w row) (n : Nat) : a.grownBy (w.drewN n) row := ⟨h.os, h.tape, h.output, h.size, h.block⟩
theorem only_drew {a w : World} {row : Option Nat} (h : a.grownBy w row) : a.grownBy w.drew row := ⟨h.os, h.tape, h.output, h.size, h.block⟩
theorem only_alloc {a w : World} {row : Option Nat} (h : a.grownBy w row) (o : Obj) : a.grownBy (w.alloc o) row :=
  ⟨h.os, h.tape, h.output, Nat.le_trans h.size (by simp), fun i hi hne => (Below.heap_alloc w o i (Nat.lt_of_lt_of_le hi h.size)).trans (h.block i hi hne)⟩
theorem only_setCell {a w : World} {g : Nat} (h : a.grownBy w (some g)) {p : Addr} (hp : p.block = g ∨ a.heap.size ≤ p.block) (u : Value) : a.grownBy (w.setCell p u) (some g) :=
  ⟨h.os, h.tape, h.output, by simpa [World.setCell] using h.size, fun i hi hne => (Below.heap_setCell w p u i (by
    rintro rfl
    rcases hp with hp | hp
    · exact hne (by rw [hp])
    · omega)).trans (h.block i hi hne)⟩
theorem only_below {a w w' : World} {row : Option Nat} (h : a.grownBy w row) (hb : Below w.heap.size w w') : a.grownBy w' row :=
  ⟨hb.os.trans h.os, hb.tape.trans h.tape, hb.output.trans h.output, Nat.le_trans h.size hb.size, fun i hi hn => (hb.block i (Nat.lt_of_lt_of_le hi h.size)).trans (h.block i hi hn)⟩
theorem only_trans {a w w' : World} {row : Option Nat} (h : a.grownBy w row) (hb : w.grownBy w' row) : a.grownBy w' row :=
  ⟨hb.os.trans h.os, hb.tape.trans h.tape, hb.output.trans h.output, Nat.le_trans h.size hb.size, fun i hi hn => (hb.block i (Nat.lt_of_lt_of_le hi h.size) hn).trans (h.block i hi hn)⟩

/-- a slice value's cells, one an element -/
def VS (w : World) (B : Nat) (A : Option Addr) (n : Nat) (vs : List Value) : Prop :=
  vs.length = n ∧ (0 < n → ∃ b off, A = some ⟨b, off, none⟩ ∧ b < B ∧ ∀ j (h : j < vs.length), w.cell? ⟨b, off + j, none⟩ = some vs[j])
theorem VS.at_ {w : World} {B n k : Nat} {A : Option Addr} {vs : List Value} (h : VS w B A n vs) (hk : k < n) :
    ∃ b off v, A = some ⟨b, off, none⟩ ∧ b < B ∧ vs[k]? = some v ∧ w.cell? ⟨b, off + k, none⟩ = some v := by
  obtain ⟨hl, hA⟩ := h
  obtain ⟨b, off, e, hb, hc⟩ := hA (by omega)
  exact ⟨b, off, vs[k]'(by omega), e, hb, by simp [hl, hk], hc k (by omega)⟩
theorem VS.keep {w w' : World} {B n : Nat} {A : Option Addr} {vs : List Value} (h : VS w B A n vs) (hk : ∀ p : Addr, p.block < B → w'.cell? p = w.cell? p) : VS w' B A n vs :=
  ⟨h.1, fun hn => by
    obtain ⟨b, off, e, hb, hc⟩ := h.2 hn
    exact ⟨b, off, e, hb, fun j hj => (hk _ hb).trans (hc j hj)⟩⟩
theorem VS.below {w w' : World} {B n : Nat} {A : Option Addr} {vs : List Value} (h : VS w B A n vs) (hb : Below B w w') : VS w' B A n vs := h.keep fun _ hp => hb.cell hp
theorem VS.nil (w : World) (B : Nat) (A : Option Addr) : VS w B A 0 [] := ⟨rfl, fun h => absurd h (by omega)⟩

theorem BS.fresh (w : World) (e : TypeId) (vals : List UInt8) (fr : Nat × Nat := (0, 0)) : BS (w.alloc (.cells (vals.map bv).toArray e fr)) (w.alloc (.cells (vals.map bv).toArray e fr)).heap.size (some ⟨w.heap.size, 0, none⟩) vals.length vals :=
  (BS.new w e vals fr).more (by simp)

/-- a call that hands back bytes in memory of its own, and a code -/
def OwnCode (e : TypeId) (w : World) (r : List UInt8 × Int) (en : Ending) (w' : World) : Prop :=
  ∃ A c, en = .returned (.tuple #[.slice A r.1.length c, .int .i64 r.2]) ∧ Own w' w.heap.size e A r.1.length c r.1 ∧ Below w.heap.size w w'
/-- a call that hands back bytes, and a code -/
def BytesCode (w : World) (r : List UInt8 × Int) (en : Ending) (w' : World) : Prop :=
  ∃ A c, en = .returned (.tuple #[.slice A r.1.length c, .int .i64 r.2]) ∧ BS w' w'.heap.size A r.1.length r.1 ∧ Below w.heap.size w w'
end Go.Proofs.U
end

section
namespace Go.Proofs.U
open Go
section
variable {P : Program} {ops : Array Oper} {md : Region.Mode} {C : World → Prop}

def AnyTail (P : Program) (md : Region.Mode) (ops : Array Oper) (C : World → Prop) (n : Nat) (L : Array Bool → Act → Prop) : Nat → Array Bool → Act → Prop
  | 0, listed, a => L listed a
  | f + 1, listed, a => Region.ready md ops listed ≠ [] ∧ ∀ i ∈ Region.ready md ops listed, i < n ∧ qOp P ops C i (AnyTail P md ops C n L f (listed.setIfInBounds i true)) a

theorem AnyTail.run {n g : Nat} {L : Array Bool → Act → Prop} {Q' : Exit → Act → World → Prop} (hL : ∀ listed a w, C w → L listed a → wpAny P md ops Q' g listed a w) :
    ∀ (f : Nat) (listed : Array Bool) (a : Act) (w : World), C w → AnyTail P md ops C n L f listed a → wpAny P md ops Q' (f + g) listed a w
  | 0, listed, a, w, hw, h => by rw [Nat.zero_add]; exact hL _ _ _ hw h
  | f + 1, listed, a, w, hw, h => by
    rw [show f + 1 + g = (f + g) + 1 by omega]
    exact ⟨fun h0 => absurd h0 h.1, fun i hi => wpOp_of_qOp hw (fun a' w' hw' h' => AnyTail.run hL f _ a' w' hw' h') (h.2 i hi).2⟩

theorem AnyTail.first {n i : Nat} {oi : Oper} {v : Value} {L : Array Bool → Act → Prop} (hi : ops[i]? = some oi) (hsel : ∀ (j : Nat) (o : Oper) cs b, ops[j]? = some o → o.op ≠ .select cs b)
    (hs : Region.sinkB md ops n = true) (hc : Region.chainB md ops n = true) (hn : n < ops.size) (hin : i < n) (hdone : ∀ listed a, L listed a → ∀ j ∈ Region.ready md ops listed, n ≤ j) :
    ∀ (f : Nat) (listed : Array Bool) (a : Act), HeadInv md ops n listed →
      (∀ j oj, ops[j]? = some oj → j ≠ i → listed.getD j true = false → (∀ e ∈ oj.after, Region.binds md e = true → e.on ≠ i) → oi.apart ops oj = true) →
      i ∈ Region.ready md ops listed → YieldsIn P ops C oi v a →
      AnyTail P md ops C n L f (listed.setIfInBounds i true) (a.put oi.dst v) → AnyTail P md ops C n L (f + 1) listed a := by
  intro f
  induction f with
  | zero =>
    intro listed a inv _ hr hy H
    refine ⟨fun h => (by rw [h] at hr; cases hr), fun j hj => ?_⟩
    have hjn : j < n := (Nat.lt_or_ge j n).resolve_right fun h => tail_waits hs hc hn inv _ i rfl hin (mem_ready.1 hr).1 j h hj
    refine ⟨hjn, ?_⟩
    by_cases hji : j = i
    · subst hji; exact hy.qOp hi H
    · have := hdone _ _ H j (ready_mono hj hji)
      omega
  | succ f ih =>
    intro listed a inv hfree hr hy H
    have hun := (mem_ready.1 hr).1
    refine ⟨fun h => (by rw [h] at hr; cases hr), fun j hj => ?_⟩
    have hjn : j < n := (Nat.lt_or_ge j n).resolve_right fun h => tail_waits hs hc hn inv _ i rfl hin hun j h hj
    refine ⟨hjn, ?_⟩
    by_cases hji : j = i
    · subst hji; exact hy.qOp hi H
    · obtain ⟨hjun, oj, hoj, hall⟩ := mem_ready.1 hj
      have hnot : ∀ e ∈ oj.after, Region.binds md e = true → e.on ≠ i := fun e he hb heq => by
        have h1 := hall e he hb
        rw [heq, getD_both hun] at h1
        cases h1
      have h2 := qOp_put hoj (hfree j oj hoj hji hjun hnot) (fun cs b => hsel i oi cs b hi) (fun cs b => hsel j oj cs b hoj) hy (H.2 j (ready_mono hj hji)).2
      refine qOp_mono (fun a' h3 => ih (listed.setIfInBounds j true) a' (inv.set hj hjn) (fun k ok hk hki hkun hno => ?_) (ready_mono hr (Ne.symm hji)) h3.1 ?_) h2
      · refine hfree k ok hk hki ?_ hno
        by_cases hjk : j = k
        · subst hjk; exact hjun
        · rw [getD_set_ne true hjk] at hkun; exact hkun
      · rw [Array.setIfInBounds_comm _ _ hji]
        exact h3.2

theorem AnyTail.lex {n g : Nat} {Lq : Act → Prop} (hsel : Region.noSelect ops = true) (hs : Region.sinkB md ops n = true) (hc : Region.chainB md ops n = true) (hn : n < ops.size) :
    ∀ (l : List Oper) (k : Nat) (listed : Array Bool) (a : Act), (∀ j, j < l.length → l[j]? = ops[k + j]?) → k + l.length = n → HeadInv md ops n listed →
    Region.lexHead md ops g l.length k listed = true → wpQuiet P ops C Lq l a →
    AnyTail P md ops C n (fun listed' a' => Region.seqB md ops g n listed' = true ∧ Lq a') l.length listed a
  | [], k, listed, a, _, hk, _, hB, h => by
    obtain rfl : k = n := by simpa using hk
    exact ⟨by simpa [Region.lexHead] using hB, h⟩
  | o :: l, k, listed, a, hl, hk, inv, hB, h => by
    have h0 : ops[k]? = some o := by simpa using (hl 0 (by simp)).symm
    simp only [List.length_cons, Region.lexHead, Bool.and_eq_true] at hB
    simp only [List.length_cons] at hk
    have hr : k ∈ Region.ready md ops listed := by simpa using hB.1.1
    have hst : qOp P ops C k (wpQuiet P ops C Lq l) a := by unfold qOp; simp only [h0]; exact h
    obtain ⟨v, hy, hK⟩ := yieldsIn_of_qOp h0 hst
    exact AnyTail.first h0 (Region.noSelect_spec hsel) hs hc hn (by omega) (fun listed' a' hL => seqB_ready hL.1) l.length listed a inv (Region.free_spec h0 hB.1.2) hr hy
      (AnyTail.lex hsel hs hc hn l (k + 1) _ _ (fun j hj => by have := hl (j + 1) (by simp; omega); simpa [Nat.add_assoc, Nat.add_comm 1 j] using this) (by omega) (inv.set hr (by omega)) hB.2 hK)

/-- the head is walked in the text's order, in every world of the class at once; the tail in the world that the head leaves -/
theorem wp_region_class_tail {id : Nat} {Q : Exit → Act → World → Prop} {a : Act} {w : World} {l : List Oper} (n : Nat) (hm : P.follows .mixedOrders = true) (hB : Region.lexTailB .any l.toArray n = true) (hC : C w.drew)
    (h : wpQuiet P l.toArray C (fun a' => ∀ w', C w' → wpList P l.toArray Q (l.drop n) a' w') (l.take n) a) : (Code.region id l.toArray true).wp P Q a w := by
  simp only [Region.lexTailB, Bool.and_eq_true, decide_eq_true_eq] at hB
  obtain ⟨⟨⟨⟨hsel, hn⟩, hs⟩, hc⟩, hlex⟩ := hB
  have hn' : n < l.length := by simpa using hn
  have htl : (l.take n).length = n := by simp; omega
  have hdl : (l.drop n).length = l.toArray.size - n := by simp
  have inv0 : HeadInv .any l.toArray n (Array.replicate l.toArray.size false) :=
    ⟨by simp, fun j oj _ hl => (by rw [getD_replicate_false] at hl; cases hl), fun t _ ht => getD_in (by simpa using ht) (getD_replicate_false _ _)⟩
  have H := AnyTail.lex (md := .any) (g := l.toArray.size - n) hsel hs hc hn (l.take n) 0 _ a (fun j hj => by
    have hj' : j < n := by rw [htl] at hj; exact hj
    simp [hj']) (by simpa using htl) inv0 (by rw [htl]; exact hlex) h
  refine wp_region_any hm ?_
  have := AnyTail.run (Q' := Q) (g := l.toArray.size - n) (fun listed a' w' hw' hL => by
    have := wpAny_of_seq (md := .any) (Q' := Q) (l.drop n) n listed a' w' (fun j => by simp [List.getElem?_drop]) (by rw [hdl]; exact hL.1) (hL.2 w' hw')
    rwa [hdl] at this) _ _ _ _ hC H
  rw [htl, show n + (l.toArray.size - n) = l.toArray.size by omega] at this
  exact this
/-- the same without a tail -/
theorem wp_region_class {id : Nat} {Q : Exit → Act → World → Prop} {a : Act} {w : World} {l : List Oper} (hm : P.follows .mixedOrders = true) (hB : Region.lexB .any l.toArray = true) (hC : C w.drew)
    (h : wpQuiet P l.toArray C (fun a' => ∀ w', C w' → Q .normal a' w') l a) : (Code.region id l.toArray true).wp P Q a w :=
  wp_region_quiet (C := C) hm hB hC (by simpa using h)
end
end Go.Proofs.U
end

section
namespace Go.Proofs.Gr
set_option linter.unusedVariables false
def be (l : List UInt8) : Nat := l.foldl (fun n d => n * 256 + d.toNat) 0
theorem be_nil : be [] = 0 := rfl
theorem be_snoc (l : List UInt8) (c : UInt8) : be (l ++ [c]) = be l * 256 + c.toNat := by simp [be]
theorem be_take (l : List UInt8) (k : Nat) (c : UInt8) (h : l[k]? = some c) : be (l.take (k + 1)) = be (l.take k) * 256 + c.toNat := by
  rw [List.take_add_one, h]; exact be_snoc _ _
theorem be_lt_take (l : List UInt8) : ∀ k, be (l.take k) < 256 ^ k
  | 0 => by simp [be]
  | k + 1 => by
    have ih := be_lt_take l k
    rw [Nat.pow_succ]
    cases h : l[k]? with
    | none => rw [List.take_add_one, h]; simp only [Option.toList_none, List.append_nil]; omega
    | some c => rw [be_take l k c h]; have := c.toNat_lt; omega
theorem be_lt8 (l : List UInt8) (k : Nat) (hk : k ≤ 8) : be (l.take k) < 18446744073709551616 :=
  Nat.lt_of_lt_of_le (be_lt_take l k) (Nat.pow_le_pow_right (by decide) hk)
theorem be_lt7 (l : List UInt8) (k : Nat) (hk : k < 8) : be (l.take k) < 72057594037927936 :=
  Nat.lt_of_lt_of_le (be_lt_take l k) (Nat.pow_le_pow_right (by decide) (show k ≤ 7 by omega))
/-- an eye fails: its bytes, its fault -/
def efail (code : Nat) (b : List UInt8) (f : Nat) : List UInt8 × Nat := if f = 0 ∧ code ≠ 0 then ([], code) else (b, f)
theorem efail_new (code : Nat) (b : List UInt8) (h : code ≠ 0) : efail code b 0 = ([], code) := by simp [efail, h]
theorem efail_old (code : Nat) (b : List UInt8) (f : Nat) (h : f ≠ 0) : efail code b f = (b, f) := by simp [efail, h]
/-- a number that is at most most: the number, the bytes left, the fault -/
def enum (most : Nat) (b : List UInt8) (f : Nat) : Nat × List UInt8 × Nat :=
  if f ≠ 0 then (0, b, f) else
  match b with
  | [] => (0, [], 11)
  | c :: r =>
    if 8 < c.toNat then (0, [], 10)
    else if r.length < c.toNat then (0, [], 11)
    else if 0 < c.toNat ∧ r[0]? = some 0 then (0, [], 10)
    else if most < be (r.take c.toNat) then (0, [], 13)
    else (be (r.take c.toNat), r.drop c.toNat, 0)
theorem enum_fault (most : Nat) (b : List UInt8) (f : Nat) (h : f ≠ 0) : enum most b f = (0, b, f) := by simp [enum, h]
theorem enum_nil (most : Nat) : enum most [] 0 = (0, [], 11) := rfl
theorem enum_wide (most : Nat) (c : UInt8) (r : List UInt8) (h : 8 < c.toNat) : enum most (c :: r) 0 = (0, [], 10) := by simp [enum, h]
theorem enum_short (most : Nat) (c : UInt8) (r : List UInt8) (h : c.toNat ≤ 8) (h2 : r.length < c.toNat) : enum most (c :: r) 0 = (0, [], 11) := by
  simp [enum, show ¬ 8 < c.toNat by omega, h2]
theorem enum_zero (most : Nat) (c : UInt8) (r : List UInt8) (h : c.toNat ≤ 8) (h2 : c.toNat ≤ r.length) (h3 : 0 < c.toNat) (h4 : r[0]? = some 0) : enum most (c :: r) 0 = (0, [], 10) := by
  simp [enum, show ¬ 8 < c.toNat by omega, show ¬ r.length < c.toNat by omega, h3, h4]
theorem enum_much (most : Nat) (c : UInt8) (r : List UInt8) (h : c.toNat ≤ 8) (h2 : c.toNat ≤ r.length) (h3 : ¬ (0 < c.toNat ∧ r[0]? = some 0)) (h4 : most < be (r.take c.toNat)) : enum most (c :: r) 0 = (0, [], 13) := by
  unfold enum; rw [if_neg (by simp)]; simp only
  rw [if_neg (by omega), if_neg (by omega), if_neg h3, if_pos h4]
theorem enum_ok (most : Nat) (c : UInt8) (r : List UInt8) (h : c.toNat ≤ 8) (h2 : c.toNat ≤ r.length) (h3 : ¬ (0 < c.toNat ∧ r[0]? = some 0)) (h4 : be (r.take c.toNat) ≤ most) : enum most (c :: r) 0 = (be (r.take c.toNat), r.drop c.toNat, 0) := by
  unfold enum; rw [if_neg (by simp)]; simp only
  rw [if_neg (by omega), if_neg (by omega), if_neg h3, if_neg (by omega)]
theorem enum_le (most : Nat) (b : List UInt8) (f : Nat) : (enum most b f).1 ≤ most := by
  unfold enum; split
  · exact Nat.zero_le _
  · split
    · exact Nat.zero_le _
    · split <;> try exact Nat.zero_le _
      split <;> try exact Nat.zero_le _
      split <;> try exact Nat.zero_le _
      split <;> try exact Nat.zero_le _
      simp only; omega
theorem enum_len (most : Nat) (b : List UInt8) (f : Nat) : (enum most b f).2.1.length ≤ b.length := by
  unfold enum; split
  · exact Nat.le_refl _
  · split
    · exact Nat.zero_le _
    · split <;> try exact Nat.zero_le _
      split <;> try exact Nat.zero_le _
      split <;> try exact Nat.zero_le _
      split <;> try exact Nat.zero_le _
      simp; omega
/-- a text of at most so many bytes -/
def etext (most : Nat) (b : List UInt8) (f : Nat) : List UInt8 × List UInt8 × Nat :=
  let r := enum most b f
  if r.2.2 ≠ 0 then ([], r.2.1, r.2.2) else if r.2.1.length < r.1 then ([], [], 11) else (r.2.1.take r.1, r.2.1.drop r.1, 0)
theorem etext_len (most : Nat) (b : List UInt8) (f : Nat) : (etext most b f).1.length ≤ most := by
  have := enum_le most b f
  unfold etext; simp only
  split
  · exact Nat.zero_le _
  · split
    · exact Nat.zero_le _
    · simp; omega
theorem etext_left (most : Nat) (b : List UInt8) (f : Nat) : (etext most b f).2.1.length ≤ b.length := by
  have := enum_len most b f
  unfold etext; simp only
  split
  · exact this
  · split
    · exact Nat.zero_le _
    · simp; omega
/-- a number that is not 0 -/
def numP (most : Nat) (b : List UInt8) (f : Nat) : Nat × List UInt8 × Nat :=
  let r := enum most b f
  if r.1 = 0 then (0, efail 2 r.2.1 r.2.2) else r
theorem numP_zero {most : Nat} {b : List UInt8} {f : Nat} {r : Nat × List UInt8 × Nat} (h : enum most b f = r) (h0 : r.1 = 0) : numP most b f = (0, efail 2 r.2.1 r.2.2) := by subst h; simp [numP, h0]
theorem numP_pos {most : Nat} {b : List UInt8} {f : Nat} {r : Nat × List UInt8 × Nat} (h : enum most b f = r) (h0 : r.1 ≠ 0) : numP most b f = r := by subst h; simp [numP, h0]
theorem numP_le (most : Nat) (b : List UInt8) (f : Nat) : (numP most b f).1 ≤ most := by
  have := enum_le most b f
  unfold numP; simp only; split
  · exact Nat.zero_le _
  · exact this
theorem efail_len (code : Nat) (b : List UInt8) (f : Nat) : (efail code b f).1.length ≤ b.length := by unfold efail; split <;> simp
theorem numP_len (most : Nat) (b : List UInt8) (f : Nat) : (numP most b f).2.1.length ≤ b.length := by
  have h1 := enum_len most b f
  have h2 := efail_len 2 (enum most b f).2.1 (enum most b f).2.2
  unfold numP; simp only; split
  · exact Nat.le_trans h2 h1
  · exact h1
theorem etext_bad {most : Nat} {b : List UInt8} {f : Nat} {r : Nat × List UInt8 × Nat} (h : enum most b f = r) (h0 : r.2.2 ≠ 0) : etext most b f = ([], r.2.1, r.2.2) := by subst h; simp [etext, h0]
theorem etext_short {most : Nat} {b : List UInt8} {f : Nat} {r : Nat × List UInt8 × Nat} (h : enum most b f = r) (h0 : r.2.2 = 0) (h1 : r.2.1.length < r.1) : etext most b f = ([], [], 11) := by
  subst h; simp [etext, h0, h1]
theorem etext_ok {most : Nat} {b : List UInt8} {f : Nat} {r : Nat × List UInt8 × Nat} (h : enum most b f = r) (h0 : r.2.2 = 0) (h1 : r.1 ≤ r.2.1.length) : etext most b f = (r.2.1.take r.1, r.2.1.drop r.1, 0) := by
  subst h; simp [etext, h0, show ¬ (enum most b f).2.1.length < (enum most b f).1 by omega]
/-- a step of a delta -/
structure Stp where
  k : Int
  f : Int
  l : Int
  d : List UInt8
deriving DecidableEq
def zStp : Stp := ⟨0, 0, 0, []⟩
theorem numP_fault {most : Nat} {b : List UInt8} {f : Nat} (h : (numP most b f).1 = 0) : (numP most b f).2.2 ≠ 0 := by
  unfold numP at h ⊢
  simp only at h ⊢
  split at h
  · rename_i h0
    rw [if_pos h0]
    unfold efail; split
    · simp
    · rename_i h1; simp at h1; exact h1
  · rename_i h0; exact absurd h h0
/-- the step at the beginning of bytes, how many bytes it has, the fault -/
def nextP (b : List UInt8) : Stp × Nat × Nat :=
  let r1 := numP 2 b 0
  if r1.1 = 1 then
    let r2 := enum 4096 r1.2.1 r1.2.2
    let r3 := numP 4096 r2.2.1 r2.2.2
    if r3.2.2 ≠ 0 then (zStp, 0, r3.2.2) else (⟨1, r2.1, r3.1, []⟩, b.length - r3.2.1.length, 0)
  else if r1.1 = 2 then
    let r2 := etext 128 r1.2.1 r1.2.2
    let x := if r2.1.length = 0 then efail 2 r2.2.1 r2.2.2 else r2.2
    if x.2 ≠ 0 then (zStp, 0, x.2) else (⟨2, 0, r2.1.length, r2.1⟩, b.length - x.1.length, 0)
  else (zStp, 0, r1.2.2)
theorem nextP0 {b : List UInt8} {r1 : Nat × List UInt8 × Nat} (h1 : numP 2 b 0 = r1) (h : r1.1 = 0) : nextP b = (zStp, 0, r1.2.2) := by
  subst h1; unfold nextP; simp [h]
theorem nextP1 {b : List UInt8} {r1 r2 r3 : Nat × List UInt8 × Nat} (h1 : numP 2 b 0 = r1) (h : r1.1 = 1) (h2 : enum 4096 r1.2.1 r1.2.2 = r2) (h3 : numP 4096 r2.2.1 r2.2.2 = r3) :
    nextP b = if r3.2.2 ≠ 0 then (zStp, 0, r3.2.2) else (⟨1, r2.1, r3.1, []⟩, b.length - r3.2.1.length, 0) := by
  subst h1; subst h2; subst h3; unfold nextP; simp only; rw [if_pos h]
theorem nextP2 {b : List UInt8} {r1 : Nat × List UInt8 × Nat} {r2 : List UInt8 × List UInt8 × Nat} {x : List UInt8 × Nat} (h1 : numP 2 b 0 = r1) (h : r1.1 = 2) (h2 : etext 128 r1.2.1 r1.2.2 = r2) (h3 : (if r2.1.length = 0 then efail 2 r2.2.1 r2.2.2 else r2.2) = x) :
    nextP b = if x.2 ≠ 0 then (zStp, 0, x.2) else (⟨2, 0, r2.1.length, r2.1⟩, b.length - x.1.length, 0) := by
  subst h1; subst h2; subst h3; unfold nextP; simp only; rw [if_neg (by omega), if_pos h]
theorem numP_old {most : Nat} {b0 b : List UInt8} {f0 n f : Nat} (h : enum most b0 f0 = (n, b, f)) (hf : f ≠ 0) : numP most b0 f0 = (n, b, f) := by
  by_cases h0 : n = 0
  · subst h0
    rw [numP_zero h rfl]; simp only; rw [efail_old _ _ _ hf]
  · exact numP_pos h h0
theorem nextP1_bad {b b1 b2 b3 : List UInt8} {f1 f2 f3 fr ln : Nat} (h1 : numP 2 b 0 = (1, b1, f1)) (h2 : enum 4096 b1 f1 = (fr, b2, f2)) (h3 : numP 4096 b2 f2 = (ln, b3, f3)) (hf : f3 ≠ 0) : nextP b = (zStp, 0, f3) := by
  rw [nextP1 h1 rfl h2 h3, if_pos hf]
theorem nextP1_ok {b b1 b2 b3 : List UInt8} {f1 f2 fr ln : Nat} (h1 : numP 2 b 0 = (1, b1, f1)) (h2 : enum 4096 b1 f1 = (fr, b2, f2)) (h3 : numP 4096 b2 f2 = (ln, b3, 0)) : nextP b = (⟨1, fr, ln, []⟩, b.length - b3.length, 0) := by
  rw [nextP1 h1 rfl h2 h3, if_neg (by simp)]
theorem nextP2_bad {b b1 d b2 b4 : List UInt8} {f1 f2 f4 : Nat} (h1 : numP 2 b 0 = (2, b1, f1)) (h2 : etext 128 b1 f1 = (d, b2, f2)) (h3 : (if d.length = 0 then efail 2 b2 f2 else (b2, f2)) = (b4, f4)) (hf : f4 ≠ 0) : nextP b = (zStp, 0, f4) := by
  rw [nextP2 h1 rfl h2 h3, if_pos hf]
theorem nextP2_ok {b b1 d b2 b4 : List UInt8} {f1 f2 : Nat} (h1 : numP 2 b 0 = (2, b1, f1)) (h2 : etext 128 b1 f1 = (d, b2, f2)) (h3 : (if d.length = 0 then efail 2 b2 f2 else (b2, f2)) = (b4, 0)) : nextP b = (⟨2, 0, d.length, d⟩, b.length - b4.length, 0) := by
  rw [nextP2 h1 rfl h2 h3, if_neg (by simp)]
theorem x_old {d b2 : List UInt8} {f2 : Nat} (hf : f2 ≠ 0) : (if d.length = 0 then efail 2 b2 f2 else (b2, f2)) = (b2, f2) := by
  split
  · exact efail_old _ _ _ hf
  · rfl
end Go.Proofs.Gr
end
