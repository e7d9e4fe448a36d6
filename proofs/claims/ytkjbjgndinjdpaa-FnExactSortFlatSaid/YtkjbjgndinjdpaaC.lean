/- The table of types; operations that are computed: 'stepOp', and that it says what the model does. -/
import Derived.Test.YtkjbjgndinjdpaaB
set_option linter.unusedVariables false
set_option linter.unusedSimpArgs false
namespace Go.Proofs.Ytkjbjgndinjdpaa
open Go

structure TI where
  agg : Bool
  size : Nat
  bytes : Nat
  zero : List C
  fields : List (Nat × Nat)
  elem : Nat
  kind : Nat      -- 0 other, 1 string, 2 slice, 3 struct, 4 int, 5 bool
  ik : IntKind := .i64

def findTI : List (Nat × TI) → Nat → Option TI
  | [], _ => none
  | (d, x) :: r, t => match Nat.beq d t with
    | true => some x
    | false => findTI r t

def zcell : Value → C → Bool
  | .bool a, .bool b => a == b
  | .int k n, .int k' n' => decide (k = k') && decide (n = n')
  | .string s, .str l => s.data.toList.isEmpty && l.isEmpty
  | .slice none 0 0, .v (.slice none 0 0) => true
  | .pointer none, .v (.pointer none) => true
  | .nilFunc, .v .nilFunc => true
  | .nilIface, .v .nilIface => true
  | _, _ => false
def zcells : List Value → List C → Bool
  | [], [] => true
  | v :: vs, c :: cs => zcell v c && zcells vs cs
  | _, _ => false

def TI.descB (ti : TI) : TypeDesc → Bool
  | .struct fs => ti.agg && decide (ti.kind = 3) && decide (fs.toList.map (fun f => (f.offset, f.type)) = ti.fields)
  | .array .. => false
  | .slice e => !ti.agg && decide (ti.kind = 2) && decide (e = ti.elem)
  | .string => !ti.agg && decide (ti.kind = 1)
  | .int k => !ti.agg && decide (ti.kind = 4) && decide (k = ti.ik)
  | .bool => !ti.agg && decide (ti.kind = 5)
  | _ => !ti.agg && decide (ti.kind = 0)

def TI.okB (P : Program) (t : Nat) (ti : TI) : Bool :=
  match P.info? t, P.underlying t with
  | some i, some d => decide (i.size = ti.size) && decide (i.bytes = ti.bytes) && (match i.zero with
      | some z => zcells z.cells.toList ti.zero && decide (ti.zero.length = ti.size) && (match z with
        | .agg _ => ti.agg
        | _ => !ti.agg)
      | none => false) && ti.descB d
  | _, _ => false

structure Pk where
  P : Program
  L : List (Nat × TI)
  ok : ∀ x ∈ L, x.2.okB P x.1 = true
  mixed : P.follows .mixedOrders = true

theorem findTI_mem : ∀ {L : List (Nat × TI)} {t : Nat} {ti : TI}, findTI L t = some ti → (t, ti) ∈ L
  | [], t, ti, h => by simp [findTI] at h
  | (d, x) :: r, t, ti, h => by
    simp only [findTI] at h
    split at h
    · rename_i hb
      simp at h
      subst h
      have := Nat.eq_of_beq_eq_true hb
      subst this
      simp
    · exact List.mem_cons_of_mem _ (findTI_mem h)

theorem zcell_CR {D : Nat → Prop} {h : Array Obj} {e : List ALoc} {v : Value} {c : C} (H : zcell v c = true) : CR D h e c v := by
  unfold zcell at H
  split at H <;> simp_all [CR, isCell]
  rename_i s l
  have : s = ⟨#[]⟩ := by cases s; simp_all
  rw [this]
theorem zcells_CRp {D : Nat → Prop} {h : Array Obj} {e : List ALoc} : ∀ {vs : List Value} {cs : List C}, zcells vs cs = true → CRp D h e cs vs ∧ vs.length = cs.length
  | [], [], _ => by simp [CRp]
  | v :: vs, c :: cs, H => by
    simp only [zcells, Bool.and_eq_true] at H
    have := zcells_CRp (D := D) (h := h) (e := e) H.2
    exact ⟨by simp only [CRp]; exact ⟨zcell_CR H.1, this.1⟩, by simp [this.2]⟩
  | [], c :: cs, H => by simp [zcells] at H
  | v :: vs, [], H => by simp [zcells] at H

/-- What the table says of a type. -/
structure TIok (P : Program) (t : Nat) (ti : TI) : Prop where
  info : ∃ i z, P.info? t = some i ∧ i.size = ti.size ∧ i.bytes = ti.bytes ∧ i.zero = some z ∧ zcells z.cells.toList ti.zero = true ∧ ti.zero.length = ti.size ∧ (ti.agg = true ↔ ∃ cs, z = .agg cs)
  und : ∃ d, P.underlying t = some d ∧ ti.descB d = true

theorem Pk.tiok (X : Pk) {t : Nat} {ti : TI} (h : findTI X.L t = some ti) : TIok X.P t ti := by
  have H := X.ok _ (findTI_mem h)
  simp only [TI.okB] at H
  split at H
  · rename_i i d hi hd
    simp only [Bool.and_eq_true, decide_eq_true_eq] at H
    obtain ⟨⟨⟨h1, h2⟩, h3⟩, h4⟩ := H
    split at h3
    · rename_i z hz
      simp only [Bool.and_eq_true, decide_eq_true_eq] at h3
      refine ⟨⟨i, z, hi, h1, h2, hz, h3.1.1, h3.1.2, ?_⟩, d, hd, h4⟩
      have h5 := h3.2
      split at h5
      · rename_i cs; simp [h5]
      · rename_i hn
        simp at h5
        simp [h5]
        exact hn
    · simp at h3
  · simp at H

section
variable {P : Program} {t : Nat} {ti : TI}

theorem TIok.isAgg (H : TIok P t ti) (w : World) : (isAgg t).run P w = .ok ti.agg w := by
  obtain ⟨d, hd, hb⟩ := H.und
  simp only [Go.isAgg, Sem.run_bind, run_underlying hd, Result.andThen_ok]
  cases d <;> simp_all [TI.descB]

theorem TIok.sizeOf (H : TIok P t ti) (w : World) : (sizeOf t).run P w = .ok ti.size w := by
  obtain ⟨i, z, hi, hs, _⟩ := H.info
  simp [Go.sizeOf, typeInfo, hi, hs]

theorem TIok.zeroValue (H : TIok P t ti) (w : World) : ∃ z, (zeroValue t).run P w = .ok z w ∧ zcells z.cells.toList ti.zero = true ∧ ti.zero.length = ti.size ∧ (ti.agg = true ↔ ∃ cs, z = .agg cs) := by
  obtain ⟨i, z, hi, hs, _, hz, h1, h2, h3⟩ := H.info
  exact ⟨z, by simp [Go.zeroValue, typeInfo, hi, hz], h1, h2, h3⟩

theorem TIok.zeroValue' (H : TIok P t ti) : ∃ z, (∀ w : World, (Go.zeroValue t).run P w = .ok z w) ∧ zcells z.cells.toList ti.zero = true ∧ ti.zero.length = ti.size ∧ (ti.agg = true ↔ ∃ cs, z = .agg cs) := by
  obtain ⟨i, z, hi, hs, _, hz, h1, h2, h3⟩ := H.info
  exact ⟨z, fun w => by simp [Go.zeroValue, typeInfo, hi, hz], h1, h2, h3⟩

theorem TIok.info? (H : TIok P t ti) : ∃ i, P.info? t = some i ∧ i.size = ti.size ∧ i.bytes = ti.bytes := by
  obtain ⟨i, z, hi, hs, hb, _⟩ := H.info
  exact ⟨i, hi, hs, hb⟩
end

/-! ### Computed operations -/
def constC : Value → C
  | .bool b => .bool b
  | .int k n => .int k n
  | .string s => .str s.data.toList
  | v => .v v
def allCell : List Value → Bool
  | [] => true
  | v :: vs => isCell v && allCell vs
def constT : Value → T
  | .agg cs => match allCell cs.toList with
    | true => .agg (cs.toList.map constC)
    | false => .junk
  | .tuple _ => .junk
  | v => .one (constC v)
def evalO (σ : State) : Operand → T
  | .tmp t => getρ σ.ρ t
  | .const v => constT v
  | .func f => .one (.fn f [])
  | .global _ => .junk
def nth {α : Type} : List α → Nat → Option α
  | [], _ => none
  | x :: _, 0 => some x
  | _ :: xs, n + 1 => nth xs n
theorem nth_eq {α : Type} : ∀ (l : List α) (n : Nat), nth l n = l[n]?
  | [], n => by simp [nth]
  | x :: xs, 0 => by simp [nth]
  | x :: xs, n + 1 => by simp [nth, nth_eq xs n]
/-- Cells, told in full. -/
def tellC {β : Type} (c : C) (k : C → Option β) : Option β :=
  match c with
  | .bool b => k (.bool b)
  | .int kk n => k (.int kk n)
  | .str s => k (.str s)
  | .v x => k (.v x)
  | .fs xs => k (.fs xs)
  | .fp cs => k (.fp cs)
  | .os id off len kc => k (.os id off len kc)
  | .op id i off => k (.op id i off)
  | .fn f caps => k (.fn f caps)
  | .junk => k .junk
theorem tellC_eq {β : Type} (c : C) (k : C → Option β) : tellC c k = k c := by cases c <;> rfl
def forceL {β : Type} : List C → (List C → Option β) → Option β
  | [], k => k []
  | c :: cs, k => tellC c fun c => forceL cs fun r => k (c :: r)
theorem forceL_eq {β : Type} : ∀ (cs : List C) (k : List C → Option β), forceL cs k = k cs
  | [], k => rfl
  | c :: cs, k => by simp [forceL, tellC_eq, forceL_eq cs]
/-- Values are told in full before they are put away: so that a state stays small. -/
def forceT {β : Type} (x : T) (k : T → Option β) : Option β :=
  match x with
  | .one c => match c with
    | .bool b => k (.one (.bool b))
    | .int kk n => k (.one (.int kk n))
    | .str s => k (.one (.str s))
    | .v x => k (.one (.v x))
    | .fs xs => k (.one (.fs xs))
    | .fp cs => k (.one (.fp cs))
    | .os id off len kc => k (.one (.os id off len kc))
    | .op id i off => k (.one (.op id i off))
    | .fn f caps => k (.one (.fn f caps))
    | .junk => k (.one .junk)
  | .agg cs => forceL cs fun cs => k (.agg cs)
  | .tup ts => k (.tup ts)
  | .junk => k .junk
theorem forceT_eq {β : Type} (x : T) (k : T → Option β) : forceT x k = k x := by
  cases x with
  | one c => cases c <;> rfl
  | agg cs => simp [forceT, forceL_eq]
  | tup ts => rfl
  | junk => rfl
def putT (N : Nat) (dst : Option Nat) (x : T) (σ : State) : Option State :=
  match dst with
  | none => some σ
  | some d => match Nat.blt d N with
    | true => match σ with
      | ⟨ρ, o, κ⟩ => forceT x fun x => some ⟨(d, x) :: ρ, o, κ⟩
    | false => none
/-- Objects, told in full. -/
def forceO {β : Type} : List (Option AObj) → (List (Option AObj) → Option β) → Option β
  | [], k => k []
  | x :: r, k => match x with
    | none => forceO r fun r => k (none :: r)
    | some ⟨esz, el, cl, fz, bx⟩ => forceO r fun r => k (some ⟨esz, el, cl, fz, bx⟩ :: r)
theorem forceO_eq {β : Type} : ∀ (o : List (Option AObj)) (k : List (Option AObj) → Option β), forceO o k = k o
  | [], k => rfl
  | none :: r, k => by simp [forceO, forceO_eq r]
  | some ⟨esz, el, cl, fz, bx⟩ :: r, k => by simp [forceO, forceO_eq r]
def lenK {α β : Type} : List α → Nat → (Nat → Option β) → Option β
  | [], n, k => k n
  | _ :: r, n, k => lenK r (n + 1) k
theorem lenK_eq {α β : Type} : ∀ (l : List α) (n : Nat) (k : Nat → Option β), lenK l n k = k (n + l.length)
  | [], n, k => rfl
  | x :: r, n, k => by simp [lenK, lenK_eq r, Nat.add_assoc, Nat.add_comm 1]
def snocO : List (Option AObj) → AObj → List (Option AObj)
  | [], y => [some y]
  | x :: r, y => x :: snocO r y
theorem snocO_eq : ∀ (l : List (Option AObj)) (y : AObj), snocO l y = l ++ [some y]
  | [], y => rfl
  | x :: r, y => by simp [snocO, snocO_eq r]
/-- A new object, and its number for what is put. -/
def putN (N : Nat) (dst : Option Nat) (x : Nat → T) (ob : AObj) (σ : State) : Option State :=
  match σ with
  | ⟨ρ, o, κ⟩ => lenK o 0 fun n => forceO (snocO o ob) fun o' => putT N dst (x n) ⟨ρ, o', κ⟩
theorem putN_eq (N : Nat) (dst : Option Nat) (x : Nat → T) (ob : AObj) (σ : State) : putN N dst x ob σ = putT N dst (x σ.o.length) ⟨σ.ρ, σ.o ++ [some ob], σ.k⟩ := by
  cases σ; simp [putN, lenK_eq, forceO_eq, snocO_eq]

def takeF {β : Type} : Nat → List C → (List C → Option β) → Option β
  | 0, _, k => k []
  | n + 1, c :: cs, k => takeF n cs fun r => k (c :: r)
  | _ + 1, [], _ => none
theorem takeF_eq {β : Type} : ∀ (n : Nat) (cs : List C) (k : List C → Option β), takeF n cs k = if n ≤ cs.length then k (cs.take n) else none
  | 0, cs, k => by simp [takeF]
  | n + 1, [], k => by simp [takeF]
  | n + 1, c :: cs, k => by simp [takeF, takeF_eq n cs]
def cellsT : T → Option (List C)
  | .one c => some [c]
  | .agg cs => some cs
  | _ => none
def mkT (agg : Bool) (cs : List C) : Option T :=
  match agg, cs with
  | true, cs => some (.agg cs)
  | false, [c] => some (.one c)
  | _, _ => none
def getObj? (σ : State) (id : Nat) : Option AObj :=
  match nth σ.o id with
  | some (some ob) => some ob
  | _ => none

section
variable {X : Pk} {N np : Nat} {G : Ctx} {D : Nat → Prop} {e : List ALoc} {σ σ' : State} {a : Act} {w : World}

theorem constC_CR {h : Array Obj} {v : Value} (hv : isCell v = true) : CR D h e (constC v) v := by
  cases v <;> simp_all [constC, CR, isCell]
theorem constCs {h : Array Obj} : ∀ {vs : List Value}, allCell vs = true → CRp D h e (vs.map constC) vs
  | [], _ => by simp [CRp]
  | v :: vs, H => by
    simp only [allCell, Bool.and_eq_true] at H
    simp only [List.map_cons, CRp]
    exact ⟨constC_CR H.1, constCs H.2⟩
theorem constT_TR {h : Array Obj} (v : Value) : TR D h e (constT v) v := by
  cases v <;> (try (simp only [constT, TR]; exact constC_CR rfl))
  · rename_i cs
    simp only [constT]
    split
    · rename_i hc
      simp only [TR]
      exact ⟨cs, rfl, by simp, constCs hc⟩
    · simp [TR]
  · simp [constT, TR]

theorem Rel.ev (H : Rel N np G D e σ a w) (x : Operand) : TR D w.heap e (evalO σ x) (a.eval x) := by
  cases x with
  | tmp t => exact H.tmps t
  | const v => exact constT_TR v
  | func f => simp only [evalO, TR, CR, Act.eval]; exact ⟨#[], rfl, by simp, by simp [CRp]⟩
  | global g => simp [evalO, TR]

theorem Rel.putv (H : Rel N np G D e σ a w) {dst : Option Nat} {x : T} {v : Value} (hx : TR D w.heap e x v) (hp : putT N dst x σ = some σ') : Rel N np G D e σ' (a.put dst v) w := by
  cases dst with
  | none => simp [putT] at hp; subst hp; exact H
  | some d =>
    simp only [putT] at hp
    split at hp
    · rename_i hb
      rw [forceT_eq] at hp
      simp at hp; subst hp
      exact H.put (by simpa [Nat.blt_eq] using hb) hx
    · cases hp

theorem getObj?_eq {id : Nat} {ob : AObj} (h : getObj? σ id = some ob) : σ.o[id]? = some (some ob) := by
  unfold getObj? at h
  split at h
  · rename_i ob' hn
    rw [nth_eq] at hn
    simp at h; subst h; exact hn
  · cases h

theorem cellsT_TR {h : Array Obj} {t : T} {v : Value} {cs : List C} (hc : cellsT t = some cs) (H : TR D h e t v) :
    v.cells.size = cs.length ∧ CRp D h e cs v.cells.toList ∧ ∀ x ∈ v.cells.toList, x.oneCell' = true := by
  cases t with
  | one c =>
    simp [cellsT] at hc; subst hc
    simp only [TR] at H
    have hcell := H.cell
    rw [isCell_cells hcell]
    exact ⟨by simp, by simp only [CRp]; exact ⟨H, trivial⟩, by simp; exact isCell_one hcell⟩
  | agg cs' =>
    simp [cellsT] at hc; subst hc
    simp only [TR] at H
    obtain ⟨vs, rfl, hl, hr⟩ := H
    exact ⟨hl, hr, fun x hx => isCell_one (CRp.cell (by simpa using hl) hr x hx)⟩
  | tup ts => simp [cellsT] at hc
  | junk => simp [cellsT] at hc

theorem mkT_TR {h : Array Obj} {agg : Bool} {cs : List C} {t : T} {vs : Array Value} (hm : mkT agg cs = some t) (hl : vs.size = cs.length) (H : CRp D h e cs vs.toList) :
    TR D h e t (if agg then .agg vs else vs.getD 0 undef) := by
  unfold mkT at hm
  split at hm
  · simp at hm; subst hm; simp only [TR, if_true]; exact ⟨vs, rfl, hl, H⟩
  · rename_i c
    simp at hm; subst hm
    simp only [TR, Bool.false_eq_true, if_false]
    obtain ⟨v, hv, hc⟩ := CRp.get H (j := 0) (c := c) (by simp)
    have : vs.getD 0 undef = v := by
      simp only [Array.getD_eq_getD_getElem?]
      have : vs[0]? = some v := by simpa using hv
      rw [this]; rfl
    rw [this]; exact hc
  · cases hm
end
end Go.Proofs.Ytkjbjgndinjdpaa
