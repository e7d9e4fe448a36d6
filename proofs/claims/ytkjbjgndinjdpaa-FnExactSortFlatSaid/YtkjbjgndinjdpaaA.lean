/- An abstract machine over the model: values as data, memory of the call's own as numbered objects; what relates it to the model's memory. -/
import Derived.WalkKit
set_option linter.unusedVariables false
set_option linter.unusedSimpArgs false
namespace Go.Proofs.Ytkjbjgndinjdpaa
open Go

abbrev Str := List UInt8

inductive C where
  | bool (b : Bool)
  | int (k : IntKind) (n : Int)
  | str (s : Str)
  | v (x : Value)
  | fs (xs : List (List C))
  | fp (cs : List C)
  | os (id off len kc : Nat)
  | op (id i off : Nat)
  | fn (f : FuncId) (cap : List C)
  | junk

inductive T where
  | one (c : C)
  | agg (cs : List C)
  | tup (ts : List T)
  | junk

inductive ALoc where
  | dead
  | live (a : Option Addr) (esz cap n : Nat)

structure AObj where
  esz : Nat
  elems : List (List C)
  clean : Bool := false
  fz : Bool := false
  box : Bool := false

structure State where
  ρ : List (Nat × T)
  o : List (Option AObj)
  k : List Nat := []

def isCell : Value → Bool
  | .agg _ | .tuple _ => false
  | _ => true

def nilSl : C := .v (.slice none 0 0)

mutual
def CR (D : Nat → Prop) (h : Array Obj) : List ALoc → C → Value → Prop
  | _, .bool b, y => y = .bool b
  | _, .int k n, y => y = .int k n
  | _, .str s, y => y = .string ⟨s.toArray⟩
  | _, .v x, y => y = x ∧ isCell x = true
  | _, .fs xs, y => ∃ A c, y = .slice A xs.length c ∧ xs.length ≤ c ∧ (xs = [] ∨ ∃ a cells t fr esz, A = some a ∧ a.spot = none ∧ D a.block ∧
      h[a.block]? = some (.cells cells t fr) ∧ CRr D h [] esz xs (cells.toList.drop a.off))
  | _, .fp cs, y => ∃ a cells t fr, y = .pointer (some a) ∧ a.spot = none ∧ D a.block ∧ h[a.block]? = some (.cells cells t fr) ∧
      CRp D h [] cs (cells.toList.drop a.off)
  | e, .os id off len kc, y => match e[id]? with
    | none => False
    | some .dead => isCell y = true
    | some (.live a esz cap n) => ∃ A c, y = .slice A len c ∧ len ≤ kc ∧ kc ≤ c ∧ off + len ≤ n ∧
        (c = 0 ∨ ∃ b, a = some b ∧ A = some ⟨b.block, b.off + off * esz, none⟩ ∧ off + c ≤ cap)
  | e, .op id i off, y => match e[id]? with
    | none => False
    | some .dead => isCell y = true
    | some (.live a esz _ _) => ∃ b, a = some b ∧ y = .pointer (some ⟨b.block, b.off + i * esz + off, none⟩)
  | e, .fn f caps, y => ∃ vs, y = .func (.func f) #[] vs ∧ vs.size = caps.length ∧ CRp D h e caps vs.toList
  | _, .junk, y => isCell y = true
def CRp (D : Nat → Prop) (h : Array Obj) : List ALoc → List C → List Value → Prop
  | _, [], _ => True
  | _, _ :: _, [] => False
  | e, c :: cs, v :: vs => CR D h e c v ∧ CRp D h e cs vs
def CRr (D : Nat → Prop) (h : Array Obj) : List ALoc → Nat → List (List C) → List Value → Prop
  | _, _, [], _ => True
  | e, esz, r :: rs, vs => r.length = esz ∧ CRp D h e r vs ∧ CRr D h e esz rs (vs.drop esz)
end

mutual
def TR (D : Nat → Prop) (h : Array Obj) (e : List ALoc) : T → Value → Prop
  | .one c, y => CR D h e c y
  | .agg cs, y => ∃ vs, y = .agg vs ∧ vs.size = cs.length ∧ CRp D h e cs vs.toList
  | .tup ts, y => ∃ vs, y = .tuple vs ∧ TRs D h e ts vs.toList
  | .junk, _ => True
def TRs (D : Nat → Prop) (h : Array Obj) (e : List ALoc) : List T → List Value → Prop
  | [], vs => vs = []
  | t :: ts, vs => ∃ x r, vs = x :: r ∧ TR D h e t x ∧ TRs D h e ts r
end

/-! ### What stays true when the world grows -/

def Fixes (D D' : Nat → Prop) (h h' : Array Obj) : Prop := ∀ b, D b → D' b ∧ h'[b]? = h[b]?
def Leads (e e' : List ALoc) : Prop := ∀ (id : Nat) (l : ALoc), e[id]? = some l → e'[id]? = some l ∨ e'[id]? = some .dead

theorem Leads.refl (e : List ALoc) : Leads e e := fun _ _ h => .inl h
theorem Leads.nil (e : List ALoc) : Leads [] e := fun _ _ h => by simp at h
theorem Fixes.refl (D : Nat → Prop) (h : Array Obj) : Fixes D D h h := fun _ hb => ⟨hb, rfl⟩
theorem Fixes.trans {D D' D'' : Nat → Prop} {h h' h'' : Array Obj} (x : Fixes D D' h h') (y : Fixes D' D'' h' h'') : Fixes D D'' h h'' :=
  fun b hb => ⟨(y b (x b hb).1).1, (y b (x b hb).1).2.trans (x b hb).2⟩
theorem Leads.trans {e e' e'' : List ALoc} (x : Leads e e') (y : Leads e' e'') : Leads e e'' := fun id l hl => by
  rcases x id l hl with h | h
  · exact y id l h
  · rcases y id _ h with h' | h' <;> exact .inr h'

mutual
theorem CR.mono {D D' : Nat → Prop} {h h' : Array Obj} (hb : Fixes D D' h h') : ∀ (e e' : List ALoc), Leads e e' → ∀ (c : C) (y : Value), CR D h e c y → CR D' h' e' c y
  | e, e', he, .bool b, y, H => by simpa [CR] using H
  | e, e', he, .int k n, y, H => by simpa [CR] using H
  | e, e', he, .str s, y, H => by simpa [CR] using H
  | e, e', he, .v x, y, H => by simpa [CR] using H
  | e, e', he, .fs xs, y, H => by
    simp only [CR] at H ⊢
    obtain ⟨A, c, hy, hl, hx⟩ := H
    refine ⟨A, c, hy, hl, ?_⟩
    rcases hx with hx | ⟨a, cells, t, fr, esz, hA, hs, hD, hh, hr⟩
    · exact .inl hx
    · exact .inr ⟨a, cells, t, fr, esz, hA, hs, (hb _ hD).1, by rw [(hb _ hD).2]; exact hh, CRr.mono hb [] [] (Leads.refl _) esz xs _ hr⟩
  | e, e', he, .fp cs, y, H => by
    simp only [CR] at H ⊢
    obtain ⟨a, cells, t, fr, hy, hs, hD, hh, hr⟩ := H
    exact ⟨a, cells, t, fr, hy, hs, (hb _ hD).1, by rw [(hb _ hD).2]; exact hh, CRp.mono hb [] [] (Leads.refl _) cs _ hr⟩
  | e, e', he, .os id off len kc, y, H => by
    simp only [CR] at H ⊢
    cases hi : e[id]? with
    | none => rw [hi] at H; exact H.elim
    | some l =>
      rw [hi] at H
      rcases he id l hi with h' | h'
      · rw [h']; exact H
      · rw [h']
        cases l with
        | dead => exact H
        | live a esz cap n => obtain ⟨A, c, rfl, _⟩ := H; rfl
  | e, e', he, .op id i off, y, H => by
    simp only [CR] at H ⊢
    cases hi : e[id]? with
    | none => rw [hi] at H; exact H.elim
    | some l =>
      rw [hi] at H
      rcases he id l hi with h' | h'
      · rw [h']; exact H
      · rw [h']
        cases l with
        | dead => exact H
        | live a esz cap n => obtain ⟨b, _, rfl⟩ := H; rfl
  | e, e', he, .fn f caps, y, H => by
    simp only [CR] at H ⊢
    obtain ⟨vs, hy, hl, hr⟩ := H
    exact ⟨vs, hy, hl, CRp.mono hb e e' he caps _ hr⟩
  | e, e', he, .junk, y, H => by simpa [CR] using H
theorem CRp.mono {D D' : Nat → Prop} {h h' : Array Obj} (hb : Fixes D D' h h') : ∀ (e e' : List ALoc), Leads e e' → ∀ (cs : List C) (vs : List Value), CRp D h e cs vs → CRp D' h' e' cs vs
  | e, e', he, [], vs, H => by simp [CRp]
  | e, e', he, c :: cs, [], H => by simp [CRp] at H
  | e, e', he, c :: cs, v :: vs, H => by
    simp only [CRp] at H ⊢
    exact ⟨CR.mono hb e e' he c v H.1, CRp.mono hb e e' he cs vs H.2⟩
theorem CRr.mono {D D' : Nat → Prop} {h h' : Array Obj} (hb : Fixes D D' h h') : ∀ (e e' : List ALoc), Leads e e' → ∀ (esz : Nat) (rs : List (List C)) (vs : List Value), CRr D h e esz rs vs → CRr D' h' e' esz rs vs
  | e, e', he, esz, [], vs, H => by simp [CRr]
  | e, e', he, esz, r :: rs, vs, H => by
    simp only [CRr] at H ⊢
    exact ⟨H.1, CRp.mono hb e e' he r vs H.2.1, CRr.mono hb e e' he esz rs _ H.2.2⟩
end

mutual
theorem TR.mono {D D' : Nat → Prop} {h h' : Array Obj} {e e' : List ALoc} (hb : Fixes D D' h h') (he : Leads e e') : ∀ (t : T) (y : Value), TR D h e t y → TR D' h' e' t y
  | .one c, y, H => by simp only [TR] at H ⊢; exact CR.mono hb e e' he c y H
  | .agg cs, y, H => by
    simp only [TR] at H ⊢
    obtain ⟨vs, hy, hl, hr⟩ := H
    exact ⟨vs, hy, hl, CRp.mono hb e e' he cs _ hr⟩
  | .tup ts, y, H => by
    simp only [TR] at H ⊢
    obtain ⟨vs, hy, hr⟩ := H
    exact ⟨vs, hy, TRs.mono hb he ts _ hr⟩
  | .junk, y, H => by simp [TR]
theorem TRs.mono {D D' : Nat → Prop} {h h' : Array Obj} {e e' : List ALoc} (hb : Fixes D D' h h') (he : Leads e e') : ∀ (ts : List T) (vs : List Value), TRs D h e ts vs → TRs D' h' e' ts vs
  | [], vs, H => by simpa [TRs] using H
  | t :: ts, vs, H => by
    simp only [TRs] at H ⊢
    obtain ⟨x, r, hv, ht, hr⟩ := H
    exact ⟨x, r, hv, TR.mono hb he t x ht, TRs.mono hb he ts r hr⟩
end

/-! ### Rows of cells, small facts -/

section
variable {D : Nat → Prop} {h : Array Obj} {e : List ALoc}

theorem CRp.len : ∀ {cs : List C} {vs : List Value}, CRp D h e cs vs → cs.length ≤ vs.length
  | [], _, _ => by simp
  | _ :: _, [], H => by simp [CRp] at H
  | c :: cs, v :: vs, H => by simp only [CRp] at H; have := CRp.len H.2; simp; omega

theorem CRp.app : ∀ {a b : List C} {vs : List Value}, CRp D h e (a ++ b) vs ↔ CRp D h e a vs ∧ CRp D h e b (vs.drop a.length)
  | [], b, vs => by simp [CRp]
  | c :: a, b, [] => by simp [CRp]
  | c :: a, b, v :: vs => by simp only [List.cons_append, CRp, List.length_cons, List.drop_succ_cons, CRp.app (a := a), and_assoc]

theorem CRp.drop {cs : List C} {vs : List Value} (n : Nat) (H : CRp D h e cs vs) : CRp D h e (cs.drop n) (vs.drop n) := by
  by_cases hn : n ≤ cs.length
  · rw [← List.take_append_drop n cs, CRp.app] at H
    have := H.2
    rwa [List.length_take, Nat.min_eq_left hn] at this
  · rw [List.drop_eq_nil_of_le (by omega)]; simp [CRp]

theorem CRp.take {cs : List C} {vs : List Value} (n : Nat) (H : CRp D h e cs vs) : CRp D h e (cs.take n) vs := by
  rw [← List.take_append_drop n cs, CRp.app] at H
  exact H.1

theorem CRp.take' : ∀ {cs : List C} {vs : List Value} {n : Nat}, cs.length ≤ n → CRp D h e cs vs → CRp D h e cs (vs.take n)
  | [], _, _, _, _ => by simp [CRp]
  | _ :: _, [], _, _, H => by simp [CRp] at H
  | c :: cs, v :: vs, 0, hn, _ => by simp at hn
  | c :: cs, v :: vs, n + 1, hn, H => by
    simp only [CRp, List.take_succ_cons] at H ⊢
    exact ⟨H.1, CRp.take' (by simpa using hn) H.2⟩

theorem CRp.more : ∀ {cs : List C} {vs r : List Value}, CRp D h e cs vs → CRp D h e cs (vs ++ r)
  | [], _, _, _ => by simp [CRp]
  | _ :: _, [], _, H => by simp [CRp] at H
  | c :: cs, v :: vs, r, H => by simp only [CRp, List.cons_append] at H ⊢; exact ⟨H.1, CRp.more H.2⟩

theorem CRp.get : ∀ {cs : List C} {vs : List Value} {j : Nat} {c : C}, CRp D h e cs vs → cs[j]? = some c → ∃ v, vs[j]? = some v ∧ CR D h e c v
  | [], _, _, _, _, hj => by simp at hj
  | _ :: _, [], _, _, H, _ => by simp [CRp] at H
  | c :: cs, v :: vs, 0, c', H, hj => by simp at hj; subst hj; simp only [CRp] at H; exact ⟨v, by simp, H.1⟩
  | c :: cs, v :: vs, j + 1, c', H, hj => by simp only [CRp] at H; simpa using CRp.get H.2 (by simpa using hj)

theorem CRr.lens : ∀ {esz : Nat} {rs : List (List C)} {vs : List Value}, CRr D h e esz rs vs → ∀ r ∈ rs, r.length = esz
  | _, [], _, _, r, hr => by simp at hr
  | esz, q :: rs, vs, H, r, hr => by
    simp only [CRr] at H
    rcases List.mem_cons.1 hr with rfl | hr
    · exact H.1
    · exact CRr.lens H.2.2 r hr

theorem CRr.get : ∀ {esz : Nat} {rs : List (List C)} {vs : List Value} {i : Nat} {r : List C}, CRr D h e esz rs vs → rs[i]? = some r → r.length = esz ∧ CRp D h e r (vs.drop (i * esz))
  | _, [], _, _, _, _, hi => by simp at hi
  | esz, q :: rs, vs, 0, r, H, hi => by simp at hi; subst hi; simp only [CRr] at H; simpa using ⟨H.1, H.2.1⟩
  | esz, q :: rs, vs, i + 1, r, H, hi => by
    simp only [CRr] at H
    have := CRr.get H.2.2 (i := i) (by simpa using hi)
    rw [List.drop_drop] at this
    rw [Nat.succ_mul, Nat.add_comm]; exact this

theorem CRr.drop : ∀ {esz : Nat} {rs : List (List C)} {vs : List Value} (n : Nat), CRr D h e esz rs vs → CRr D h e esz (rs.drop n) (vs.drop (n * esz))
  | _, _, _, 0, H => by simpa using H
  | _, [], _, n + 1, _ => by simp [CRr]
  | esz, q :: rs, vs, n + 1, H => by
    simp only [CRr] at H
    have := CRr.drop n H.2.2
    rw [List.drop_drop] at this
    rw [List.drop_succ_cons, Nat.succ_mul, Nat.add_comm]; exact this

theorem CRr.take : ∀ {esz : Nat} {rs : List (List C)} {vs : List Value} (n : Nat), CRr D h e esz rs vs → CRr D h e esz (rs.take n) vs
  | _, _, _, 0, _ => by simp [CRr]
  | _, [], _, _ + 1, _ => by simp [CRr]
  | esz, q :: rs, vs, n + 1, H => by
    simp only [CRr, List.take_succ_cons] at H ⊢
    exact ⟨H.1, H.2.1, CRr.take n H.2.2⟩

theorem CRr.app : ∀ {esz : Nat} {a b : List (List C)} {vs : List Value}, CRr D h e esz (a ++ b) vs ↔ CRr D h e esz a vs ∧ CRr D h e esz b (vs.drop (a.length * esz))
  | _, [], b, vs => by simp [CRr]
  | esz, q :: a, b, vs => by
    simp only [List.cons_append, CRr, List.length_cons, CRr.app (a := a), and_assoc, List.drop_drop, Nat.succ_mul, Nat.add_comm]

theorem CRr.len : ∀ {esz : Nat} {rs : List (List C)} {vs : List Value}, CRr D h e esz rs vs → rs.length * esz ≤ vs.length ∨ rs = []
  | _, [], _, _ => .inr rfl
  | esz, q :: rs, vs, H => by
    simp only [CRr] at H
    refine .inl ?_
    have h1 := CRp.len H.2.1
    rcases CRr.len H.2.2 with h2 | h2
    · simp only [List.length_drop] at h2
      simp only [List.length_cons, Nat.succ_mul]; omega
    · subst h2; simp; omega

theorem CRr.more : ∀ {esz : Nat} {rs : List (List C)} {vs r : List Value}, CRr D h e esz rs vs → CRr D h e esz rs (vs ++ r)
  | _, [], _, _, _ => by simp [CRr]
  | esz, q :: rs, vs, r, H => by
    simp only [CRr] at H ⊢
    refine ⟨H.1, CRp.more H.2.1, ?_⟩
    have hl := CRp.len H.2.1
    rw [List.drop_append_of_le_length (by omega)]
    exact CRr.more H.2.2

/-- Only the cells that the rows cover matter. -/
theorem CRp.congr : ∀ {cs : List C} {vs vs' : List Value}, (∀ j, j < cs.length → vs'[j]? = vs[j]?) → CRp D h e cs vs → CRp D h e cs vs'
  | [], _, _, _, _ => by simp [CRp]
  | _ :: _, [], _, _, H => by simp [CRp] at H
  | c :: cs, v :: vs, [], hj, H => by have := hj 0 (by simp); simp at this
  | c :: cs, v :: vs, v' :: vs', hj, H => by
    simp only [CRp] at H ⊢
    have h0 := hj 0 (by simp)
    simp at h0
    subst h0
    exact ⟨H.1, CRp.congr (fun j hl => by simpa using hj (j + 1) (by simpa using hl)) H.2⟩

theorem CRr.congr : ∀ {esz : Nat} {rs : List (List C)} {vs vs' : List Value}, (∀ j, j < rs.length * esz → vs'[j]? = vs[j]?) → CRr D h e esz rs vs → CRr D h e esz rs vs'
  | _, [], _, _, _, _ => by simp [CRr]
  | esz, q :: rs, vs, vs', hj, H => by
    simp only [CRr] at H ⊢
    refine ⟨H.1, CRp.congr (fun j hl => hj j (by simp only [List.length_cons, Nat.succ_mul]; omega)) H.2.1, CRr.congr (fun j hl => ?_) H.2.2⟩
    simp only [List.getElem?_drop]
    exact hj _ (by simp only [List.length_cons, Nat.succ_mul]; omega)

theorem CR.cell {c : C} {y : Value} (H : CR D h e c y) : isCell y = true := by
  cases c with
  | bool b => simp only [CR] at H; subst H; rfl
  | int k n => simp only [CR] at H; subst H; rfl
  | str s => simp only [CR] at H; subst H; rfl
  | v x => simp only [CR] at H; obtain ⟨rfl, hx⟩ := H; exact hx
  | fs xs => simp only [CR] at H; obtain ⟨A, c, rfl, _⟩ := H; rfl
  | fp cs => simp only [CR] at H; obtain ⟨a, _, _, _, rfl, _⟩ := H; rfl
  | os id off len kc =>
    simp only [CR] at H
    split at H
    · exact H.elim
    · exact H
    · obtain ⟨A, c, rfl, _⟩ := H; rfl
  | op id i off =>
    simp only [CR] at H
    split at H
    · exact H.elim
    · exact H
    · obtain ⟨b, _, rfl⟩ := H; rfl
  | fn f caps => simp only [CR] at H; obtain ⟨vs, rfl, _⟩ := H; rfl
  | junk => simpa [CR] using H
theorem CRp.cell : ∀ {cs : List C} {vs : List Value}, vs.length = cs.length → CRp D h e cs vs → ∀ v ∈ vs, isCell v = true
  | [], [], _, _, v, hv => by simp at hv
  | c :: cs, v :: vs, hl, H, x, hx => by
    simp only [CRp] at H
    rcases List.mem_cons.1 hx with rfl | hx
    · exact H.1.cell
    · exact CRp.cell (by simpa using hl) H.2 x hx
  | [], v :: vs, hl, _, _, _ => by simp at hl
  | c :: cs, [], hl, _, _, _ => by simp at hl
theorem isCell_one {v : Value} (h : isCell v = true) : v.oneCell' = true := by cases v <;> simp_all [isCell, Value.oneCell']
theorem isCell_cells {v : Value} (h : isCell v = true) : v.cells = #[v] := by cases v <;> simp_all [isCell, Value.cells]
end
end Go.Proofs.Ytkjbjgndinjdpaa
