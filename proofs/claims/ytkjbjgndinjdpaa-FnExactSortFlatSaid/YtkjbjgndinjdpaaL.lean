/- Calls inside a body. -/
import Derived.Test.YtkjbjgndinjdpaaK
set_option linter.unusedVariables false
set_option linter.unusedSimpArgs false
namespace Go.Proofs.Ytkjbjgndinjdpaa
open Go

mutual
def renC (rn : Nat → Nat) : C → C
  | .os id off len kc => .os (rn id) off len kc
  | .op id i off => .op (rn id) i off
  | .fn f caps => .fn f (renL rn caps)
  | .bool b => .bool b
  | .int k n => .int k n
  | .str s => .str s
  | .v x => .v x
  | .fs xs => .fs xs
  | .fp cs => .fp cs
  | .junk => .junk
def renL (rn : Nat → Nat) : List C → List C
  | [] => []
  | c :: cs => renC rn c :: renL rn cs
end
def renR (rn : Nat → Nat) : List (List C) → List (List C)
  | [] => []
  | r :: rs => renL rn r :: renR rn rs
mutual
def renT (rn : Nat → Nat) : T → T
  | .one c => .one (renC rn c)
  | .agg cs => .agg (renL rn cs)
  | .tup ts => .tup (renTs rn ts)
  | .junk => .junk
def renTs (rn : Nat → Nat) : List T → List T
  | [] => []
  | t :: ts => renT rn t :: renTs rn ts
end
def renO (rn : Nat → Nat) : Option AObj → Option AObj
  | some ⟨esz, elems, true, fz, box⟩ => some ⟨esz, elems, true, fz, box⟩
  | some ⟨esz, elems, false, fz, box⟩ => some ⟨esz, renR rn elems, false, fz, box⟩
  | none => none

section
variable {D : Nat → Prop} {h : Array Obj} {e e1 : List ALoc} {rn : Nat → Nat}
theorem renL_length : ∀ cs, (renL rn cs).length = cs.length
  | [] => rfl
  | c :: cs => by simp [renL, renL_length cs]
theorem renR_length : ∀ cs, (renR rn cs).length = cs.length
  | [] => rfl
  | c :: cs => by simp [renR, renR_length cs]
mutual
theorem renC_spec (hm : ∀ (id : Nat) (l : ALoc), e[id]? = some l → e1[rn id]? = some l) : ∀ (c : C) (y : Value), CR D h e c y → CR D h e1 (renC rn c) y
  | .os id off len kc, y, hc => by
    simp only [renC, CR] at hc ⊢
    cases he : e[id]? with
    | none => rw [he] at hc; exact hc.elim
    | some l => rw [he] at hc; rw [hm id l he]; exact hc
  | .op id i off, y, hc => by
    simp only [renC, CR] at hc ⊢
    cases he : e[id]? with
    | none => rw [he] at hc; exact hc.elim
    | some l => rw [he] at hc; rw [hm id l he]; exact hc
  | .fn f caps, y, hc => by
    simp only [renC, CR] at hc ⊢
    obtain ⟨vs, hy, hl, hr⟩ := hc
    exact ⟨vs, hy, by rw [renL_length]; exact hl, renL_spec hm caps _ hr⟩
  | .bool b, y, hc => by simpa only [renC, CR] using hc
  | .int k m, y, hc => by simpa only [renC, CR] using hc
  | .str s, y, hc => by simpa only [renC, CR] using hc
  | .v x, y, hc => by simpa only [renC, CR] using hc
  | .fs xs, y, hc => by simpa only [renC, CR] using hc
  | .fp cs, y, hc => by simpa only [renC, CR] using hc
  | .junk, y, hc => by simpa only [renC, CR] using hc
theorem renL_spec (hm : ∀ (id : Nat) (l : ALoc), e[id]? = some l → e1[rn id]? = some l) : ∀ (cs : List C) (vs : List Value), CRp D h e cs vs → CRp D h e1 (renL rn cs) vs
  | [], vs, hc => by simp [renL, CRp]
  | c :: cs, [], hc => by simp [CRp] at hc
  | c :: cs, v :: vs, hc => by
    simp only [renL, CRp] at hc ⊢
    exact ⟨renC_spec hm c v hc.1, renL_spec hm cs vs hc.2⟩
end
theorem renR_spec (hm : ∀ (id : Nat) (l : ALoc), e[id]? = some l → e1[rn id]? = some l) (esz : Nat) : ∀ (rs : List (List C)) (vs : List Value), CRr D h e esz rs vs → CRr D h e1 esz (renR rn rs) vs
  | [], vs, hc => by simp [renR, CRr]
  | r :: rs, vs, hc => by
    simp only [renR, CRr] at hc ⊢
    exact ⟨by rw [renL_length]; exact hc.1, renL_spec hm r vs hc.2.1, renR_spec hm esz rs _ hc.2.2⟩
mutual
theorem renT_spec (hm : ∀ (id : Nat) (l : ALoc), e[id]? = some l → e1[rn id]? = some l) : ∀ (t : T) (y : Value), TR D h e t y → TR D h e1 (renT rn t) y
  | .one c, y, hc => by simp only [renT, TR] at hc ⊢; exact renC_spec hm c y hc
  | .agg cs, y, hc => by
    simp only [renT, TR] at hc ⊢
    obtain ⟨vs, hy, hl, hr⟩ := hc
    exact ⟨vs, hy, by rw [renL_length]; exact hl, renL_spec hm cs _ hr⟩
  | .tup ts, y, hc => by
    simp only [renT, TR] at hc ⊢
    obtain ⟨vs, hy, hr⟩ := hc
    exact ⟨vs, hy, renTs_spec hm ts _ hr⟩
  | .junk, y, hc => by simp [renT, TR]
theorem renTs_spec (hm : ∀ (id : Nat) (l : ALoc), e[id]? = some l → e1[rn id]? = some l) : ∀ (ts : List T) (vs : List Value), TRs D h e ts vs → TRs D h e1 (renTs rn ts) vs
  | [], vs, hc => by simpa [renTs, TRs] using hc
  | t :: ts, vs, hc => by
    simp only [renTs, TRs] at hc ⊢
    obtain ⟨x, r, rfl, h1, h2⟩ := hc
    exact ⟨x, r, rfl, renT_spec hm t x h1, renTs_spec hm ts r h2⟩
end
end

def rnOf (js : List Nat) (n : Nat) (i : Nat) : Nat := match nth js i with
  | some id => id
  | none => n + (i - js.length)
/-- The caller's objects behind the call. -/
def updJs (rn : Nat → Nat) : List (Option AObj) → List Nat → List (Option AObj) → List (Option AObj)
  | o, [], _ => o
  | o, id :: js, x :: o' => updJs rn (setNth o id (renO rn x)) js o'
  | o, _ :: _, [] => o
def mapO (rn : Nat → Nat) : List (Option AObj) → List (Option AObj)
  | [] => []
  | x :: r => renO rn x :: mapO rn r
def dropN {α : Type} : Nat → List α → List α
  | 0, l => l
  | _ + 1, [] => []
  | n + 1, _ :: l => dropN n l
theorem dropN_eq {α : Type} : ∀ (n : Nat) (l : List α), dropN n l = l.drop n
  | 0, l => rfl
  | n + 1, [] => by simp [dropN]
  | n + 1, x :: l => by simp [dropN, dropN_eq n l]
theorem mapO_get (rn : Nat → Nat) : ∀ (l : List (Option AObj)) (j : Nat), (mapO rn l)[j]? = (l[j]?).map (renO rn)
  | [], j => by simp [mapO]
  | x :: r, 0 => by simp [mapO]
  | x :: r, j + 1 => by simp [mapO, mapO_get rn r j]
theorem mapO_length (rn : Nat → Nat) : ∀ (l : List (Option AObj)), (mapO rn l).length = l.length
  | [] => rfl
  | x :: r => by simp [mapO, mapO_length rn r]
theorem updJs_length (rn : Nat → Nat) : ∀ (js : List Nat) (o o' : List (Option AObj)), (updJs rn o js o').length = o.length
  | [], o, o' => by simp [updJs]
  | id :: js, o, x :: o' => by simp [updJs, updJs_length rn js, setNth_eq]
  | id :: js, o, [] => by simp [updJs]
theorem updJs_get (rn : Nat → Nat) : ∀ (js : List Nat) (o o' : List (Option AObj)) (id : Nat), js.Nodup → js.length ≤ o'.length →
    (updJs rn o js o')[id]? = match idxOf js id 0 with
      | some j => if id < o.length then (o'[j]?).map (renO rn) else none
      | none => o[id]?
  | [], o, o', id, _, _ => by simp [updJs, idxOf]
  | k :: js, o, x :: o', id, hnd, hl => by
    have hnd' := List.nodup_cons.1 hnd
    simp only [updJs, setNth_eq]
    rw [updJs_get rn js _ o' id hnd'.2 (by simpa using hl)]
    simp only [idxOf]
    have shift : ∀ (l : List Nat) (m : Nat), idxOf l id (m + 1) = (idxOf l id m).map (· + 1) := by
      intro l
      induction l with
      | nil => intro m; simp [idxOf]
      | cons y l ih => intro m; simp only [idxOf]; split <;> simp [ih]
    cases hb : Nat.beq k id with
    | true =>
      have := Nat.eq_of_beq_eq_true hb
      subst this
      have hnone : idxOf js k 0 = none := by
        cases hi : idxOf js k 0 with
        | none => rfl
        | some j =>
          have := (idxOf_spec hi).2
          exact absurd (List.mem_of_getElem? this) hnd'.1
      rw [hnone]
      simp only [List.getElem?_set]
      by_cases hlt : k < o.length <;> simp [hlt]
    | false =>
      rw [shift js 0]
      have hne : k ≠ id := fun h0 => by subst h0; rw [Nat.beq_refl] at hb; cases hb
      cases hi : idxOf js id 0 with
      | none => simp [List.getElem?_set, hne]
      | some j => simp
  | k :: js, o, [], id, _, hl => by simp at hl
end Go.Proofs.Ytkjbjgndinjdpaa
