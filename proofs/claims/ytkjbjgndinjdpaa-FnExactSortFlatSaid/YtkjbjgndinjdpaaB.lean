/- The abstract machine's state against the model's: what the relation says, and how it is kept by the steps. -/
import Derived.Test.YtkjbjgndinjdpaaA
set_option linter.unusedVariables false
set_option linter.unusedSimpArgs false
namespace Go.Proofs.Ytkjbjgndinjdpaa
open Go

/-! ### Own references, frozen data -/
mutual
def noOwn : C → Bool
  | .os .. | .op .. => false
  | .fn _ caps => noOwnL caps
  | _ => true
def noOwnL : List C → Bool
  | [] => true
  | c :: cs => noOwn c && noOwnL cs
end
def noOwnR : List (List C) → Bool
  | [] => true
  | r :: rs => noOwnL r && noOwnR rs
mutual
def noOwnT : T → Bool
  | .one c => noOwn c
  | .agg cs => noOwnL cs
  | .tup ts => noOwnTs ts
  | .junk => true
def noOwnTs : List T → Bool
  | [] => true
  | t :: ts => noOwnT t && noOwnTs ts
end

section
variable {D : Nat → Prop} {h : Array Obj}
mutual
theorem CR.env (e e' : List ALoc) : ∀ (c : C) (y : Value), noOwn c = true → CR D h e c y → CR D h e' c y
  | .bool b, y, _, H => by simpa [CR] using H
  | .int k n, y, _, H => by simpa [CR] using H
  | .str s, y, _, H => by simpa [CR] using H
  | .v x, y, _, H => by simpa [CR] using H
  | .fs xs, y, _, H => by simp only [CR] at H ⊢; exact H
  | .fp cs, y, _, H => by simp only [CR] at H ⊢; exact H
  | .os id off len kc, y, hn, H => by simp [noOwn] at hn
  | .op id i off, y, hn, H => by simp [noOwn] at hn
  | .fn f caps, y, hn, H => by
    simp only [CR, noOwn] at H hn ⊢
    obtain ⟨vs, hy, hl, hr⟩ := H
    exact ⟨vs, hy, hl, CRp.env e e' caps _ hn hr⟩
  | .junk, y, _, H => by simpa [CR] using H
theorem CRp.env (e e' : List ALoc) : ∀ (cs : List C) (vs : List Value), noOwnL cs = true → CRp D h e cs vs → CRp D h e' cs vs
  | [], vs, _, H => by simp [CRp]
  | c :: cs, [], _, H => by simp [CRp] at H
  | c :: cs, v :: vs, hn, H => by
    simp only [CRp, noOwnL, Bool.and_eq_true] at H hn ⊢
    exact ⟨CR.env e e' c v hn.1 H.1, CRp.env e e' cs vs hn.2 H.2⟩
end
theorem CRr.env (e e' : List ALoc) (esz : Nat) : ∀ (rs : List (List C)) (vs : List Value), noOwnR rs = true → CRr D h e esz rs vs → CRr D h e' esz rs vs
  | [], vs, _, H => by simp [CRr]
  | r :: rs, vs, hn, H => by
    simp only [CRr, noOwnR, Bool.and_eq_true] at H hn ⊢
    exact ⟨H.1, CRp.env e e' r vs hn.1 H.2.1, CRr.env e e' esz rs _ hn.2 H.2.2⟩
mutual
theorem TR.env (e e' : List ALoc) : ∀ (t : T) (y : Value), noOwnT t = true → TR D h e t y → TR D h e' t y
  | .one c, y, hn, H => by simp only [TR, noOwnT] at H hn ⊢; exact CR.env e e' c y hn H
  | .agg cs, y, hn, H => by
    simp only [TR, noOwnT] at H hn ⊢
    obtain ⟨vs, hy, hl, hr⟩ := H
    exact ⟨vs, hy, hl, CRp.env e e' cs _ hn hr⟩
  | .tup ts, y, hn, H => by
    simp only [TR, noOwnT] at H hn ⊢
    obtain ⟨vs, hy, hr⟩ := H
    exact ⟨vs, hy, TRs.env e e' ts _ hn hr⟩
  | .junk, y, _, H => by simp [TR]
theorem TRs.env (e e' : List ALoc) : ∀ (ts : List T) (vs : List Value), noOwnTs ts = true → TRs D h e ts vs → TRs D h e' ts vs
  | [], vs, _, H => by simpa [TRs] using H
  | t :: ts, vs, hn, H => by
    simp only [TRs, noOwnTs, Bool.and_eq_true] at H hn ⊢
    obtain ⟨x, r, hv, ht, hr⟩ := H
    exact ⟨x, r, hv, TR.env e e' t x hn.1 ht, TRs.env e e' ts r hn.2 hr⟩
end
end

/-! ### The store -/
def ObjR (D : Nat → Prop) (h : Array Obj) (e : List ALoc) (ob : AObj) (a : Option Addr) (cap n : Nat) : Prop :=
  n = ob.elems.length ∧ (ob.clean = true → noOwnR ob.elems = true) ∧
  match a with
  | none => ob.elems = [] ∧ cap = 0
  | some b => b.spot = none ∧ (ob.fz = true → D b.block) ∧ ∃ cells t, h[b.block]? = some (.cells cells t (0, 0)) ∧ n ≤ cap ∧
      b.off + cap * ob.esz ≤ cells.size ∧ CRr D h e ob.esz ob.elems (cells.toList.drop b.off)

structure SR (D : Nat → Prop) (h : Array Obj) (e : List ALoc) (o : List (Option AObj)) : Prop where
  len : e.length = o.length
  objs : ∀ (id : Nat) (ob : AObj), o[id]? = some (some ob) → ∃ a cap n, e[id]? = some (.live a ob.esz cap n) ∧ ObjR D h e ob a cap n
  own : ∀ (id : Nat) (b : Addr) (esz cap n : Nat), e[id]? = some (.live (some b) esz cap n) → b.block < h.size ∧ (D b.block → ∃ ob, o[id]? = some (some ob) ∧ ob.fz = true)
  sep : ∀ (id id' : Nat) (b b' : Addr) (esz cap n esz' cap' n' : Nat), e[id]? = some (.live (some b) esz cap n) → e[id']? = some (.live (some b') esz' cap' n') → b.block = b'.block → id = id'
  dom : ∀ b, D b → b < h.size

/-- The blocks that the passed objects lie in. -/
def Wof (e : List ALoc) (b : Nat) : Prop := ∃ (id : Nat) (a : Addr) (esz cap n : Nat), e[id]? = some (.live (some a) esz cap n) ∧ a.block = b

structure Ext (w0 : World) (W : Nat → Prop) (w : World) : Prop where
  os : w.os = w0.os
  tape : w.tape = w0.tape
  output : w.output = w0.output
  size : w0.heap.size ≤ w.heap.size
  block : ∀ b, b < w0.heap.size → ¬ W b → w.heap[b]? = w0.heap[b]?

theorem Ext.refl (w : World) (W : Nat → Prop) : Ext w W w := ⟨rfl, rfl, rfl, Nat.le_refl _, fun _ _ _ => rfl⟩

structure Ctx where
  w0 : World
  D0 : Nat → Prop
  e0 : List ALoc

def getρ : List (Nat × T) → Nat → T
  | [], _ => .junk
  | (d, x) :: r, t => match Nat.beq d t with
    | true => x
    | false => getρ r t

structure Rel (N np : Nat) (G : Ctx) (D : Nat → Prop) (e : List ALoc) (σ : State) (a : Act) (w : World) : Prop where
  hnp : G.e0.length = np
  nple : np ≤ σ.o.length
  ext : Ext G.w0 (Wof G.e0) w
  defers : a.defers = []
  size : a.tmps.size = N
  tmps : ∀ t, TR D w.heap e (getρ σ.ρ t) (a.tmps.getD t undef)
  sr : SR D w.heap e σ.o
  new : ∀ (id : Nat) (b : Addr) (esz cap n : Nat), e[id]? = some (.live (some b) esz cap n) → Wof G.e0 b.block ∨ G.w0.heap.size ≤ b.block
  old : ∀ b, D b → b < G.w0.heap.size → G.D0 b
  keep : ∀ (id : Nat), id < np → e[id]? = G.e0[id]?

/-! ### Steps that keep it -/
section
variable {N np : Nat} {G : Ctx} {D : Nat → Prop} {e : List ALoc} {σ : State} {a : Act} {w : World}

theorem getD_set (ts : Array Value) (d t : Nat) (v : Value) (h : d < ts.size) : (ts.setIfInBounds d v).getD t undef = if d = t then v else ts.getD t undef := by
  by_cases hdt : d = t
  · subst hdt; simp [Array.getD, h]
  · simp only [Array.getD_eq_getD_getElem?, Array.getElem?_setIfInBounds, hdt, if_false]

theorem Rel.put (H : Rel N np G D e σ a w) {d : Nat} {x : T} {v : Value} {κ : List Nat} (hd : d < N) (hx : TR D w.heap e x v) :
    Rel N np G D e ⟨(d, x) :: σ.ρ, σ.o, κ⟩ (a.put (some d) v) w := by
  refine ⟨H.hnp, H.nple, H.ext, H.defers, by simp [Act.put, H.size], fun t => ?_, H.sr, H.new, H.old, H.keep⟩
  have hs : d < a.tmps.size := by rw [H.size]; exact hd
  simp only [Act.put, getD_set _ _ _ _ hs, getρ]
  by_cases hdt : d = t
  · subst hdt; simpa using hx
  · have : Nat.beq d t = false := by cases hb : Nat.beq d t with | false => rfl | true => exact absurd (Nat.eq_of_beq_eq_true hb) hdt
    simp only [this, hdt, if_false]
    exact H.tmps t

theorem Rel.putNone (H : Rel N np G D e σ a w) (v : Value) : Rel N np G D e σ (a.put none v) w := H

/-- A step to a world with the same heap (a draw). -/
theorem Rel.world (H : Rel N np G D e σ a w) {w' : World} (hh : w'.heap = w.heap) (ho : w'.os = w.os) (ht : w'.tape = w.tape) (hu : w'.output = w.output) :
    Rel N np G D e σ a w' := by
  refine ⟨H.hnp, H.nple, ⟨ho.trans H.ext.os, ht.trans H.ext.tape, hu.trans H.ext.output, by rw [hh]; exact H.ext.size, by rw [hh]; exact H.ext.block⟩, H.defers, H.size, ?_, ?_, H.new, H.old, H.keep⟩
  · rw [hh]; exact H.tmps
  · rw [hh]; exact H.sr

theorem heap_push_old (h : Array Obj) (x : Obj) {b : Nat} (hb : b < h.size) : (h.push x)[b]? = h[b]? := by
  rw [Array.getElem?_push, if_neg (by omega)]

theorem SR.fixes_push (H : SR D w.heap e σ.o) (x : Obj) : Fixes D D w.heap (w.heap.push x) :=
  fun b hb => ⟨hb, heap_push_old _ _ (H.dom b hb)⟩

theorem leads_app (e r : List ALoc) : Leads e (e ++ r) := by
  intro id l h
  left
  have : id < e.length := by
    rcases Nat.lt_or_ge id e.length with h' | h'
    · exact h'
    · rw [List.getElem?_eq_none h'] at h; cases h
  rw [List.getElem?_append_left this]; exact h

theorem getElem?_app_one {α : Type} (l : List α) (x : α) (i : Nat) : (l ++ [x])[i]? = if i < l.length then l[i]? else if i = l.length then some x else none := by
  by_cases h : i < l.length
  · simp [h, List.getElem?_append_left h]
  · by_cases h' : i = l.length
    · subst h'; simp
    · rw [List.getElem?_eq_none (by simp; omega)]; simp [h, h']

/-- A new object in a new block. -/
theorem Rel.newObj (H : Rel N np G D e σ a w) {w' : World} {cells : Array Value} {t : TypeId} {ob : AObj} {cap : Nat}
    (hh : w'.heap = w.heap.push (.cells cells t)) (ho : w'.os = w.os) (ht : w'.tape = w.tape) (hu : w'.output = w.output)
    (hf : ob.fz = false) (hcl : ob.clean = true → noOwnR ob.elems = true) (hcap : ob.elems.length ≤ cap) (hs : cap * ob.esz ≤ cells.size)
    (hr : CRr D w.heap e ob.esz ob.elems cells.toList) :
    Rel N np G D (e ++ [.live (some ⟨w.heap.size, 0, none⟩) ob.esz cap ob.elems.length]) ⟨σ.ρ, σ.o ++ [some ob], σ.k⟩ a w' := by
  have hfx : Fixes D D w.heap w'.heap := by rw [hh]; exact H.sr.fixes_push _
  have hle := leads_app e [.live (some ⟨w.heap.size, 0, none⟩) ob.esz cap ob.elems.length]
  refine ⟨H.hnp, (by have := H.nple; simp; omega), ⟨ho.trans H.ext.os, ht.trans H.ext.tape, hu.trans H.ext.output, by rw [hh]; have := H.ext.size; simp; omega, fun b hb hw => ?_⟩, H.defers, H.size,
    fun t => TR.mono hfx hle _ _ (H.tmps t), ⟨?_, ?_, ?_, ?_, ?_⟩, ?_, H.old, ?_⟩
  · rw [hh, heap_push_old _ _ (by have := H.ext.size; omega)]; exact H.ext.block b hb hw
  · simp [H.sr.len]
  · intro id ob' hid
    simp only [getElem?_app_one] at hid ⊢
    split at hid
    · rename_i hlt
      obtain ⟨b, c, n, he, hob⟩ := H.sr.objs id ob' hid
      refine ⟨b, c, n, by rw [if_pos (by rw [H.sr.len]; exact hlt)]; exact he, hob.1, hob.2.1, ?_⟩
      cases b with
      | none => exact hob.2.2
      | some b =>
        obtain ⟨_, _, h1, h2, cs, t', h3, h4, h5, h6⟩ := hob
        have hb := (H.sr.own id b _ _ _ he).1
        exact ⟨h1, h2, cs, t', by rw [hh, heap_push_old _ _ hb]; exact h3, h4, h5, CRr.mono hfx _ _ hle _ _ _ h6⟩
    · split at hid
      · rename_i heq
        simp at hid; subst hid
        refine ⟨some ⟨w.heap.size, 0, none⟩, cap, ob.elems.length, by rw [if_neg (by rw [H.sr.len]; omega), if_pos (by rw [H.sr.len]; omega)], rfl, hcl, rfl, by simp [hf], cells, t, ?_, hcap, by simpa using hs, ?_⟩
        · rw [hh]; simp
        · simpa using CRr.mono hfx _ _ hle _ _ _ hr
      · cases hid
  · intro id b esz c n he
    simp only [getElem?_app_one] at he ⊢
    split at he
    · rename_i hlt
      obtain ⟨h1, h2⟩ := H.sr.own id b _ _ _ he
      refine ⟨by rw [hh]; simp; omega, fun hD => ?_⟩
      rw [if_pos (by rw [← H.sr.len]; exact hlt)]
      exact h2 hD
    · split at he
      · simp at he
        obtain ⟨rfl, _⟩ := he
        refine ⟨by rw [hh]; simp, fun hD => ?_⟩
        have := H.sr.dom _ hD
        simp at this
      · cases he
  · intro id id' b b' esz c n esz' c' n' he he' hb
    simp only [getElem?_app_one] at he he'
    split at he <;> split at he'
    · exact H.sr.sep id id' b b' _ _ _ _ _ _ he he' hb
    · split at he'
      · simp at he'
        obtain ⟨rfl, _⟩ := he'
        have := (H.sr.own id b _ _ _ he).1
        simp at hb; omega
      · cases he'
    · split at he
      · simp at he
        obtain ⟨rfl, _⟩ := he
        have := (H.sr.own id' b' _ _ _ he').1
        simp at hb; omega
      · cases he
    · split at he
      · split at he'
        · omega
        · cases he'
      · cases he
  · intro b hD; rw [hh]; have := H.sr.dom b hD; simp; omega
  · intro id b esz c n he
    simp only [getElem?_app_one] at he
    split at he
    · exact H.new id b _ _ _ he
    · split at he
      · simp at he
        obtain ⟨rfl, _⟩ := he
        exact .inr H.ext.size
      · cases he
  · intro id hid
    have h1 := H.nple
    rw [getElem?_app_one, if_pos (by rw [H.sr.len]; omega)]
    exact H.keep id hid

theorem CRp_iff {e : List ALoc} {h : Array Obj} : ∀ {cs : List C} {vs : List Value}, CRp D h e cs vs ↔ ∀ (j : Nat) (c : C), cs[j]? = some c → ∃ v, vs[j]? = some v ∧ CR D h e c v
  | [], vs => by simp [CRp]
  | c :: cs, [] => by
    simp only [CRp, false_iff]
    intro H
    obtain ⟨v, hv, _⟩ := H 0 c (by simp)
    simp at hv
  | c :: cs, v :: vs => by
    simp only [CRp, CRp_iff (cs := cs)]
    constructor
    · rintro ⟨h0, h1⟩ j c' hj
      cases j with
      | zero => simp at hj; subst hj; exact ⟨v, by simp, h0⟩
      | succ j => simpa using h1 j c' (by simpa using hj)
    · intro H
      obtain ⟨v', hv', h0⟩ := H 0 c (by simp)
      simp at hv'
      subst hv'
      exact ⟨h0, fun j c' hj => by simpa using H (j + 1) c' (by simpa using hj)⟩

theorem CRr_iff {e : List ALoc} {h : Array Obj} {esz : Nat} : ∀ {rs : List (List C)} {vs : List Value}, CRr D h e esz rs vs ↔
    ∀ (i : Nat) (r : List C), rs[i]? = some r → r.length = esz ∧ CRp D h e r (vs.drop (i * esz))
  | [], vs => by simp [CRr]
  | q :: rs, vs => by
    simp only [CRr, CRr_iff (rs := rs)]
    constructor
    · rintro ⟨h0, h1, h2⟩ i r hi
      cases i with
      | zero => simp at hi; subst hi; simpa using ⟨h0, h1⟩
      | succ i =>
        have := h2 i r (by simpa using hi)
        rw [List.drop_drop] at this
        rw [Nat.succ_mul, Nat.add_comm]; exact this
    · intro H
      have h0 := H 0 q (by simp)
      refine ⟨h0.1, by simpa using h0.2, fun i r hi => ?_⟩
      have := H (i + 1) r (by simpa using hi)
      rw [Nat.succ_mul, Nat.add_comm] at this
      rw [List.drop_drop]; exact this

/-- A piece of a list is written over. -/
def patch {α : Type} (l : List α) (p : Nat) (xs : List α) : List α := l.take p ++ xs ++ l.drop (p + xs.length)

theorem patch_get {α : Type} (l : List α) (p : Nat) (xs : List α) (hp : p + xs.length ≤ l.length) (m : Nat) :
    (patch l p xs)[m]? = if m < p then l[m]? else if m < p + xs.length then xs[m - p]? else l[m]? := by
  unfold patch
  by_cases h1 : m < p
  · rw [if_pos h1, List.append_assoc, List.getElem?_append_left (by simp; omega), List.getElem?_take, if_pos h1]
  · rw [if_neg h1]
    by_cases h2 : m < p + xs.length
    · rw [if_pos h2, List.getElem?_append_left (by simp; omega), List.getElem?_append_right (by simp; omega)]
      congr 1
      simp; omega
    · rw [if_neg h2, List.getElem?_append_right (by simp; omega), List.getElem?_drop]
      congr 1
      simp; omega

theorem patch_length {α : Type} (l : List α) (p : Nat) (xs : List α) (hp : p + xs.length ≤ l.length) : (patch l p xs).length = l.length := by
  unfold patch; simp; omega

theorem CRr_patch {e : List ALoc} {h : Array Obj} {esz : Nat} {rs : List (List C)} {vs : List Value} {i off : Nat} {row cs : List C} {xs : List Value}
    (H : CRr D h e esz rs vs) (hi : rs[i]? = some row) (hoff : off + cs.length ≤ esz) (hx : xs.length = cs.length) (hc : CRp D h e cs xs) :
    CRr D h e esz (rs.set i (patch row off cs)) (patch vs (i * esz + off) xs) := by
  have hrow := CRr.get H hi
  have hilt : i < rs.length := by
    rcases Nat.lt_or_ge i rs.length with h' | h'
    · exact h'
    · rw [List.getElem?_eq_none h'] at hi; cases hi
  have hlen : i * esz + off + xs.length ≤ vs.length := by
    have := CRp.len hrow.2
    simp only [List.length_drop, hrow.1] at this
    rcases Nat.eq_zero_or_pos esz with h0 | h0
    · subst h0; simp; omega
    · omega
  rw [CRr_iff]
  intro j r hj
  rw [List.getElem?_set] at hj
  by_cases hij : i = j
  · subst hij
    simp [hilt] at hj
    subst hj
    refine ⟨by rw [patch_length _ _ _ (by rw [hrow.1]; exact hoff)]; exact hrow.1, ?_⟩
    rw [CRp_iff]
    intro m c hm
    rw [patch_get _ _ _ (by rw [hrow.1]; exact hoff)] at hm
    rw [List.getElem?_drop, patch_get _ _ _ hlen]
    by_cases h1 : m < off
    · rw [if_pos h1] at hm
      rw [if_pos (by omega)]
      obtain ⟨v, hv, hcv⟩ := CRp.get hrow.2 hm
      exact ⟨v, by simpa [List.getElem?_drop] using hv, hcv⟩
    · rw [if_neg h1] at hm
      rw [if_neg (by omega)]
      by_cases h2 : m < off + cs.length
      · rw [if_pos h2] at hm
        rw [if_pos (by omega)]
        obtain ⟨v, hv, hcv⟩ := CRp.get hc hm
        exact ⟨v, by rw [← hv]; congr 1; omega, hcv⟩
      · rw [if_neg h2] at hm
        rw [if_neg (by omega)]
        obtain ⟨v, hv, hcv⟩ := CRp.get hrow.2 hm
        exact ⟨v, by simpa [List.getElem?_drop] using hv, hcv⟩
  · rw [if_neg hij] at hj
    have hr := CRr.get H hj
    refine ⟨hr.1, ?_⟩
    rw [CRp_iff]
    intro m c hm
    obtain ⟨v, hv, hcv⟩ := CRp.get hr.2 hm
    refine ⟨v, ?_, hcv⟩
    rw [List.getElem?_drop] at hv ⊢
    rw [patch_get _ _ _ hlen]
    have hml : m < esz := by
      rcases Nat.lt_or_ge m r.length with h' | h'
      · rw [← hr.1]; exact h'
      · rw [List.getElem?_eq_none h'] at hm; cases hm
    rcases Nat.lt_or_gt_of_ne hij with hlt | hgt
    · -- j behind i
      have : (i + 1) * esz ≤ j * esz := Nat.mul_le_mul_right _ (by omega)
      rw [Nat.succ_mul] at this
      rw [if_neg (by omega), if_neg (by omega)]; exact hv
    · have : (j + 1) * esz ≤ i * esz := Nat.mul_le_mul_right _ (by omega)
      rw [Nat.succ_mul] at this
      rw [if_pos (by omega)]; exact hv

/-- What an own, unfrozen object's memory is. -/
theorem SR.block {o : List (Option AObj)} {h : Array Obj} {id : Nat} {ob : AObj} (H : SR D h e o) (hid : o[id]? = some (some ob)) (hne : ob.elems ≠ []) :
    ∃ b cap cells t, e[id]? = some (.live (some b) ob.esz cap ob.elems.length) ∧ b.spot = none ∧ h[b.block]? = some (.cells cells t (0, 0)) ∧ ob.elems.length ≤ cap ∧
      b.off + cap * ob.esz ≤ cells.size ∧ CRr D h e ob.esz ob.elems (cells.toList.drop b.off) := by
  obtain ⟨a, cap, n, he, hn, hc, hrest⟩ := H.objs id ob hid
  cases a with
  | none => exact absurd hrest.1 hne
  | some b =>
    obtain ⟨h1, _, cells, t, h3, h4, h5, h6⟩ := hrest
    subst hn
    exact ⟨b, cap, cells, t, he, h1, h3, h4, h5, h6⟩

/-- An own object that is not frozen gets other contents, of as many elements. -/
theorem Rel.setObj (H : Rel N np G D e σ a w) {id : Nat} {ob ob' : AObj} {b : Addr} {cap n : Nat} {cells cells' : Array Value} {t : TypeId}
    (hid : σ.o[id]? = some (some ob)) (hfz : ob.fz = false) (he : e[id]? = some (.live (some b) ob.esz cap n)) (hb : b.spot = none)
    (hh : w.heap[b.block]? = some (.cells cells t (0, 0))) (hcap : ob.elems.length ≤ cap) (hsz : b.off + cap * ob.esz ≤ cells.size)
    (hcs : cells'.size = cells.size) (hesz : ob'.esz = ob.esz) (hlen : ob'.elems.length = ob.elems.length) (hfz' : ob'.fz = false) (hcl : ob'.clean = true → noOwnR ob'.elems = true)
    (hr : CRr D w.heap e ob.esz ob'.elems (cells'.toList.drop b.off)) :
    Rel N np G D e ⟨σ.ρ, σ.o.set id (some ob'), σ.k⟩ a (w.setRow b.block cells') := by
  have hnD : ¬ D b.block := fun hD => by
    obtain ⟨o', ho', hf'⟩ := (H.sr.own id b _ _ _ he).2 hD
    rw [hid] at ho'; simp at ho'; subst ho'; rw [hfz] at hf'; cases hf'
  have hfx : Fixes D D w.heap (w.setRow b.block cells').heap := fun c hc => ⟨hc, setRow_other w _ _ _ (fun hcb => hnD (hcb ▸ hc))⟩
  have hle := Leads.refl e
  have hidlt : id < σ.o.length := by
    rcases Nat.lt_or_ge id σ.o.length with h' | h'
    · exact h'
    · rw [List.getElem?_eq_none h'] at hid; cases hid
  obtain ⟨a0, cap0, n0, he0, hn0, _, _⟩ := H.sr.objs id ob hid
  rw [he] at he0
  simp only [Option.some.injEq, ALoc.live.injEq, true_and] at he0
  obtain ⟨rfl, rfl, rfl⟩ := he0
  refine ⟨H.hnp, by simpa using H.nple, ⟨H.ext.os, H.ext.tape, H.ext.output, by rw [setRow_size]; exact H.ext.size, fun c hc hw => ?_⟩, H.defers, H.size,
    fun t => TR.mono hfx hle _ _ (H.tmps t), ⟨by simpa using H.sr.len, ?_, ?_, H.sr.sep, ?_⟩, H.new, H.old, ?_⟩
  · by_cases hcb : c = b.block
    · subst hcb
      rcases H.new id b _ _ _ he with h' | h'
      · exact absurd h' hw
      · omega
    · rw [setRow_other _ _ _ _ hcb]; exact H.ext.block c hc hw
  · intro id' ob1 hid'
    rw [List.getElem?_set] at hid'
    by_cases hii : id = id'
    · subst hii
      simp [hidlt] at hid'
      subst hid'
      refine ⟨some b, cap, n, by rw [hesz]; exact he, by rw [hn0, hlen], hcl, hb, by simp [hfz'], cells', t, setRow_heap w _ cells _ t _ hh, by rw [hn0]; omega, by rw [hesz, hcs]; exact hsz, ?_⟩
      rw [hesz]
      exact CRr.mono hfx _ _ hle _ _ _ hr
    · rw [if_neg hii] at hid'
      obtain ⟨a1, cap1, n1, he1, hn1, hc1, hrest⟩ := H.sr.objs id' ob1 hid'
      refine ⟨a1, cap1, n1, he1, hn1, hc1, ?_⟩
      cases a1 with
      | none => exact hrest
      | some b1 =>
        obtain ⟨h1, h2, cs1, t1, h3, h4, h5, h6⟩ := hrest
        refine ⟨h1, h2, cs1, t1, ?_, h4, h5, CRr.mono hfx _ _ hle _ _ _ h6⟩
        rw [setRow_other _ _ _ _ (fun hbb => hii (H.sr.sep id id' b b1 _ _ _ _ _ _ he he1 hbb.symm))]
        exact h3
  · intro id' b1 esz1 cap1 n1 he1
    obtain ⟨h1, h2⟩ := H.sr.own id' b1 _ _ _ he1
    refine ⟨by rw [setRow_size]; exact h1, fun hD => ?_⟩
    obtain ⟨ob1, ho1, hf1⟩ := h2 hD
    by_cases hii : id = id'
    · subst hii; rw [hid] at ho1; simp at ho1; subst ho1; rw [hfz] at hf1; cases hf1
    · exact ⟨ob1, by rw [List.getElem?_set, if_neg hii]; exact ho1, hf1⟩
  · intro c hc; rw [setRow_size]; exact H.sr.dom c hc
  · exact H.keep

/-- What this call has made lies in new blocks. -/
theorem Rel.newer (H : Rel N np G D e σ a w) {id : Nat} (hnp : np ≤ id) {b : Addr} {esz cap n : Nat} (he : e[id]? = some (.live (some b) esz cap n)) : G.w0.heap.size ≤ b.block := by
  rcases H.new id b _ _ _ he with h | h
  · obtain ⟨id0, a0, esz0, cap0, n0, h0, hb⟩ := h
    have hlt : id0 < np := by
      rw [← H.hnp]
      rcases Nat.lt_or_ge id0 G.e0.length with h' | h'
      · exact h'
      · rw [List.getElem?_eq_none h'] at h0; cases h0
    rw [← H.keep id0 hlt] at h0
    have := H.sr.sep id0 id a0 b _ _ _ _ _ _ h0 he hb
    omega
  · exact h

/-- An own object of this call's is frozen: from here on it is read alone. -/
theorem Rel.freeze' (H : Rel N np G D e σ a w) {id : Nat} {ob : AObj} (hid : σ.o[id]? = some (some ob)) (hnp : np ≤ id) :
    ∃ D', Rel N np G D' e ⟨σ.ρ, σ.o.set id (some { ob with fz := true }), σ.k⟩ a w ∧ (∀ b, D b → D' b) := by
  let D' : Nat → Prop := fun c => D c ∨ ∃ (b : Addr) (esz cap n : Nat), e[id]? = some (.live (some b) esz cap n) ∧ b.block = c
  have hfx : Fixes D D' w.heap w.heap := fun c hc => ⟨.inl hc, rfl⟩
  have hle := Leads.refl e
  have hidlt : id < σ.o.length := by
    rcases Nat.lt_or_ge id σ.o.length with h' | h'
    · exact h'
    · rw [List.getElem?_eq_none h'] at hid; cases hid
  refine ⟨D', ⟨H.hnp, by simpa using H.nple, H.ext, H.defers, H.size, fun t => TR.mono hfx hle _ _ (H.tmps t), ⟨by simpa using H.sr.len, ?_, ?_, H.sr.sep, ?_⟩, H.new, ?_, ?_⟩, fun b hb => .inl hb⟩
  · intro id' ob1 hid'
    rw [List.getElem?_set] at hid'
    by_cases hii : id = id'
    · subst hii
      simp [hidlt] at hid'
      subst hid'
      obtain ⟨a1, cap1, n1, he1, hn1, hc1, hrest⟩ := H.sr.objs id ob hid
      refine ⟨a1, cap1, n1, he1, hn1, hc1, ?_⟩
      cases a1 with
      | none => exact hrest
      | some b1 =>
        obtain ⟨h1, h2, cs1, t1, h3, h4, h5, h6⟩ := hrest
        exact ⟨h1, fun _ => .inr ⟨b1, _, _, _, he1, rfl⟩, cs1, t1, h3, h4, h5, CRr.mono hfx _ _ hle _ _ _ h6⟩
    · rw [if_neg hii] at hid'
      obtain ⟨a1, cap1, n1, he1, hn1, hc1, hrest⟩ := H.sr.objs id' ob1 hid'
      refine ⟨a1, cap1, n1, he1, hn1, hc1, ?_⟩
      cases a1 with
      | none => exact hrest
      | some b1 =>
        obtain ⟨h1, h2, cs1, t1, h3, h4, h5, h6⟩ := hrest
        exact ⟨h1, fun hf => .inl (h2 hf), cs1, t1, h3, h4, h5, CRr.mono hfx _ _ hle _ _ _ h6⟩
  · intro id' b1 esz1 cap1 n1 he1
    obtain ⟨h1, h2⟩ := H.sr.own id' b1 _ _ _ he1
    refine ⟨h1, fun hD => ?_⟩
    rcases hD with hD | ⟨b, esz, cap, n, heb, hbb⟩
    · obtain ⟨ob1, ho1, hf1⟩ := h2 hD
      by_cases hii : id = id'
      · subst hii; exact ⟨{ ob with fz := true }, by simp [hidlt], rfl⟩
      · exact ⟨ob1, by rw [List.getElem?_set, if_neg hii]; exact ho1, hf1⟩
    · have := H.sr.sep id id' b b1 _ _ _ _ _ _ heb he1 hbb
      subst this
      exact ⟨{ ob with fz := true }, by simp [hidlt], rfl⟩
  · intro c hc
    rcases hc with hc | ⟨b, esz, cap, n, heb, rfl⟩
    · exact H.sr.dom c hc
    · exact (H.sr.own id b _ _ _ heb).1
  · intro c hc hlt
    rcases hc with hc | ⟨b, esz, cap, n, heb, rfl⟩
    · exact H.old c hc hlt
    · have := H.newer hnp heb
      omega
  · exact H.keep
theorem Rel.freeze (H : Rel N np G D e σ a w) {id : Nat} {ob : AObj} (hid : σ.o[id]? = some (some ob)) (hnp : np ≤ id) :
    ∃ D', Rel N np G D' e ⟨σ.ρ, σ.o.set id (some { ob with fz := true }), σ.k⟩ a w := by
  obtain ⟨D', H', _⟩ := H.freeze' hid hnp
  exact ⟨D', H'⟩
end
end Go.Proofs.Ytkjbjgndinjdpaa
