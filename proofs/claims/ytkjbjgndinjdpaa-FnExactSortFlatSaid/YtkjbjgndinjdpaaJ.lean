/- Objects picked out for a callee or for a result; contracts; what a body must come to. -/
import Derived.Test.YtkjbjgndinjdpaaI
set_option linter.unusedVariables false
set_option linter.unusedSimpArgs false
namespace Go.Proofs.Ytkjbjgndinjdpaa
open Go

def idxOf : List Nat → Nat → Nat → Option Nat
  | [], _, _ => none
  | k :: ks, id, m => match Nat.beq k id with
    | true => some m
    | false => idxOf ks id (m + 1)
theorem idxOf_spec : ∀ {ks : List Nat} {id m j : Nat}, idxOf ks id m = some j → m ≤ j ∧ ks[j - m]? = some id
  | [], id, m, j, h => by simp [idxOf] at h
  | k :: ks, id, m, j, h => by
    simp only [idxOf] at h
    split at h
    · rename_i hb
      simp at h; subst h
      have := Nat.eq_of_beq_eq_true hb
      subst this
      simp
    · have := idxOf_spec h
      refine ⟨by omega, ?_⟩
      rw [show j - m = (j - (m + 1)) + 1 by omega]
      simpa using this.2
def memB : Nat → List Nat → Bool
  | _, [] => false
  | n, m :: r => match Nat.beq n m with
    | true => true
    | false => memB n r
theorem memB_false : ∀ {l : List Nat} {n : Nat}, memB n l = false → n ∉ l
  | [], n, _ => by simp
  | m :: r, n, h => by
    simp only [memB] at h
    split at h
    · cases h
    · rename_i hb
      have := memB_false h
      intro hm
      rcases List.mem_cons.1 hm with rfl | hm
      · rw [Nat.beq_refl] at hb; cases hb
      · exact this hm
def nodupB : List Nat → Bool
  | [] => true
  | k :: ks => match memB k ks with
    | true => false
    | false => nodupB ks
theorem nodupB_spec : ∀ {l : List Nat}, nodupB l = true → l.Nodup
  | [], _ => by simp
  | k :: ks, h => by
    simp only [nodupB] at h
    split at h
    · cases h
    · rename_i hb
      exact List.nodup_cons.2 ⟨memB_false hb, nodupB_spec h⟩

def reO (mp : Nat → Option Nat) (o : List (Option AObj)) (n : Nat) : Option AObj → Option AObj
  | some ⟨esz, elems, true, fz, box⟩ => some ⟨esz, elems, true, fz, box⟩
  | some ⟨esz, elems, false, fz, box⟩ => some ⟨esz, reR mp o n elems, false, fz, box⟩
  | none => none
def pickE (e : List ALoc) : List Nat → List ALoc
  | [] => []
  | id :: ids => e.getD id .dead :: pickE e ids
def pickO' (o : List (Option AObj)) (mp : Nat → Option Nat) (n : Nat) : List Nat → List (Option AObj)
  | [] => []
  | id :: ids => (match nth o id with
    | some x => reO mp o n x
    | none => none) :: pickO' o mp n ids
def pickO (o : List (Option AObj)) (n : Nat) (ids : List Nat) : List (Option AObj) := pickO' o (fun id => idxOf ids id 0) n ids

theorem pickE_get (e : List ALoc) : ∀ (ids : List Nat) (j : Nat), (pickE e ids)[j]? = (ids[j]?).map (e.getD · .dead)
  | [], j => by simp [pickE]
  | id :: ids, 0 => by simp [pickE]
  | id :: ids, j + 1 => by simp [pickE, pickE_get e ids j]
theorem pickE_length (e : List ALoc) : ∀ (ids : List Nat), (pickE e ids).length = ids.length
  | [] => rfl
  | id :: ids => by simp [pickE, pickE_length e ids]
theorem pickO'_get (o : List (Option AObj)) (mp : Nat → Option Nat) (n : Nat) : ∀ (ids : List Nat) (j : Nat), (pickO' o mp n ids)[j]? = (ids[j]?).map (fun id => match nth o id with
    | some x => reO mp o n x
    | none => none)
  | [], j => by simp [pickO']
  | id :: ids, 0 => by simp [pickO']
  | id :: ids, j + 1 => by simp [pickO', pickO'_get o mp n ids j]
theorem pickO'_length (o : List (Option AObj)) (mp : Nat → Option Nat) (n : Nat) : ∀ (ids : List Nat), (pickO' o mp n ids).length = ids.length
  | [] => rfl
  | id :: ids => by simp [pickO', pickO'_length o mp n ids]

section
variable {D : Nat → Prop} {h : Array Obj} {e e1 : List ALoc} {o : List (Option AObj)} {ids : List Nat}

theorem pick_map (id j : Nat) (l : ALoc) (hj : idxOf ids id 0 = some j) (he : e[id]? = some l) : (pickE e ids)[j]? = some l := by
  have := idxOf_spec hj
  rw [pickE_get]
  simp only [Nat.sub_zero] at this
  rw [this.2]
  simp [List.getD, he]

theorem SR.pick (H : SR D h e o) (hnd : nodupB ids = true) (n : Nat) : SR D h (pickE e ids) (pickO o n ids) := by
  have hget : ∀ (j : Nat) (b : Addr) (esz cap nn : Nat), (pickE e ids)[j]? = some (.live (some b) esz cap nn) → ∃ id, ids[j]? = some id ∧ e[id]? = some (.live (some b) esz cap nn) := by
    intro j b esz cap nn hj
    rw [pickE_get] at hj
    cases hi : ids[j]? with
    | none => rw [hi] at hj; simp at hj
    | some id =>
      rw [hi] at hj
      simp only [Option.map_some, List.getD, Option.some.injEq] at hj
      refine ⟨id, rfl, ?_⟩
      cases hid : e[id]? with
      | none => rw [hid] at hj; simp at hj
      | some l => rw [hid] at hj; simp at hj; rw [hj]
  have hobj : ∀ (j : Nat) (ob : AObj), (pickO o n ids)[j]? = some (some ob) → ∃ id ob0, ids[j]? = some id ∧ o[id]? = some (some ob0) ∧ reO (fun id => idxOf ids id 0) o n (some ob0) = some ob := by
    intro j ob hj
    unfold pickO at hj
    rw [pickO'_get] at hj
    cases hi : ids[j]? with
    | none => rw [hi] at hj; simp at hj
    | some id =>
      rw [hi] at hj
      simp only [Option.map_some, Option.some.injEq] at hj
      cases hn : nth o id with
      | none => rw [hn] at hj; cases hj
      | some x =>
        rw [hn] at hj
        simp only at hj
        cases x with
        | none => simp [reO] at hj
        | some ob0 => rw [nth_eq] at hn; exact ⟨id, ob0, rfl, hn, hj⟩
  refine ⟨by rw [pickE_length]; unfold pickO; rw [pickO'_length], ?_, ?_, ?_, H.dom⟩
  · intro j ob hj
    obtain ⟨id, ob0, hi, ho, hre⟩ := hobj j ob hj
    obtain ⟨a, cap, nn, he, hn, hcl, hrest⟩ := H.objs id ob0 ho
    have hE : (pickE e ids)[j]? = some (.live a ob0.esz cap nn) := by rw [pickE_get, hi]; simp [List.getD, he]
    obtain ⟨esz, elems, clean, fz, box⟩ := ob0
    cases clean with
    | true =>
      simp only [reO, Option.some.injEq] at hre
      subst hre
      refine ⟨a, cap, nn, hE, hn, hcl, ?_⟩
      cases a with
      | none => exact hrest
      | some b =>
        obtain ⟨h1, h2, cells, t, h3, h4, h5, h6⟩ := hrest
        exact ⟨h1, h2, cells, t, h3, h4, h5, CRr.env e _ esz _ _ (hcl rfl) h6⟩
    | false =>
      simp only [reO, Option.some.injEq] at hre
      subst hre
      refine ⟨a, cap, nn, hE, by rw [reR_length]; exact hn, by simp, ?_⟩
      cases a with
      | none => obtain ⟨h1, h2⟩ := hrest; exact ⟨by simp only at h1 ⊢; rw [h1]; rfl, h2⟩
      | some b =>
        obtain ⟨h1, h2, cells, t, h3, h4, h5, h6⟩ := hrest
        exact ⟨h1, h2, cells, t, h3, h4, h5, reR_spec H (fun id' j' l' => pick_map id' j' l') n esz _ _ h6⟩
  · intro j b esz cap nn hj
    obtain ⟨id, hi, he⟩ := hget j b esz cap nn hj
    obtain ⟨h1, h2⟩ := H.own id b _ _ _ he
    refine ⟨h1, fun hD => ?_⟩
    obtain ⟨ob, ho, hf⟩ := h2 hD
    have hE : (pickO o n ids)[j]? = some (reO (fun id => idxOf ids id 0) o n (some ob)) := by
      unfold pickO
      rw [pickO'_get, hi]
      simp only [Option.map_some, Option.some.injEq]
      rw [nth_eq, ho]
    obtain ⟨esz', elems, clean, fz, box⟩ := ob
    simp only at hf
    subst hf
    cases clean with
    | true => exact ⟨⟨esz', elems, true, true, box⟩, hE, rfl⟩
    | false => exact ⟨⟨esz', _, false, true, box⟩, hE, rfl⟩
  · intro j j' b b' esz cap nn esz' cap' nn' hj hj' hb
    obtain ⟨id, hi, he⟩ := hget j b esz cap nn hj
    obtain ⟨id', hi', he'⟩ := hget j' b' esz' cap' nn' hj'
    have := H.sep id id' b b' _ _ _ _ _ _ he he' hb
    subst this
    exact (List.getElem?_inj (by
      rcases Nat.lt_or_ge j ids.length with h' | h'
      · exact h'
      · rw [List.getElem?_eq_none h'] at hi; cases hi) (nodupB_spec hnd)).1 (hi.trans hi'.symm)
end

/-! ### Freezing several -/
def fzAll (mp : Nat → Option Nat) : Nat → List (Option AObj) → List (Option AObj)
  | _, [] => []
  | i, x :: r => (match mp i with
    | some _ => x
    | none => match x with
      | some ⟨esz, el, cl, _, bx⟩ => some ⟨esz, el, cl, true, bx⟩
      | none => none) :: fzAll mp (i + 1) r
def setFz : Option AObj → Option AObj
  | some ⟨esz, el, cl, _, bx⟩ => some ⟨esz, el, cl, true, bx⟩
  | none => none
theorem fzAll_get (mp : Nat → Option Nat) : ∀ (i : Nat) (l : List (Option AObj)) (j : Nat), (fzAll mp i l)[j]? = (l[j]?).map fun x => if (mp (i + j)).isSome then x else setFz x
  | i, [], j => by simp [fzAll]
  | i, x :: r, 0 => by
    simp only [fzAll, List.getElem?_cons_zero, Nat.add_zero, Option.map_some, Option.some.injEq]
    cases mp i <;> simp <;> cases x <;> rfl
  | i, x :: r, j + 1 => by simp only [fzAll, List.getElem?_cons_succ, fzAll_get mp (i + 1) r j, Nat.add_assoc, Nat.add_comm 1 j]
theorem fzAll_length (mp : Nat → Option Nat) : ∀ (i : Nat) (l : List (Option AObj)), (fzAll mp i l).length = l.length
  | i, [] => rfl
  | i, x :: r => by simp [fzAll, fzAll_length mp (i + 1) r]

section
variable {N np : Nat} {G : Ctx} {D : Nat → Prop} {e : List ALoc} {σ : State} {a : Act} {w : World}
theorem Rel.fzAll (H : Rel N np G D e σ a w) (mp : Nat → Option Nat) (hmp : ∀ id, id < np → (mp id).isSome = true) : ∃ D', Rel N np G D' e ⟨σ.ρ, fzAll mp 0 σ.o, σ.k⟩ a w ∧ (∀ b, D b → D' b) := by
  let D' : Nat → Prop := fun c => D c ∨ ∃ (id : Nat) (ob : AObj) (b : Addr) (esz cap n : Nat), (mp id).isSome = false ∧ σ.o[id]? = some (some ob) ∧ e[id]? = some (.live (some b) esz cap n) ∧ b.block = c
  have hfx : Fixes D D' w.heap w.heap := fun c hc => ⟨.inl hc, rfl⟩
  have hle := Leads.refl e
  have hget := fzAll_get mp 0 σ.o
  simp only [Nat.zero_add] at hget
  refine ⟨D', ⟨H.hnp, by simp only [fzAll_length]; exact H.nple, H.ext, H.defers, H.size, fun t => TR.mono hfx hle _ _ (H.tmps t), ⟨by simp only [fzAll_length]; exact H.sr.len, ?_, ?_, H.sr.sep, ?_⟩, H.new, ?_, H.keep⟩, fun b hb => .inl hb⟩
  · intro id ob1 hid
    simp only [hget] at hid
    cases ho : σ.o[id]? with
    | none => rw [ho] at hid; simp at hid
    | some x =>
      rw [ho] at hid
      simp only [Option.map_some, Option.some.injEq] at hid
      cases x with
      | none => split at hid <;> simp [setFz] at hid
      | some ob =>
        obtain ⟨a1, cap1, n1, he1, hn1, hc1, hrest⟩ := H.sr.objs id ob ho
        split at hid
        · simp at hid; subst hid
          refine ⟨a1, cap1, n1, he1, hn1, hc1, ?_⟩
          cases a1 with
          | none => exact hrest
          | some b1 =>
            obtain ⟨h1, h2, cs1, t1, h3, h4, h5, h6⟩ := hrest
            exact ⟨h1, fun hf => .inl (h2 hf), cs1, t1, h3, h4, h5, CRr.mono hfx _ _ hle _ _ _ h6⟩
        · rename_i hmn
          obtain ⟨esz, el, cl, fz, bx⟩ := ob
          simp only [setFz, Option.some.injEq] at hid
          subst hid
          refine ⟨a1, cap1, n1, he1, hn1, hc1, ?_⟩
          cases a1 with
          | none => exact hrest
          | some b1 =>
            obtain ⟨h1, h2, cs1, t1, h3, h4, h5, h6⟩ := hrest
            exact ⟨h1, fun _ => .inr ⟨id, _, b1, _, _, _, by simpa using hmn, ho, he1, rfl⟩, cs1, t1, h3, h4, h5, CRr.mono hfx _ _ hle _ _ _ h6⟩
  · intro id b1 esz1 cap1 n1 he1
    obtain ⟨h1, h2⟩ := H.sr.own id b1 _ _ _ he1
    refine ⟨h1, fun hD => ?_⟩
    simp only [hget]
    rcases hD with hD | ⟨id', ob', b, esz, cap, n, hm, ho', heb, hbb⟩
    · obtain ⟨ob1, ho1, hf1⟩ := h2 hD
      rw [ho1]
      obtain ⟨esz, el, cl, fz, bx⟩ := ob1
      simp only at hf1
      subst hf1
      by_cases hm : (mp id).isSome = true
      · exact ⟨⟨esz, el, cl, true, bx⟩, by simp [hm], rfl⟩
      · exact ⟨⟨esz, el, cl, true, bx⟩, by simp [hm, setFz], rfl⟩
    · have := H.sr.sep id' id b b1 _ _ _ _ _ _ heb he1 hbb
      subst this
      obtain ⟨esz', el, cl, fz, bx⟩ := ob'
      exact ⟨⟨esz', el, cl, true, bx⟩, by simp [ho', hm, setFz], rfl⟩
  · intro c hc
    rcases hc with hc | ⟨id', ob', b, esz, cap, n, hm, ho', heb, rfl⟩
    · exact H.sr.dom c hc
    · exact (H.sr.own id' b _ _ _ heb).1
  · intro c hc hlt
    rcases hc with hc | ⟨id', ob', b, esz, cap, n, hm, ho', heb, rfl⟩
    · exact H.old c hc hlt
    · have hge : np ≤ id' := by
        rcases Nat.lt_or_ge id' np with h' | h'
        · rw [hmp id' h'] at hm; cases hm
        · exact h'
      have := H.newer hge heb
      omega
end
end Go.Proofs.Ytkjbjgndinjdpaa
