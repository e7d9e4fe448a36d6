/- Part 2 of the proof: an abstract machine over the model; contracts of the functions that the law reaches. -/
import Derived.Test.YtkchcffmefbomaaGreatDoorKFUT1
set_option linter.unusedVariables false
set_option linter.unusedSimpArgs false
namespace Go.Proofs.YtkchcffmefbomaaGreatDoor
open Go
set_option maxRecDepth 100000
set_option maxHeartbeats 1000000

section

variable {X : Pk} {N np : Nat} {G : Ctx} {D : Nat → Prop} {e : List ALoc} {σ σ' : State} {a : Act} {w : World}

theorem lt_of_some {α : Type} {l : List α} {i : Nat} {x : α} (h : l[i]? = some x) : i < l.length := by
  rcases Nat.lt_or_ge i l.length with h' | h'
  · exact h'
  · rw [List.getElem?_eq_none h'] at h; cases h

theorem reO_esz {mp : Nat → Option Nat} {rn : Nat → Nat} {o : List (Option AObj)} {x ob : AObj} (h : renO rn (some x) = some ob) :
    ob.esz = x.esz ∧ ob.fz = x.fz ∧ ob.elems.length = x.elems.length ∧ ob.clean = x.clean ∧ (x.clean = true → ob.elems = x.elems) ∧ (x.clean = false → ob.elems = renR rn x.elems) := by
  obtain ⟨esz, elems, clean, fz, box⟩ := x
  cases clean with
  | true => simp only [renO, Option.some.injEq] at h; subst h; simp
  | false => simp only [renO, Option.some.injEq] at h; subst h; simp [renR_length]

/-- Behind a call. 'C': blocks of objects that were given up to the callee. -/
theorem Rel.calledC (H : Rel N np G D e σ a w) (C : Nat → Prop) (c1 : ∀ b, C b → ¬ D b) (c2 : ∀ (id : Nat) (b : Addr) (esz cap n : Nat), e[id]? = some (.live (some b) esz cap n) → ¬ C b.block)
    (c4 : ∀ b, C b → Wof G.e0 b ∨ G.w0.heap.size ≤ b) (c5 : ∀ b, C b → b < G.w0.heap.size → Cof np G.e0 b) {js : List Nat} (hnd : nodupB js = true) (hobj : ∀ id ∈ js, ∃ ob, σ.o[id]? = some (some ob) ∧ ob.fz = false)
    {w' : World} {D' : Nat → Prop} {e' : List ALoc} {o' : List (Option AObj)} (hsr : SR D' w'.heap e' o') (hext : Ext w (fun b => Wof (pickE e js) b ∨ C b) w')
    (hnew : ∀ (id : Nat) (b : Addr) (esz cap n : Nat), e'[id]? = some (.live (some b) esz cap n) → Wof (pickE e js) b.block ∨ C b.block ∨ w.heap.size ≤ b.block)
    (hold : ∀ b, D' b → b < w.heap.size → D b ∨ C b) (hkeep : ∀ id, id < (pickE e js).length → e'[id]? = (pickE e js)[id]?) (hlen : (pickE e js).length ≤ o'.length) :
    ∃ D'' e'', Rel N np G D'' e'' ⟨σ.ρ, updJs (rnOf js σ.o.length) σ.o js o' ++ mapO (rnOf js σ.o.length) (dropN js.length o'), σ.k⟩ a w' ∧
      (∀ t v, TR D' w'.heap e' t v → TR D'' w'.heap e'' (renT (rnOf js σ.o.length) t) v) ∧ Pres (fun id => id ∈ js) D e w.heap D'' e'' w'.heap := by
  have hjl : (pickE e js).length = js.length := pickE_length e js
  rw [hjl] at hkeep hlen
  have hnd' := nodupB_spec hnd
  have hel := H.sr.len
  have hel' := hsr.len
  -- which of the caller's objects stands behind the callee's number j
  have hpick : ∀ (j id : Nat), js[j]? = some id → ∀ (l : ALoc), e[id]? = some l → (pickE e js)[j]? = some l := by
    intro j id hj l hl
    rw [pickE_get, hj]; simp [List.getD, hl]
  have hpe : ∀ (j id : Nat), js[j]? = some id → e'[j]? = e[id]? := by
    intro j id hj
    rw [hkeep j (lt_of_some hj)]
    obtain ⟨ob, ho, _⟩ := hobj id (List.mem_of_getElem? hj)
    obtain ⟨aa, cap, n, he, _⟩ := H.sr.objs id ob ho
    rw [he]; exact hpick j id hj _ he
  have hWof : ∀ b, Wof (pickE e js) b → ∃ (j id : Nat) (ad : Addr) (esz cap n : Nat), js[j]? = some id ∧ e[id]? = some (.live (some ad) esz cap n) ∧ ad.block = b := by
    rintro b ⟨j, ad, esz, cap, n, hj, hb⟩
    rw [pickE_get] at hj
    cases hi : js[j]? with
    | none => rw [hi] at hj; simp at hj
    | some id =>
      rw [hi] at hj
      simp only [Option.map_some, List.getD, Option.some.injEq] at hj
      cases hid : e[id]? with
      | none => rw [hid] at hj; simp at hj
      | some l => rw [hid] at hj; simp at hj; subst hj; exact ⟨j, id, ad, esz, cap, n, hi, hid, hb⟩
  have hWnD : ∀ b, Wof (pickE e js) b → ¬ D b := by
    intro b hb hD
    obtain ⟨j, id, ad, esz, cap, n, hj, he, rfl⟩ := hWof b hb
    obtain ⟨ob, ho, hf⟩ := hobj id (List.mem_of_getElem? hj)
    obtain ⟨ob', ho', hf'⟩ := (H.sr.own id ad _ _ _ he).2 hD
    rw [ho] at ho'; simp at ho'; subst ho'; rw [hf] at hf'; cases hf'
  let D'' : Nat → Prop := fun c => D c ∨ D' c
  let e'' : List ALoc := e ++ e'.drop js.length
  have hfx : Fixes D D'' w.heap w'.heap := fun c hc => ⟨.inl hc, hext.block c (H.sr.dom c hc) (fun hW => hW.elim (fun h => hWnD c h hc) (fun h => c1 c h hc))⟩
  have hfx' : Fixes D' D'' w'.heap w'.heap := fun c hc => ⟨.inr hc, rfl⟩
  have hle : Leads e e'' := leads_app e _
  have he''old : ∀ (id : Nat), id < e.length → e''[id]? = e[id]? := fun id hid => List.getElem?_append_left hid
  have he''new : ∀ (i : Nat), e''[e.length + i]? = e'[js.length + i]? := by
    intro i
    show (e ++ e'.drop js.length)[e.length + i]? = _
    rw [List.getElem?_append_right (by omega), List.getElem?_drop]; congr 1; omega
  -- the callee's numbers, renumbered
  have hren : ∀ (id : Nat) (l : ALoc), e'[id]? = some l → e''[rnOf js σ.o.length id]? = some l := by
    intro id l hl
    unfold rnOf
    split
    · rename_i id' hn
      rw [nth_eq] at hn
      have := hpe id id' hn
      rw [hl] at this
      rw [he''old id' (lt_of_some this.symm)]; exact this.symm
    · rename_i hn
      rw [nth_eq] at hn
      have hge : js.length ≤ id := by
        rcases Nat.lt_or_ge id js.length with h' | h'
        · rw [List.getElem?_eq_getElem h'] at hn; cases hn
        · exact h'
      rw [← hel, he''new, show js.length + (id - js.length) = id by omega]; exact hl
  have hTR : ∀ t v, TR D' w'.heap e' t v → TR D'' w'.heap e'' (renT (rnOf js σ.o.length) t) v := fun t v ht =>
    renT_spec hren t v (TR.mono hfx' (Leads.refl _) t v ht)
  have hWlt : ∀ b, Wof (pickE e js) b → b < w.heap.size := by
    intro b hb
    obtain ⟨j, id, ad, esz, cap, n, hj, he, rfl⟩ := hWof b hb
    exact (H.sr.own id ad _ _ _ he).1
  -- an object of the callee's, told to the caller
  have hobjs' : ∀ (j : Nat) (x ob : AObj), o'[j]? = some (some x) → renO (rnOf js σ.o.length) (some x) = some ob → ∃ aa cap n, e'[j]? = some (.live aa ob.esz cap n) ∧ ObjR D'' w'.heap e'' ob aa cap n := by
    intro j x ob hj hr
    obtain ⟨aa, cap, n, he, hn, hcl, hrest⟩ := hsr.objs j x hj
    obtain ⟨h1, h2, h3, h4, h5, h6⟩ := reO_esz (mp := fun _ => none) (o := []) hr
    refine ⟨aa, cap, n, by rw [h1]; exact he, by rw [h3]; exact hn, fun hc => ?_, ?_⟩
    · rw [h4] at hc; rw [h5 hc]; exact hcl hc
    · cases aa with
      | none =>
        obtain ⟨q1, q2⟩ := hrest
        refine ⟨?_, q2⟩
        have : ob.elems.length = 0 := by rw [h3, q1]; rfl
        exact List.eq_nil_of_length_eq_zero this
      | some b =>
        obtain ⟨q1, q2, cells, t, q3, q4, q5, q6⟩ := hrest
        refine ⟨q1, fun hf => .inr (q2 (h2 ▸ hf)), cells, t, q3, q4, by rw [h1]; exact q5, ?_⟩
        rw [h1]
        cases hc : x.clean with
        | true =>
          rw [h5 hc]
          exact CRr.mono hfx' _ _ (Leads.refl _) _ _ _ (CRr.env e' e'' _ _ _ (hcl hc) q6)
        | false =>
          rw [h6 hc]
          exact CRr.mono hfx' _ _ (Leads.refl _) _ _ _ (renR_spec hren _ _ _ q6)
  have holen : (updJs (rnOf js σ.o.length) σ.o js o').length = σ.o.length := updJs_length _ _ _ _
  refine ⟨D'', e'', ⟨H.hnp, by simp only [List.length_append, holen]; have := H.nple; omega, ?_, H.defers, H.size, fun t => TR.mono hfx hle _ _ (H.tmps t), ⟨?_, ?_, ?_, ?_, ?_⟩, ?_, ?_, ?_⟩, hTR, hfx, fun id hid b esz cap n he => ⟨by rw [he''old id (lt_of_some he)]; exact he, hext.block _ (H.sr.own id b _ _ _ he).1 (fun hWC => by
    rcases hWC with hW | hC
    case inr => exact c2 id b _ _ _ he hC
    obtain ⟨j, id', ad, esz', cap', n', hj, he', hb⟩ := hWof _ hW
    have := H.sr.sep id' id ad b _ _ _ _ _ _ he' he hb
    subst this
    exact hid (List.mem_of_getElem? hj))⟩⟩
  · -- the frame
    refine ⟨hext.os.trans H.ext.os, hext.tape.trans H.ext.tape, hext.output.trans H.ext.output, Nat.le_trans H.ext.size hext.size, fun b hb hW => ?_⟩
    rw [hext.block b (by have := H.ext.size; omega) (fun hWb => ?_)]
    · exact H.ext.block b hb hW
    · rcases hWb with hWb | hC
      case inr =>
        rcases c4 b hC with h' | h'
        · exact hW h'
        · omega
      obtain ⟨j, id, ad, esz, cap, n, hj, he, rfl⟩ := hWof b hWb
      rcases H.new id ad _ _ _ he with h' | h'
      · exact hW h'
      · omega
  · show (e ++ e'.drop js.length).length = _
    simp only [List.length_append, holen, mapO_length, dropN_eq, List.length_drop, hel, hel']
  · -- objects
    intro id ob hid
    simp only [List.getElem?_append, holen] at hid
    by_cases hlt : id < σ.o.length
    · rw [if_pos hlt, updJs_get _ _ _ _ _ hnd' hlen] at hid
      rw [he''old id (by rw [hel]; exact hlt)]
      cases hi : idxOf js id 0 with
      | some j =>
        rw [hi] at hid
        simp only [hlt, if_true] at hid
        have hj := (idxOf_spec hi).2
        simp only [Nat.sub_zero] at hj
        cases hx : o'[j]? with
        | none => rw [hx] at hid; simp at hid
        | some x =>
          rw [hx] at hid
          simp only [Option.map_some, Option.some.injEq] at hid
          cases x with
          | none => simp [renO] at hid
          | some x =>
            obtain ⟨aa, cap, n, he, hob⟩ := hobjs' j x ob hx hid
            exact ⟨aa, cap, n, by rw [← hpe j id hj]; exact he, hob⟩
      | none =>
        rw [hi] at hid
        simp only at hid
        obtain ⟨aa, cap, n, he, hn, hcl, hrest⟩ := H.sr.objs id ob hid
        refine ⟨aa, cap, n, he, hn, hcl, ?_⟩
        cases aa with
        | none => exact hrest
        | some b =>
          obtain ⟨q1, q2, cells, t, q3, q4, q5, q6⟩ := hrest
          have hblk : w'.heap[b.block]? = w.heap[b.block]? := hext.block _ (H.sr.own id b _ _ _ he).1 (fun hWC => by
            rcases hWC with hW | hC
            case inr => exact c2 id b _ _ _ he hC
            obtain ⟨j, id', ad, esz, cap', n', hj, he', hb⟩ := hWof _ hW
            have := H.sr.sep id' id ad b _ _ _ _ _ _ he' he hb
            subst this
            obtain ⟨i, hi'⟩ := idxOf_some (m := 0) hj
            rw [hi] at hi'; cases hi')
          exact ⟨q1, fun hf => .inl (q2 hf), cells, t, by rw [hblk]; exact q3, q4, q5, CRr.mono hfx _ _ hle _ _ _ q6⟩
    · rw [if_neg hlt] at hid
      rw [mapO_get, dropN_eq, List.getElem?_drop] at hid
      cases hx : o'[js.length + (id - σ.o.length)]? with
      | none => rw [hx] at hid; simp at hid
      | some x =>
        rw [hx] at hid
        simp only [Option.map_some, Option.some.injEq] at hid
        cases x with
        | none => simp [renO] at hid
        | some x =>
          obtain ⟨aa, cap, n, he, hob⟩ := hobjs' _ x ob hx hid
          refine ⟨aa, cap, n, ?_, hob⟩
          rw [show id = e.length + (id - σ.o.length) by rw [hel]; omega, he''new]
          exact he
  · -- what is own is not read zs data
    intro id b esz cap n he
    rcases Nat.lt_or_ge id e.length with hlt | hge
    · rw [he''old id hlt] at he
      have h1 := H.sr.own id b _ _ _ he
      refine ⟨Nat.lt_of_lt_of_le h1.1 hext.size, fun hD => ?_⟩
      have hDb : D b.block := by
        rcases hD with hD | hD
        · exact hD
        · exact (hold _ hD h1.1).elim (fun h => h) (fun h => (c2 id b _ _ _ he h).elim)
      obtain ⟨ob, ho, hf⟩ := h1.2 hDb
      refine ⟨ob, ?_, hf⟩
      simp only [List.getElem?_append, holen]
      rw [if_pos (lt_of_some ho), updJs_get _ _ _ _ _ hnd' hlen]
      cases hi : idxOf js id 0 with
      | none => exact ho
      | some j =>
        have hj := (idxOf_spec hi).2
        simp only [Nat.sub_zero] at hj
        obtain ⟨ob', ho', hf'⟩ := hobj id (List.mem_of_getElem? hj)
        rw [ho] at ho'; simp at ho'; subst ho'; rw [hf] at hf'; cases hf'
    · obtain ⟨i, rfl⟩ : ∃ i, id = e.length + i := ⟨id - e.length, by omega⟩
      rw [he''new] at he
      have h1 := hsr.own _ b _ _ _ he
      have hge' : C b.block ∨ w.heap.size ≤ b.block := by
        rcases hnew _ b _ _ _ he with hW | hC | h'
        · obtain ⟨j, id', ad, esz', cap', n', hj, he', hb⟩ := hWof _ hW
          have hj' := hpe j id' hj
          rw [he'] at hj'
          have := hsr.sep j (js.length + i) ad b _ _ _ _ _ _ hj' he hb
          have := lt_of_some hj
          omega
        · exact .inl hC
        · exact .inr h'
      refine ⟨h1.1, fun hD => ?_⟩
      rcases hD with hD | hD
      · rcases hge' with hC | hge'
        · exact (c1 _ hC hD).elim
        · have := H.sr.dom _ hD; omega
      · obtain ⟨x, hx, hf⟩ := h1.2 hD
        obtain ⟨esz', elems, clean, fz, box⟩ := x
        simp only at hf
        subst hf
        have hget : (updJs (rnOf js σ.o.length) σ.o js o' ++ mapO (rnOf js σ.o.length) (dropN js.length o'))[e.length + i]? = some (renO (rnOf js σ.o.length) (some ⟨esz', elems, clean, true, box⟩)) := by
          rw [List.getElem?_append_right (by rw [holen, hel]; omega), mapO_get, dropN_eq, List.getElem?_drop, holen, hel, show js.length + (σ.o.length + i - σ.o.length) = js.length + i by omega, hx]
          rfl
        cases clean with
        | true => exact ⟨⟨esz', elems, true, true, box⟩, hget, rfl⟩
        | false => exact ⟨⟨esz', _, false, true, box⟩, hget, rfl⟩
  · -- no two lie in one block
    intro id id' b b' esz cap n esz' cap' n' he he' hb
    have hnewge : ∀ (i : Nat) (b : Addr) (esz cap n : Nat), e'[js.length + i]? = some (.live (some b) esz cap n) → C b.block ∨ w.heap.size ≤ b.block := by
      intro i b esz cap n he
      rcases hnew _ b _ _ _ he with hW | hC | h'
      · obtain ⟨j, id', ad, esz', cap', n', hj, he', hb⟩ := hWof _ hW
        have hj' := hpe j id' hj
        rw [he'] at hj'
        have := hsr.sep j (js.length + i) ad b _ _ _ _ _ _ hj' he hb
        have := lt_of_some hj
        omega
      · exact .inl hC
      · exact .inr h'
    rcases Nat.lt_or_ge id e.length with hlt | hge <;> rcases Nat.lt_or_ge id' e.length with hlt' | hge'
    · rw [he''old id hlt] at he; rw [he''old id' hlt'] at he'
      exact H.sr.sep id id' b b' _ _ _ _ _ _ he he' hb
    · obtain ⟨i, rfl⟩ : ∃ i, id' = e.length + i := ⟨id' - e.length, by omega⟩
      rw [he''old id hlt] at he; rw [he''new] at he'
      have h1 := (H.sr.own id b _ _ _ he).1
      rcases hnewge i b' _ _ _ he' with h2 | h2
      · rw [← hb] at h2; exact (c2 id b _ _ _ he h2).elim
      · omega
    · obtain ⟨i, rfl⟩ : ∃ i, id = e.length + i := ⟨id - e.length, by omega⟩
      rw [he''old id' hlt'] at he'; rw [he''new] at he
      have h1 := (H.sr.own id' b' _ _ _ he').1
      rcases hnewge i b _ _ _ he with h2 | h2
      · rw [hb] at h2; exact (c2 id' b' _ _ _ he' h2).elim
      · omega
    · obtain ⟨i, rfl⟩ : ∃ i, id = e.length + i := ⟨id - e.length, by omega⟩
      obtain ⟨i', rfl⟩ : ∃ i, id' = e.length + i := ⟨id' - e.length, by omega⟩
      rw [he''new] at he he'
      have := hsr.sep _ _ b b' _ _ _ _ _ _ he he' hb
      omega
  · intro b hD
    rcases hD with hD | hD
    · exact Nat.lt_of_lt_of_le (H.sr.dom b hD) hext.size
    · exact hsr.dom b hD
  · intro id b esz cap n he
    rcases Nat.lt_or_ge id e.length with hlt | hge
    · rw [he''old id hlt] at he; exact H.new id b _ _ _ he
    · obtain ⟨i, rfl⟩ : ∃ i, id = e.length + i := ⟨id - e.length, by omega⟩
      rw [he''new] at he
      rcases hnew _ b _ _ _ he with hW | hC | h'
      · obtain ⟨j, id', ad, esz', cap', n', hj, he', hb⟩ := hWof _ hW
        rw [← hb]; exact H.new id' ad _ _ _ he'
      · exact c4 _ hC
      · exact .inr (Nat.le_trans H.ext.size h')
  · intro b hD hlt
    rcases hD with hD | hD
    · exact H.old b hD hlt
    · rcases hold b hD (Nat.lt_of_lt_of_le hlt H.ext.size) with h | h
      · exact H.old b h hlt
      · exact .inr (c5 b h hlt)
  · intro id hid
    have h1 := H.nple
    rw [he''old id (by rw [hel]; omega)]
    exact H.keep id hid

theorem Rel.called (H : Rel N np G D e σ a w) {js : List Nat} (hnd : nodupB js = true) (hobj : ∀ id ∈ js, ∃ ob, σ.o[id]? = some (some ob) ∧ ob.fz = false)
    {w' : World} {D' : Nat → Prop} {e' : List ALoc} {o' : List (Option AObj)} (hsr : SR D' w'.heap e' o') (hext : Ext w (Wof (pickE e js)) w')
    (hnew : ∀ (id : Nat) (b : Addr) (esz cap n : Nat), e'[id]? = some (.live (some b) esz cap n) → Wof (pickE e js) b.block ∨ w.heap.size ≤ b.block)
    (hold : ∀ b, D' b → b < w.heap.size → D b) (hkeep : ∀ id, id < (pickE e js).length → e'[id]? = (pickE e js)[id]?) (hlen : (pickE e js).length ≤ o'.length) :
    ∃ D'' e'', Rel N np G D'' e'' ⟨σ.ρ, updJs (rnOf js σ.o.length) σ.o js o' ++ mapO (rnOf js σ.o.length) (dropN js.length o'), σ.k⟩ a w' ∧
      (∀ t v, TR D' w'.heap e' t v → TR D'' w'.heap e'' (renT (rnOf js σ.o.length) t) v) ∧ Pres (fun id => id ∈ js) D e w.heap D'' e'' w'.heap :=
  H.calledC (fun _ => False) (fun _ h => h.elim) (fun _ _ _ _ _ _ h => h) (fun _ h => h.elim) (fun _ h => h.elim) hnd hobj hsr
    ⟨hext.os, hext.tape, hext.output, hext.size, fun b hb hW => hext.block b hb (fun h => hW (.inl h))⟩ (fun id b esz cap n he => (hnew id b esz cap n he).elim .inl (fun h => .inr (.inr h)))
    (fun b hb hlt => .inl (hold b hb hlt)) hkeep hlen

end

def foldC (f : C → List Nat → List Nat) : List C → List Nat → List Nat
  | [], acc => acc
  | c :: cs, acc => foldC f cs (f c acc)

def foldR (f : C → List Nat → List Nat) : List (List C) → List Nat → List Nat
  | [], acc => acc
  | r :: rs, acc => foldR f rs (foldC f r acc)

/-- The objects that an argument speaks of, but for those that are passed. -/
def needC (js : List Nat) (o : List (Option AObj)) : Nat → C → List Nat → List Nat
  | 0, _, acc => acc
  | n + 1, c, acc => match c with
    | .os id _ _ _ => match memB id js with
      | true => acc
      | false => match nth o id with
        | some (some ⟨_, elems, false, _, _⟩) => foldR (needC js o n) elems (id :: acc)
        | _ => id :: acc
    | .op id _ _ => match memB id js with
      | true => acc
      | false => match nth o id with
        | some (some ⟨_, elems, false, _, _⟩) => foldR (needC js o n) elems (id :: acc)
        | _ => id :: acc
    | .fn _ caps => foldC (needC js o n) caps acc
    | _ => acc

abbrev needL (js : List Nat) (o : List (Option AObj)) (n : Nat) : List C → List Nat → List Nat := foldC (needC js o n)

mutual
def needT (js : List Nat) (o : List (Option AObj)) (n : Nat) : T → List Nat → List Nat
  | .one c, acc => needC js o n c acc
  | .agg cs, acc => needL js o n cs acc
  | .tup ts, acc => needTs js o n ts acc
  | .junk, acc => acc
def needTs (js : List Nat) (o : List (Option AObj)) (n : Nat) : List T → List Nat → List Nat
  | [], acc => acc
  | t :: ts, acc => needTs js o n ts (needT js o n t acc)
end

def fz1 (o : List (Option AObj)) (id : Nat) : List (Option AObj) := match nth o id with
  | some (some ⟨esz, el, cl, _, bx⟩) => setNth o id (some ⟨esz, el, cl, true, bx⟩)
  | _ => o

def fzL : List Nat → List (Option AObj) → List (Option AObj)
  | [], o => o
  | id :: ids, o => fzL ids (fz1 o id)

def allGe (np : Nat) : List Nat → Bool
  | [] => true
  | id :: ids => match Nat.ble np id with
    | true => allGe np ids
    | false => false

def evalArgs (σ : State) : List Operand → List T
  | [] => []
  | x :: xs => evalO σ x :: evalArgs σ xs

def onesT : List C → List T
  | [] => []
  | c :: cs => .one c :: onesT cs

def appT : List T → List T → List T
  | [], b => b
  | x :: a, b => x :: appT a b

theorem appT_eq : ∀ (a b : List T), appT a b = a ++ b
  | [], b => rfl
  | x :: a, b => by simp [appT, appT_eq a b]

def putS (dst : Option Nat) (x : T) (σ : State) : State := match dst, σ with
  | none, σ => σ
  | some d, ⟨ρ, o, κ⟩ => ⟨(d, x) :: ρ, o, κ⟩

def dstB (N : Nat) : Option Nat → Bool
  | none => true
  | some d => Nat.blt d N

theorem putS_eq {N : Nat} {dst : Option Nat} {x : T} {σ : State} (h : dstB N dst = true) : putT N dst x σ = some (putS dst x σ) := by
  cases dst with
  | none => rfl
  | some d => simp only [dstB] at h; cases σ; simp [putT, putS, h, forceT_eq]

def liveJs (o : List (Option AObj)) : List Nat → Bool
  | [] => true
  | id :: ids => match nth o id with
    | some (some ⟨_, _, _, false, _⟩) => liveJs o ids
    | _ => false

section

variable {X : Pk} {N np : Nat} {G : Ctx} {D : Nat → Prop} {e : List ALoc} {σ σ' : State} {a : Act} {w : World} {K : KP}

theorem pickE_new {e : List ALoc} {js : List Nat} {P : Nat → Prop} (h : ∀ (id : Nat) (b : Addr) (esz cap n : Nat), e[id]? = some (.live (some b) esz cap n) → P b.block) :
    ∀ (id : Nat) (b : Addr) (esz cap n : Nat), (pickE e js)[id]? = some (.live (some b) esz cap n) → P b.block := fun id b esz cap n he => by
  rw [pickE_get] at he
  cases hi : js[id]? with
  | none => rw [hi] at he; simp at he
  | some id' =>
    rw [hi] at he
    simp only [Option.map_some, List.getD, Option.some.injEq] at he
    cases hid : e[id']? with
    | none => rw [hid] at he; simp at he
    | some l => rw [hid] at he; simp at he; subst he; exact h id' b _ _ _ hid

theorem liveJs_spec : ∀ {js : List Nat} {o : List (Option AObj)}, liveJs o js = true → ∀ id ∈ js, ∃ ob, o[id]? = some (some ob) ∧ ob.fz = false
  | [], o, _, id, hid => by simp at hid
  | j :: js, o, h, id, hid => by
    simp only [liveJs] at h
    split at h
    · rename_i esz el cl bx hn
      rcases List.mem_cons.1 hid with rfl | hid
      · rw [nth_eq] at hn; exact ⟨_, hn, rfl⟩
      · exact liveJs_spec h id hid
    · cases h

theorem Rel.frz : ∀ (ids : List Nat) {σ : State} {D : Nat → Prop}, allGe np ids = true → Rel N np G D e σ a w → ∃ D', Rel N np G D' e ⟨σ.ρ, fzL ids σ.o, σ.k⟩ a w
  | [], σ, D, _, H => ⟨D, H⟩
  | id :: ids, σ, D, hg, H => by
    simp only [allGe] at hg
    split at hg
    · rename_i hb
      have hge := Nat.le_of_ble_eq_true hb
      have h1 : ∃ D', Rel N np G D' e ⟨σ.ρ, fz1 σ.o id, σ.k⟩ a w := by
        unfold fz1
        split
        · rename_i esz el cl fz bx hn
          rw [nth_eq] at hn
          rw [setNth_eq]
          exact H.freeze hn hge
        · exact ⟨D, H⟩
      obtain ⟨D', H'⟩ := h1
      exact Rel.frz ids hg H'
    · cases hg

theorem Rel.frz' : ∀ (ids : List Nat) {σ : State} {D : Nat → Prop}, allGe np ids = true → Rel N np G D e σ a w → ∃ D', Rel N np G D' e ⟨σ.ρ, fzL ids σ.o, σ.k⟩ a w ∧ (∀ b, D b → D' b)
  | [], σ, D, _, H => ⟨D, H, fun _ h => h⟩
  | id :: ids, σ, D, hg, H => by
    simp only [allGe] at hg
    split at hg
    · rename_i hb
      have hge := Nat.le_of_ble_eq_true hb
      have h1 : ∃ D', Rel N np G D' e ⟨σ.ρ, fz1 σ.o id, σ.k⟩ a w ∧ (∀ b, D b → D' b) := by
        unfold fz1
        split
        · rename_i esz el cl fz bx hn
          rw [nth_eq] at hn
          rw [setNth_eq]
          exact H.freeze' hn hge
        · exact ⟨D, H, fun _ h => h⟩
      obtain ⟨D', H', h'⟩ := h1
      obtain ⟨D2, H2, h2⟩ := Rel.frz' ids hg H'
      exact ⟨D2, H2, fun b hb => h2 b (h' b hb)⟩
    · cases hg

theorem Weak.fzL (ids : List Nat) (h : allGe np ids = true) : Weak N np σ ⟨σ.ρ, fzL ids σ.o, σ.k⟩ := fun H => by
  obtain ⟨D', H'⟩ := Rel.frz ids h H
  exact ⟨D', _, H'⟩

theorem evalArgs_spec (H : Rel N np G D e σ a w) : ∀ (xs : List Operand), TRs D w.heap e (evalArgs σ xs) (xs.map a.eval)
  | [] => by simp [evalArgs, TRs]
  | x :: xs => by simp only [evalArgs, List.map_cons, TRs]; exact ⟨_, _, rfl, H.ev x, evalArgs_spec H xs⟩

theorem TRs.append {h : Array Obj} : ∀ {ts us : List T} {vs xs : List Value}, TRs D h e ts vs → TRs D h e us xs → TRs D h e (ts ++ us) (vs ++ xs)
  | [], us, vs, xs, H, h1 => by simp only [TRs] at H; subst H; simpa using h1
  | t :: ts, us, vs, xs, H, h1 => by
    simp only [TRs] at H
    obtain ⟨x, r, rfl, h2, h3⟩ := H
    simp only [List.cons_append, TRs]
    exact ⟨x, r ++ xs, rfl, h2, TRs.append h3 h1⟩

theorem onesT_spec {h : Array Obj} : ∀ {cs : List C} {vs : List Value}, vs.length = cs.length → CRp D h e cs vs → TRs D h e (onesT cs) vs
  | [], vs, hl, _ => by simp at hl; subst hl; simp [onesT, TRs]
  | c :: cs, [], hl, _ => by simp at hl
  | c :: cs, v :: vs, hl, H => by
    simp only [CRp] at H
    simp only [onesT, TRs]
    exact ⟨v, vs, rfl, by simpa only [TR] using H.1, onesT_spec (by simpa using hl) H.2⟩

theorem run_call {P : Program} {o : Oper} {c : Operand} {xs : Array Operand} {ts : Array TypeId} {f : FuncId} {caps : Array Value} (hop : o.op = .call ⟨.value c, xs, ts⟩) (hv : a.eval c = .func (.func f) #[] caps) (hc : Callable P f) :
    (execOp a.eval o).run P w = .ok (.enter f (xs.map a.eval ++ caps)) w := by
  obtain ⟨fn, hf, hb, hn⟩ := hc
  have h1 : (callFunc f (xs.map a.eval ++ caps)).run P w = .ok (.enter f (xs.map a.eval ++ caps)) w := by
    simp only [callFunc, Sem.run_bind, run_program, Result.andThen_ok, hf, hn, Bool.false_eq_true, if_false, hb]
    rfl
  simp only [execOp, hop, resolve, hv, Deferred.ofValue, Sem.run_bind, Sem.run_pure, Result.andThen_ok, invoke]
  simpa using h1

/-- One operation of a region, from whatever memory: what it comes to, and what it leaves alone. -/
def StepA (X : Pk) (N np : Nat) (ops : Array Oper) (i : Nat) (md : Nat → Prop) (σ : State) (Post : State → Prop) : Prop :=
  ∀ {G : Ctx} {D : Nat → Prop} {e : List ALoc} {a : Act} {w : World} {Q : Exit → Act → World → Prop} {K' : Act → World → Prop}, Rel N np G D e σ a w →
    (∀ D' e' σ' a' w', Rel N np G D' e' σ' a' w' → Pres md D e w.heap D' e' w'.heap → Post σ' → K' a' w') → wpOp X.P ops Q i K' a w

theorem goal_step {ops : Array Oper} {i : Nat} {rest : List Nat} {k : List It} {md : Nat → Prop} {Post : State → Prop} (hs : StepA X N np ops i md σ Post) (h : ∀ σ', Post σ' → goal X N np K (.ops ops rest k) σ') :
    goal X N np K (.ops ops (i :: rest) k) σ := by
  intro G D e a w H
  rw [wpOps_cons]
  exact hs H fun D' e' σ' a' w' H' _ hP => h σ' hP G D' e' a' w' H'

/-- The state that a callee sees, and the one behind its return. -/
def callS (np : Nat) (js : List Nat) (σ : State) (ts : List T) : Option (State × List T × List (Option AObj)) :=
  match σ with
  | ⟨ρ, o, κ⟩ => match allGe np (needTs js o 4 ts []) with
    | false => none
    | true => forceO (fzL (needTs js o 4 ts []) o) fun o1 => match liveJs o1 js with
      | false => none
      | true => some (⟨ρ, o1, κ⟩, reTs (fun id => idxOf js id 0) o1 4 ts, pickO o1 4 js)

def appO : List (Option AObj) → List (Option AObj) → List (Option AObj)
  | [], b => b
  | x :: a, b => x :: appO a b

theorem appO_eq : ∀ (a b : List (Option AObj)), appO a b = a ++ b
  | [], b => rfl
  | x :: a, b => by simp [appO, appO_eq a b]

def retS (N : Nat) (js : List Nat) (dst : Option Nat) (σ1 : State) (r : T) (o' : List (Option AObj)) : Option State :=
  match σ1 with
  | ⟨ρ, o1, κ⟩ => lenK o1 0 fun n => forceO (appO (updJs (rnOf js n) o1 js o') (mapO (rnOf js n) (dropN js.length o'))) fun o2 => putT N dst (renT (rnOf js n) r) ⟨ρ, o2, κ⟩

theorem step_call {ops : Array Oper} {i : Nat} {dst : Option Nat} {c : Operand} {xs : Array Operand} {ts : Array TypeId} {ty : TypeId} {pos : String} {aft : Array Edge} {g : Option (Nat × Bool)}
    {f : FuncId} {caps : List C} {σ1 : State} {args : List T} {o1 : List (Option AObj)} {Φ : Post} (js : List Nat)
    (ho : nthA ops i = some ⟨dst, .call ⟨.value c, xs, ts⟩, ty, pos, aft, g⟩) (hg : guardOf N ops g σ = .go) (hc : evalO σ c = .one (.fn f caps))
    (hnd : nodupB js = true) (hd : dstB N dst = true)
    (hcs : callS np js σ (appT (evalArgs σ xs.toList) (onesT caps)) = some (σ1, args, o1)) (hcon : ACalls X f args o1 Φ) :
    StepA X N np ops i (fun id => id ∈ js) σ (fun σ2 => ∃ r o', Φ r o' ∧ retS N js dst σ1 r o' = some σ2) := by
  intro G D e a w Q K' H next
  rw [nthA_eq] at ho
  unfold callS at hcs
  obtain ⟨ρ, oo, κ⟩ := σ
  simp only at hcs
  split at hcs
  · cases hcs
  rename_i hge
  rw [forceO_eq] at hcs
  split at hcs
  · cases hcs
  rename_i hlv
  simp only [Option.some.injEq, Prod.mk.injEq] at hcs
  obtain ⟨rfl, hargs, ho1⟩ := hcs
  unfold wpOp
  simp only [ho, (guardOf_spec H (ops := ops) (o := ⟨dst, .call ⟨.value c, xs, ts⟩, ty, pos, aft, g⟩)).1 hg, if_true]
  left
  obtain ⟨D1, H1, hD1⟩ := Rel.frz' _ hge H
  generalize fzL (needTs js oo 4 (appT (evalArgs ⟨ρ, oo, κ⟩ xs.toList) (onesT caps)) []) oo = of at *
  have hcv := H1.ev c
  have hc1 : evalO ⟨ρ, of, κ⟩ c = .one (.fn f caps) := by rw [← hc]; cases c <;> rfl
  rw [hc1] at hcv
  simp only [TR, CR] at hcv
  obtain ⟨cv, hcv, hcl, hcr⟩ := hcv
  have hea : ∀ xs, evalArgs ⟨ρ, of, κ⟩ xs = evalArgs ⟨ρ, oo, κ⟩ xs := by
    intro xs
    induction xs with
    | nil => rfl
    | cons x xs ih => simp only [evalArgs, ih]; congr 1
  have hargs0 : TRs D1 w.heap e (appT (evalArgs ⟨ρ, oo, κ⟩ xs.toList) (onesT caps)) (xs.toList.map a.eval ++ cv.toList) := by
    rw [appT_eq]
    have := evalArgs_spec H1 xs.toList
    rw [hea] at this
    exact this.append (onesT_spec (by simpa using hcl) hcr)
  have hargs1 := reTs_spec (e1 := pickE e js) H1.sr (fun id j l => pick_map id j l) 4 _ _ hargs0
  simp only at hargs1
  rw [hargs] at hargs1
  have hsr1 := H1.sr.pick hnd 4
  simp only at hsr1
  rw [ho1] at hsr1
  have hlive := liveJs_spec hlv
  unfold Oper.wp
  rw [run_call rfl hcv hcon.1]
  simp only [Oper.upon]
  have hC := hcon.2 D1 (pickE e js) w (xs.toList.map a.eval ++ cv.toList) (G.gl.next H1.ext (pickE_new (P := fun n => Wof G.e0 n ∨ G.w0.heap.size ≤ n) H1.new)) hsr1 hargs1 (fun id b esz cap n he hD => by
    rw [pickE_get] at he
    cases hi : js[id]? with
    | none => rw [hi] at he; simp at he
    | some id' =>
      rw [hi] at he
      simp only [Option.map_some, List.getD, Option.some.injEq] at he
      cases hid : e[id']? with
      | none => rw [hid] at he; simp at he
      | some l =>
        rw [hid] at he; simp at he; subst he
        obtain ⟨ob, ho', hf⟩ := hlive id' (List.mem_of_getElem? hi)
        obtain ⟨ob', ho'', hf'⟩ := (H1.sr.own id' b _ _ _ hid).2 hD
        rw [ho'] at ho''; simp at ho''; subst ho''; rw [hf] at hf'; cases hf')
  have hvals : (xs.toList.map a.eval ++ cv.toList).toArray = xs.map a.eval ++ cv := by
    apply Array.ext'; simp
  rw [hvals] at hC
  refine hC.mono ?_
  rintro en w' ⟨v, r, o', D', e', rfl, hΦ, htr, hsr', hext, hnew, hold, hkeep, hlen⟩
  obtain ⟨D2, e2, H2, hT2, hP2⟩ := H1.called hnd hlive hsr' hext hnew hold hkeep hlen
  have hx := hT2 r v htr
  have H3 := H2.putv hx (putS_eq hd)
  refine next D2 e2 _ _ w' H3 ⟨fun b hb => hP2.1 b (hD1 b hb), hP2.2⟩ ⟨r, o', hΦ, ?_⟩
  simp only [retS, lenK_eq, Nat.zero_add, forceO_eq, appO_eq]
  exact putS_eq hd

mutual
def noFz : C → Bool
  | .fs (_ :: _) | .fp _ => false
  | .fn _ caps => noFzL caps
  | _ => true
def noFzL : List C → Bool
  | [] => true
  | c :: cs => noFz c && noFzL cs
end

def noFzR : List (List C) → Bool
  | [] => true
  | r :: rs => noFzL r && noFzR rs

mutual
def noFzT : T → Bool
  | .one c => noFz c
  | .agg cs => noFzL cs
  | .tup ts => noFzTs ts
  | .junk => true
def noFzTs : List T → Bool
  | [] => true
  | t :: ts => noFzT t && noFzTs ts
end

def noFzO : List (Option AObj) → Bool
  | [] => true
  | none :: r => noFzO r
  | some ob :: r => noFzR ob.elems && !ob.fz && noFzO r

mutual
theorem CR.sub {D D' : Nat → Prop} {h : Array Obj} (e : List ALoc) : ∀ (c : C) (y : Value), noFz c = true → CR D h e c y → CR D' h e c y
  | .bool b, y, _, H => by simpa [CR] using H
  | .int k n, y, _, H => by simpa [CR] using H
  | .str s, y, _, H => by simpa [CR] using H
  | .v x, y, _, H => by simpa [CR] using H
  | .fs [], y, _, H => by
    simp only [CR] at H ⊢
    obtain ⟨A, c, hy, hl, _⟩ := H
    exact ⟨A, c, hy, hl, .inl trivial⟩
  | .fs (_ :: _), y, hn, H => by simp [noFz] at hn
  | .fp cs, y, hn, H => by simp [noFz] at hn
  | .os id off len kc, y, hn, H => by simp only [CR] at H ⊢; exact H
  | .op id i off, y, hn, H => by simp only [CR] at H ⊢; exact H
  | .fn f caps, y, hn, H => by
    simp only [CR, noFz] at H hn ⊢
    obtain ⟨vs, hy, hl, hr⟩ := H
    exact ⟨vs, hy, hl, CRp.sub e caps _ hn hr⟩
  | .junk, y, _, H => by simpa [CR] using H
theorem CRp.sub {D D' : Nat → Prop} {h : Array Obj} (e : List ALoc) : ∀ (cs : List C) (vs : List Value), noFzL cs = true → CRp D h e cs vs → CRp D' h e cs vs
  | [], vs, _, H => by simp [CRp]
  | c :: cs, [], _, H => by simp [CRp] at H
  | c :: cs, v :: vs, hn, H => by
    simp only [CRp, noFzL, Bool.and_eq_true] at H hn ⊢
    exact ⟨CR.sub e c v hn.1 H.1, CRp.sub e cs vs hn.2 H.2⟩
end

theorem CRr.sub {D D' : Nat → Prop} {h : Array Obj} (e : List ALoc) (esz : Nat) : ∀ (rs : List (List C)) (vs : List Value), noFzR rs = true → CRr D h e esz rs vs → CRr D' h e esz rs vs
  | [], vs, _, H => by simp [CRr]
  | r :: rs, vs, hn, H => by
    simp only [CRr, noFzR, Bool.and_eq_true] at H hn ⊢
    exact ⟨H.1, CRp.sub e r vs hn.1 H.2.1, CRr.sub e esz rs _ hn.2 H.2.2⟩

mutual
theorem TR.sub {D D' : Nat → Prop} {h : Array Obj} (e : List ALoc) : ∀ (t : T) (y : Value), noFzT t = true → TR D h e t y → TR D' h e t y
  | .one c, y, hn, H => by simp only [TR, noFzT] at H hn ⊢; exact CR.sub e c y hn H
  | .agg cs, y, hn, H => by
    simp only [TR, noFzT] at H hn ⊢
    obtain ⟨vs, hy, hl, hr⟩ := H
    exact ⟨vs, hy, hl, CRp.sub e cs _ hn hr⟩
  | .tup ts, y, hn, H => by
    simp only [TR, noFzT] at H hn ⊢
    obtain ⟨vs, hy, hr⟩ := H
    exact ⟨vs, hy, TRs.sub e ts _ hn hr⟩
  | .junk, y, _, H => by simp [TR]
theorem TRs.sub {D D' : Nat → Prop} {h : Array Obj} (e : List ALoc) : ∀ (ts : List T) (vs : List Value), noFzTs ts = true → TRs D h e ts vs → TRs D' h e ts vs
  | [], vs, _, H => by simpa [TRs] using H
  | t :: ts, vs, hn, H => by
    simp only [TRs, noFzTs, Bool.and_eq_true] at H hn ⊢
    obtain ⟨x, r, hv, ht, hr⟩ := H
    exact ⟨x, r, hv, TR.sub e t x hn.1 ht, TRs.sub e ts r hn.2 hr⟩
end

theorem noFzO_get : ∀ {o : List (Option AObj)} {id : Nat} {ob : AObj}, noFzO o = true → o[id]? = some (some ob) → noFzR ob.elems = true ∧ ob.fz = false
  | [], id, ob, _, h => by simp at h
  | none :: r, 0, ob, _, h => by simp at h
  | none :: r, id + 1, ob, hn, h => by simp only [noFzO] at hn; exact noFzO_get hn (by simpa using h)
  | some x :: r, 0, ob, hn, h => by
    simp only [noFzO, Bool.and_eq_true, Bool.not_eq_true'] at hn
    simp at h; subst h; exact hn.1
  | some x :: r, id + 1, ob, hn, h => by
    simp only [noFzO, Bool.and_eq_true] at hn
    exact noFzO_get hn.2 (by simpa using h)

theorem SR.sub {D D' : Nat → Prop} {h : Array Obj} {e : List ALoc} {o : List (Option AObj)} (hn : noFzO o = true) (hD : ∀ b, D' b → D b) (H : SR D h e o) : SR D' h e o := by
  refine ⟨H.len, fun id ob hid => ?_, fun id b esz cap n he => ⟨(H.own id b _ _ _ he).1, fun hb => (H.own id b _ _ _ he).2 (hD _ hb)⟩, H.sep, fun b hb => H.dom b (hD b hb)⟩
  obtain ⟨a, cap, n, he, hnn, hcl, hrest⟩ := H.objs id ob hid
  obtain ⟨h1, h2⟩ := noFzO_get hn hid
  refine ⟨a, cap, n, he, hnn, hcl, ?_⟩
  cases a with
  | none => exact hrest
  | some b =>
    obtain ⟨q1, q2, cells, t, q3, q4, q5, q6⟩ := hrest
    exact ⟨q1, (fun hf => by rw [h2] at hf; cases hf), cells, t, q3, q4, q5, CRr.sub _ _ _ _ h1 q6⟩

/-- A call to which own objects are lent zs data: what comes back must not speak of data. -/
theorem step_lend {ops : Array Oper} {i : Nat} {dst : Option Nat} {c : Operand} {xs : Array Operand} {ts : Array TypeId} {ty : TypeId} {pos : String} {aft : Array Edge} {g : Option (Nat × Bool)}
    {f : FuncId} {caps : List C} {args : List T} {o1 : List (Option AObj)} {Φ : Post} {σ1 : State} (js : List Nat)
    (ho : nthA ops i = some ⟨dst, .call ⟨.value c, xs, ts⟩, ty, pos, aft, g⟩) (hg : guardOf N ops g σ = .go) (hc : evalO σ c = .one (.fn f caps))
    (hnd : nodupB js = true) (hd : dstB N dst = true) (hlv : liveJs σ.o js = true)
    (hcs : callS np js σ (appT (evalArgs σ xs.toList) (onesT caps)) = some (σ1, args, o1)) (hcon : ACalls X f args o1 Φ) (hno : ∀ r o', Φ r o' → noFzT r = true ∧ noFzO o' = true) :
    StepA X N np ops i (fun id => id ∈ js) σ (fun σ2 => ∃ r o', Φ r o' ∧ retS N js dst σ r o' = some σ2) := by
  intro G D e a w Q K' H next
  rw [nthA_eq] at ho
  unfold callS at hcs
  obtain ⟨ρ, oo, κ⟩ := σ
  simp only at hcs
  split at hcs
  · cases hcs
  rename_i hge
  rw [forceO_eq] at hcs
  split at hcs
  · cases hcs
  rename_i hlv1
  simp only [Option.some.injEq, Prod.mk.injEq] at hcs
  obtain ⟨rfl, hargs, ho1⟩ := hcs
  unfold wpOp
  simp only [ho, (guardOf_spec H (ops := ops) (o := ⟨dst, .call ⟨.value c, xs, ts⟩, ty, pos, aft, g⟩)).1 hg, if_true]
  left
  obtain ⟨D1, H1, hD1⟩ := Rel.frz' _ hge H
  generalize fzL (needTs js oo 4 (appT (evalArgs ⟨ρ, oo, κ⟩ xs.toList) (onesT caps)) []) oo = of at *
  have hcv := H1.ev c
  have hc1 : evalO ⟨ρ, of, κ⟩ c = .one (.fn f caps) := by rw [← hc]; cases c <;> rfl
  rw [hc1] at hcv
  simp only [TR, CR] at hcv
  obtain ⟨cv, hcv, hcl, hcr⟩ := hcv
  have hea : ∀ xs, evalArgs ⟨ρ, of, κ⟩ xs = evalArgs ⟨ρ, oo, κ⟩ xs := by
    intro xs
    induction xs with
    | nil => rfl
    | cons x xs ih => simp only [evalArgs, ih]; congr 1
  have hargs0 : TRs D1 w.heap e (appT (evalArgs ⟨ρ, oo, κ⟩ xs.toList) (onesT caps)) (xs.toList.map a.eval ++ cv.toList) := by
    rw [appT_eq]
    have := evalArgs_spec H1 xs.toList
    rw [hea] at this
    exact this.append (onesT_spec (by simpa using hcl) hcr)
  have hargs1 := reTs_spec (e1 := pickE e js) H1.sr (fun id j l => pick_map id j l) 4 _ _ hargs0
  simp only at hargs1
  rw [hargs] at hargs1
  have hsr1 := H1.sr.pick hnd 4
  simp only at hsr1
  rw [ho1] at hsr1
  have hlive := liveJs_spec hlv1
  unfold Oper.wp
  rw [run_call rfl hcv hcon.1]
  simp only [Oper.upon]
  have hC := hcon.2 D1 (pickE e js) w (xs.toList.map a.eval ++ cv.toList) (G.gl.next H1.ext (pickE_new (P := fun n => Wof G.e0 n ∨ G.w0.heap.size ≤ n) H1.new)) hsr1 hargs1 (fun id b esz cap n he hD => by
    rw [pickE_get] at he
    cases hi : js[id]? with
    | none => rw [hi] at he; simp at he
    | some id' =>
      rw [hi] at he
      simp only [Option.map_some, List.getD, Option.some.injEq] at he
      cases hid : e[id']? with
      | none => rw [hid] at he; simp at he
      | some l =>
        rw [hid] at he; simp at he; subst he
        obtain ⟨ob, ho', hf⟩ := hlive id' (List.mem_of_getElem? hi)
        obtain ⟨ob', ho'', hf'⟩ := (H1.sr.own id' b _ _ _ hid).2 hD
        rw [ho'] at ho''; simp at ho''; subst ho''; rw [hf] at hf'; cases hf')
  have hvals : (xs.toList.map a.eval ++ cv.toList).toArray = xs.map a.eval ++ cv := by
    apply Array.ext'; simp
  rw [hvals] at hC
  refine hC.mono ?_
  rintro en w' ⟨v, r, o', D', e', rfl, hΦ, htr, hsr', hext, hnew, hold, hkeep, hlen⟩
  obtain ⟨hno1, hno2⟩ := hno r o' hΦ
  have hsr2 : SR (fun b => D' b ∧ (b < w.heap.size → D b)) w'.heap e' o' := hsr'.sub hno2 (fun b hb => hb.1)
  have htr2 : TR (fun b => D' b ∧ (b < w.heap.size → D b)) w'.heap e' r v := TR.sub _ _ _ hno1 htr
  obtain ⟨D2, e2, H2, hT2, hP2⟩ := H.called hnd (liveJs_spec hlv) hsr2 hext hnew (fun b hb hlt => hb.2 hlt) hkeep hlen
  have hx := hT2 r v htr2
  have H3 := H2.putv hx (putS_eq hd)
  refine next D2 e2 _ _ w' H3 hP2 ⟨r, o', hΦ, ?_⟩
  simp only [retS, lenK_eq, Nat.zero_add, forceO_eq, appO_eq]
  exact putS_eq hd

theorem step_did {ops : Array Oper} {i : Nat} {kd : Kd} {o : Oper} (ho : nthA ops i = some o) (hg : guardOf N ops o.guard σ = .go)
    (hd : ∀ {G : Ctx} {D : Nat → Prop} {e : List ALoc} {a : Act} {w : World}, Rel N np G D e σ a w → Did X N np G D e o a w kd σ σ') :
    StepA X N np ops i (mdOf kd) σ (fun σ2 => σ2 = σ') := by
  intro G D e a w Q K' H next
  rw [nthA_eq] at ho
  unfold wpOp
  simp only [ho, (guardOf_spec H (ops := ops)).1 hg, if_true]
  left
  obtain ⟨D', e', n, v, w', hr, hn, H', hP⟩ := (hd H).out H
  unfold Oper.wp
  rw [hr]
  rcases hn with rfl | ⟨rfl, rfl⟩
  · simp only [Oper.upon]; exact next _ _ _ _ _ H' hP rfl
  · simp only [Oper.upon]; exact next _ _ _ _ _ H' hP rfl

end

section

variable {X : Pk} {N np : Nat} {K : KP} {σ σ' : State} {ops : Array Oper} {i : Nat} {rest : List Nat} {k : List It} {dst : Option Nat} {ty : TypeId} {pos : String} {aft : Array Edge} {g : Option (Nat × Bool)}

/-- From whatever memory: the operation does what 'σ'' tells. -/
def DidA (X : Pk) (N np : Nat) (o : Oper) (kd : Kd) (σ σ' : State) : Prop :=
  ∀ {G : Ctx} {D : Nat → Prop} {e : List ALoc} {a : Act} {w : World}, Rel N np G D e σ a w → Did X N np G D e o a w kd σ σ'

theorem goal_did {kd : Kd} {o : Oper} (ho : nthA ops i = some o) (hg : guardOf N ops o.guard σ = .go) (hd : DidA X N np o kd σ σ') (h : goal X N np K (.ops ops rest k) σ') : goal X N np K (.ops ops (i :: rest) k) σ := by
  rw [nthA_eq] at ho
  exact AOps_did ho (fun H => (guardOf_spec H (ops := ops)).1 hg) hd h

theorem dA_step {o : Oper} (hp : stepOp X.L N o.dst o.op σ = some σ') : DidA X N np o (kindOf o.op σ) σ σ' := fun H => did_step H hp

theorem run_indexAt {P : Program} {t s : Nat} {ti te : TI} (hti : TIok P t ti) (hk : ti.kind = 2) (hte : TIok P ti.elem te) (hs : te.size = s) {ad : Addr} {l c : Nat} {kk : IntKind} {n : Int} (h0 : 0 ≤ n) (h1 : n < l) (w : World) :
    (Instr.indexAt t (.slice (some ad) l c) (.int kk n)).run P w = .ok (.pointer (some (ad.add (n.toNat * s)))) w := by
  have hu := hti.slice hk
  have hz := hte.sizeOf w
  rw [hs] at hz
  simp [Instr.indexAt, asIntOf, run_underlying hu, h0, h1, hz]

/-- xs[n], xs data. -/
theorem dA_index {o : Oper} {t : TypeId} {x ix : Operand} {xs : List (List C)} {kk : IntKind} {n : Int} (row : List C) {ti te : TI}
    (ho : o.op = .indexAddr t x ix) (hti : findTI X.L t = some ti) (hk : ti.kind = 2) (hte : findTI X.L ti.elem = some te)
    (hx : evalO σ x = .one (.fs xs)) (hi : evalO σ ix = .one (.int kk n)) (hd : dstB N o.dst = true)
    (h0 : 0 ≤ n) (h1 : n < xs.length) (hrow : xs[n.toNat]? = some row) (hl : row.length = te.size) : DidA X N np o (.q none) σ (putS o.dst (.one (.fp row)) σ) := fun {G D e a w} H => by
  have hx' := H.ev x
  rw [hx] at hx'
  simp only [TR, CR] at hx'
  obtain ⟨A, c, hxv, hlc, hr⟩ := hx'
  have hiv := one_int (hi ▸ H.ev ix)
  rcases hr with hr | ⟨ad, cells, tt, fr, esz, rfl, hs, hD, hh, hr⟩
  · subst hr; simp at h1; omega
  · have hrr := CRr.get hr hrow
    have hes : te.size = esz := by rw [← hrr.1, hl]
    refine Did.pure H (v := .pointer (some (ad.add (n.toNat * esz)))) (fun w _ => ?_) ?_ (putS_eq hd)
    · simp only [execOp, ho, hxv, hiv, Sem.run_bind, run_indexAt (X.tiok hti) hk (X.tiok hte) hes h0 h1, Result.andThen_ok, Sem.run_pure]
    · simp only [TR, CR, add_eq ad _ hs]
      refine ⟨_, cells, tt, fr, rfl, rfl, hD, hh, ?_⟩
      have := hrr.2
      rw [List.drop_drop] at this
      exact this

/-- xs[n], xs an own object's. -/
theorem dA_indexOwn {o : Oper} {t : TypeId} {x ix : Operand} {id off len kc : Nat} {kk : IntKind} {n : Int} {ob : AObj} {ti te : TI}
    (ho : o.op = .indexAddr t x ix) (hti : findTI X.L t = some ti) (hk : ti.kind = 2) (hte : findTI X.L ti.elem = some te)
    (hx : evalO σ x = .one (.os id off len kc)) (hi : evalO σ ix = .one (.int kk n)) (hob : getObj? σ id = some ob) (hes : ob.esz = te.size) (hd : dstB N o.dst = true)
    (h0 : 0 ≤ n) (h1 : n < len) : DidA X N np o (.q none) σ (putS o.dst (.one (.op id (off + n.toNat) 0)) σ) := fun {G D e a w} H => by
  obtain ⟨aa, cap, nn, he, hobr⟩ := H.sr.objs id ob (getObj?_eq hob)
  have hx' := H.ev x
  rw [hx] at hx'
  simp only [TR, CR, he] at hx'
  obtain ⟨A, c, hxv, h2, h3, h4, hr⟩ := hx'
  have hiv := one_int (hi ▸ H.ev ix)
  rcases hr with hr | ⟨b, rfl, rfl, h5⟩
  · omega
  · refine Did.pure H (v := .pointer (some ⟨b.block, b.off + off * ob.esz + n.toNat * ob.esz, none⟩)) (fun w _ => ?_) ?_ (putS_eq hd)
    · simp only [execOp, ho, hxv, hiv, Sem.run_bind, run_indexAt (X.tiok hti) hk (X.tiok hte) rfl h0 h1, Result.andThen_ok, Sem.run_pure]
      rw [add_eq _ _ rfl, hes]
    · simp only [TR, CR, he]
      refine ⟨b, rfl, ?_⟩
      rw [Nat.add_mul, Nat.add_zero, Nat.add_assoc]

/-- A load from an element of an own object. -/
theorem dA_loadEl {o : Oper} {t : TypeId} {x : Operand} {id j off : Nat} {ob : AObj} (row : List C) {y : T} {ti : TI}
    (ho : o.op = .load t x) (hti : findTI X.L t = some ti)
    (hx : evalO σ x = .one (.op id j off)) (hob : getObj? σ id = some ob) (hrow : ob.elems[j]? = some row) (h0 : Nat.blt 0 ti.size = true) (hy : takeF ti.size (row.drop off) (mkT ti.agg) = some y) (hd : dstB N o.dst = true) :
    DidA X N np o (.q (some id)) σ (putS o.dst y σ) := fun {G D e a w} H => by
  obtain ⟨b, cap, cells, tt, he, hxv, hs, hh, hcap, hsz, hr, hrl, hrr⟩ := H.own_ptr hx (getObj?_eq hob) hrow
  rw [takeF_eq] at hy
  split at hy
  · rename_i hle
    refine did_loadAt ho H hti hxv rfl hh (fun w' hw => hw.2 id rfl b _ _ _ he) (cs := row.drop off) ?_ hle (by simpa [Nat.blt_eq] using h0) ?_
    · have := CRp.drop off hrr
      rw [List.drop_drop] at this
      exact this
    · simp only [mkPut, hy]; exact putS_eq hd
  · cases hy

def setO (σ : State) (id : Nat) (ob : AObj) : State := match σ with
  | ⟨ρ, o, κ⟩ => ⟨ρ, setNth o id (some ob), κ⟩

/-- A store into an element of an own object. -/
theorem dA_storeEl {o : Oper} {t : TypeId} {x y : Operand} {id j off : Nat} {esz : Nat} {elems : List (List C)} {cl bx : Bool} (row : List C) {cs : List C} (elems' : List (List C)) (cl' : Bool) {ti : TI}
    (ho : o.op = .store t x y) (hdst : o.dst = none) (hti : findTI X.L t = some ti)
    (hx : evalO σ x = .one (.op id j off)) (hob : getObj? σ id = some ⟨esz, elems, cl, false, bx⟩) (hrow : elems[j]? = some row) (hc : cellsT (evalO σ y) = some cs) (hs : cs.length = ti.size) (hoff : off + cs.length ≤ row.length)
    (hel : elems' = elems.set j (patch row off cs)) (hcl : cl' = true → noOwnR elems' = true) :
    DidA X N np o (.e (some id)) σ (setO σ id ⟨esz, elems', cl', false, bx⟩) := fun {G D e a w} H => by
  have := did_storeAt (cl' := cl') ho hdst H hti hx (getObj?_eq hob) rfl hrow hc hs hoff hel hcl
  cases σ
  simpa only [setO, setNth_eq] using this

/-- s[n], s a string. -/
theorem dA_strIndex {o : Oper} {t : TypeId} {x ix : Operand} {s : Str} {kk : IntKind} {n : Int} (c : UInt8) {ti : TI}
    (ho : o.op = .index t x ix) (hti : findTI X.L t = some ti) (hk : ti.kind = 1) (hx : evalO σ x = .one (.str s)) (hi : evalO σ ix = .one (.int kk n)) (hd : dstB N o.dst = true)
    (h0 : 0 ≤ n) (hc : s[n.toNat]? = some c) : DidA X N np o (.q none) σ (putS o.dst (.one (.int .u8 c.toNat)) σ) := fun {G D e a w} H => by
  have hxv := one_str (hx ▸ H.ev x)
  have hiv := one_int (hi ▸ H.ev ix)
  have hu := (X.tiok hti).string hk
  have hc' : (⟨s.toArray⟩ : ByteArray)[n.toNat]? = some c := by
    have hlt := lt_of_some hc
    rw [List.getElem?_eq_getElem hlt] at hc
    simp only [Option.some.injEq] at hc
    rw [getElem?_pos (⟨s.toArray⟩ : ByteArray) n.toNat (by simpa [ByteArray.size] using hlt)]
    rw [← hc]; rfl
  refine Did.pure H (v := .int .u8 c.toNat) (fun w _ => ?_) (by simp only [TR, CR]) (putS_eq hd)
  simp [execOp, ho, hxv, hiv, Instr.index, asIntOf, run_underlying hu, h0, hc']

end

def keepρ (mp : Nat → Option Nat) (o : List (Option AObj)) (d : Nat) (ρ : List (Nat × T)) : List Nat → List (Nat × T)
  | [] => []
  | t :: ts => (t, reT mp o d (getρ ρ t)) :: keepρ mp o d ρ ts

def keepS (np : Nat) (ts ks : List Nat) (d : Nat) (σ : State) : State :=
  ⟨keepρ (fun id => idxOf (rangeL 0 np ks) id 0) σ.o d σ.ρ ts, pickO σ.o d (rangeL 0 np ks), []⟩

section

variable {X : Pk} {N np : Nat} {K : KP} {σ σ' : State}

theorem keepρ_get (mp : Nat → Option Nat) (o : List (Option AObj)) (d : Nat) (ρ : List (Nat × T)) : ∀ (ts : List Nat) (t : Nat), getρ (keepρ mp o d ρ ts) t = reT mp o d (getρ ρ t) ∨ getρ (keepρ mp o d ρ ts) t = .junk
  | [], t => .inr rfl
  | u :: ts, t => by
    simp only [keepρ, getρ]
    split
    · rename_i hb
      have := Nat.eq_of_beq_eq_true hb
      subst this
      exact .inl rfl
    · exact keepρ_get mp o d ρ ts t

theorem Rel.keepS {G : Ctx} {D : Nat → Prop} {e : List ALoc} {a : Act} {w : World} (ts ks : List Nat) (d : Nat) (hnd : nodupB (rangeL 0 np ks) = true) (H : Rel N np G D e σ a w) : ∃ e', Rel N np G D e' (keepS np ts ks d σ) a w := by
  have hsr := H.sr.pick hnd d
  refine ⟨pickE e (rangeL 0 np ks), H.hnp, by unfold Go.Proofs.YtkchcffmefbomaaGreatDoor.keepS pickO; simp only [pickO'_length, rangeL_length]; omega, H.ext, H.defers, H.size, fun t => ?_, hsr, ?_, H.old, ?_⟩
  · rcases keepρ_get (fun id => idxOf (rangeL 0 np ks) id 0) σ.o d σ.ρ ts t with h | h
    · simp only [Go.Proofs.YtkchcffmefbomaaGreatDoor.keepS, h]
      exact reT_spec H.sr (fun id j l => pick_map id j l) d _ _ (H.tmps t)
    · simp only [Go.Proofs.YtkchcffmefbomaaGreatDoor.keepS, h, TR]
  · intro id b esz cap n he
    rw [pickE_get] at he
    cases hi : (rangeL 0 np ks)[id]? with
    | none => rw [hi] at he; simp at he
    | some id' =>
      rw [hi] at he
      simp only [Option.map_some, List.getD, Option.some.injEq] at he
      cases hid : e[id']? with
      | none => rw [hid] at he; simp at he
      | some l => rw [hid] at he; simp at he; subst he; exact H.new id' b _ _ _ hid
  · intro id hid
    have hlt : id < e.length := by have := H.nple; have := H.sr.len; omega
    rw [pickE_get, rangeL_get, if_pos hid]
    simp only [Nat.zero_add, Option.map_some, List.getD]
    rw [List.getElem?_eq_getElem hlt]
    simp only [Option.getD_some]
    rw [← H.keep id hid, List.getElem?_eq_getElem hlt]

theorem Weak.keep (ts ks : List Nat) (d : Nat) (hnd : nodupB (rangeL 0 np ks) = true) : Weak N np σ (keepS np ts ks d σ) := fun {G D e a w} H => by
  obtain ⟨e', H'⟩ := H.keepS ts ks d hnd
  exact ⟨D, e', H'⟩

/-- The round of a loop over 'keepS'. -/
theorem goal_loop_keep {c : Code} {k : List It} (I : Nat → State → Prop) (m : Nat) (ts ks : List Nat) (hnd : nodupB (rangeL 0 np ks) = true) (h0 : I m (keepS np ts ks 4 σ))
    (round : ∀ m σ, I m σ → goal X N np (roundK N np I m (after X N np k K)) (.cod c []) σ) : goal X N np K (.cod (.loop c) k) σ :=
  goal_loop I m ⟨_, Weak.keep ts ks 4 hnd, h0⟩ round

theorem round_keep {I : Nat → State → Prop} {m : Nat} {K : KP} (m' : Nat) (ts ks : List Nat) (hlt : m' < m) (hnd : nodupB (rangeL 0 np ks) = true) (h : I m' (keepS np ts ks 4 σ)) :
    goal X N np (roundK N np I m K) (.nrm []) σ := ⟨m', hlt, _, Weak.keep ts ks 4 hnd, h⟩

theorem round_ret {I : Nat → State → Prop} {m : Nat} {K : KP} {k kk : List It} (h : goal X N np K (.ret k) σ) : goal X N np (roundK N np I m (after X N np k K)) (.ret kk) σ := by
  show after X N np k K .ret σ
  rw [after_ret]; exact h

theorem round_ext {I : Nat → State → Prop} {m id : Nat} {K : KP} {k : List It} (h : goal X N np K (.ext id k) σ) : goal X N np (roundK N np I m (after X N np k K)) (.ext id []) σ := h

theorem goal_weakCod {c : Code} {k : List It} (hw : Weak N np σ σ') (h : goal X N np K (.cod c k) σ') : goal X N np K (.cod c k) σ := goal_weak hw h trivial

end

def NP (K : KP) : KP := fun ex σ => match ex with
  | .panic _ => False
  | ex => K ex σ

def SPw (D : Nat → Prop) (e : List ALoc) (prot : List Nat) (h0 : Array Obj) (w' : World) : Prop :=
  (∀ b, D b → w'.heap[b]? = h0[b]?) ∧ ∀ id ∈ prot, ∀ (b : Addr) (esz cap n : Nat), e[id]? = some (.live (some b) esz cap n) → w'.heap[b.block]? = h0[b.block]?

/-- What is left of a region whose order is drawn: the operations in 'listed' have come up; nothing writes the objects in 'prot'. -/
def AH (X : Pk) (N np : Nat) (ops : Array Oper) (K : KP) (prot : List Nat) (fuel : Nat) (listed : Array Bool) (σ : State) : Prop :=
  ∀ G D e a w, Rel N np G D e σ a w → wpAnyH X.P .any ops (lift N np G (NP K)) (SPw D e prot w.heap) fuel listed a w

section

variable {X : Pk} {N np : Nat} {K : KP} {σ σ' : State} {ops : Array Oper} {prot : List Nat} {fuel : Nat} {listed : Array Bool} {i : Nat}

theorem wpAnyH_mono {P : Program} {md : Region.Mode} {Q : Exit → Act → World → Prop} {S S' : World → Prop} (h : ∀ w, S w → S' w) : ∀ (fuel : Nat) (listed : Array Bool) (a : Act) (w : World), wpAnyH P md ops Q S fuel listed a w → wpAnyH P md ops Q S' fuel listed a w
  | 0, _, _, _, H => H
  | fuel + 1, listed, a, w, H => ⟨H.1, fun i hi => wpOp_mono (fun a' w' h' => ⟨h _ h'.1, wpAnyH_mono h fuel _ a' w' h'.2⟩) (H.2 i hi)⟩

theorem goal_draw {id : Nat} {k : List It} (prot : List Nat) (h : AH X N np ops (after X N np k K) prot ops.size (Array.replicate ops.size false) ⟨σ.ρ, σ.o, []⟩) : goal X N np K (.cod (.region id ops true) k) σ := by
  intro G D e a w H
  have H1 : Rel N np G D e ⟨σ.ρ, σ.o, []⟩ a { w with drawn := w.drawn + 1 } := (H.hints []).world rfl rfl rfl rfl
  refine wp_mono (wp_region_held X.mixed (h G D e a _ H1)) ?_
  rintro ex a' w' ⟨D', e', σ', H', hk⟩
  cases ex with
  | panic c => exact hk.elim
  | normal => exact ⟨D', e', σ', H', hk⟩
  | exit id => exact ⟨D', e', σ', H', hk⟩
  | goto l => exact ⟨D', e', σ', H', hk⟩
  | ret => exact ⟨D', e', σ', H', hk⟩
  | outgrown => exact ⟨D', e', σ', H', hk⟩

theorem AH_done (hr : Region.ready .any ops listed = []) (h : K .normal σ) : AH X N np ops K prot fuel listed σ := fun G D e a w H =>
  wpAnyH_done hr ⟨D, e, σ, H, h⟩ fuel

def rdIn (rd : Option Nat) (prot : List Nat) : Prop := ∀ id, rd = some id → id ∈ prot

theorem rdIn_none : rdIn none prot := fun _ h => by cases h

theorem rdIn_mem {id : Nat} (h : memB id prot = true) : rdIn (some id) prot := by
  intro id' h'
  simp at h'
  subst h'
  revert h
  induction prot with
  | nil => simp [memB]
  | cons p ps ih =>
    simp only [memB]
    split
    · rename_i hb; intro _; rw [Nat.eq_of_beq_eq_true hb]; simp
    · intro h; exact List.mem_cons_of_mem _ (ih h)

/-- An operation that only reads is taken first. -/
theorem AH_take {o : Oper} {rd : Option Nat} (i : Nat) (ho : nthA ops i = some o) (hs : Region.noSelect ops = true) (hf : Region.free .any ops listed i = true) (hr : (Region.ready .any ops listed).contains i = true)
    (hg : guardOf N ops o.guard σ = .go) (hd : DidA X N np o (.q rd) σ σ') (hrd : rdIn rd prot)
    (h : AH X N np ops K prot fuel (listed.setIfInBounds i true) σ') : AH X N np ops K prot (fuel + 1) listed σ := fun G D e a w H => by
  rw [nthA_eq] at ho
  obtain ⟨x, v, hrun, hx, hp⟩ := hd H
  refine wpAnyH_take ho hs hf hr ?_ (.inl ⟨(guardOf_spec H (ops := ops)).1 hg, fun w' hw' => hrun w' ⟨hw'.1, fun id hid => hw'.2 id (hrd id hid)⟩⟩) ⟨fun _ _ => rfl, fun _ _ _ _ _ _ _ => rfl⟩ (h G D e _ w (H.putv hx hp))
  rintro c a' w' ⟨_, _, _, _, hk⟩
  exact hk.elim

/-- One whose guard says no. -/
theorem AH_skip {o : Oper} (i : Nat) (ho : nthA ops i = some o) (hs : Region.noSelect ops = true) (hf : Region.free .any ops listed i = true) (hr : (Region.ready .any ops listed).contains i = true)
    (hg : guardOf N ops o.guard σ = .skip) (hp : putT N o.dst (.tup []) σ = some σ')
    (h : AH X N np ops K prot fuel (listed.setIfInBounds i true) σ') : AH X N np ops K prot (fuel + 1) listed σ := fun G D e a w H => by
  rw [nthA_eq] at ho
  refine wpAnyH_take ho hs hf hr ?_ (.inr ⟨(guardOf_spec H (ops := ops)).2 hg, rfl⟩) ⟨fun _ _ => rfl, fun _ _ _ _ _ _ _ => rfl⟩ (h G D e _ w (H.putv (x := .tup []) (by simp [TR, TRs, undef]) hp))
  rintro c a' w' ⟨_, _, _, _, hk⟩
  exact hk.elim

/-- What comes up is carried out. -/
theorem AH_op {md : Nat → Prop} {Post : State → Prop} (hs : StepA X N np ops i md σ Post) (hmd : ∀ id ∈ prot, ¬ md id)
    (h : ∀ σ', Post σ' → AH X N np ops K prot fuel (listed.setIfInBounds i true) σ') {G : Ctx} {D : Nat → Prop} {e : List ALoc} {a : Act} {w : World} (H : Rel N np G D e σ a w) :
    wpOp X.P ops (lift N np G (NP K)) i (fun a' w' => SPw D e prot w.heap w' ∧ wpAnyH X.P .any ops (lift N np G (NP K)) (SPw D e prot w.heap) fuel (listed.setIfInBounds i true) a' w') a w := by
  refine hs H fun D' e' σ' a' w' H' hP hPost => ?_
  have hS : SPw D e prot w.heap w' := ⟨fun b hb => (hP.1 b hb).2, fun id hid b esz cap n he => (hP.2 id (hmd id hid) b esz cap n he).2⟩
  refine ⟨hS, wpAnyH_mono (fun w'' hw'' => ⟨fun b hb => ?_, fun id hid b esz cap n he => ?_⟩) _ _ _ _ (h σ' hPost G D' e' a' w' H')⟩
  · rw [hw''.1 b (hP.1 b hb).1]; exact (hP.1 b hb).2
  · have h2 := hP.2 id (hmd id hid) b esz cap n he
    rw [hw''.2 id hid b esz cap n h2.1]; exact h2.2

theorem AH_one {md : Nat → Prop} {Post : State → Prop} (hr : Region.ready .any ops listed = [i]) (hs : StepA X N np ops i md σ Post) (hmd : ∀ id ∈ prot, ¬ md id)
    (h : ∀ σ', Post σ' → AH X N np ops K prot fuel (listed.setIfInBounds i true) σ') : AH X N np ops K prot (fuel + 1) listed σ := fun G D e a w H =>
  wpAnyH_all hr (by simp) fun j hj => by simp at hj; subst hj; exact AH_op hs hmd h H

theorem AH_two {i j : Nat} {md md' : Nat → Prop} {Post Post' : State → Prop} (hr : Region.ready .any ops listed = [i, j]) (hs : StepA X N np ops i md σ Post) (hmd : ∀ id ∈ prot, ¬ md id) (hs' : StepA X N np ops j md' σ Post') (hmd' : ∀ id ∈ prot, ¬ md' id)
    (h : ∀ σ', Post σ' → AH X N np ops K prot fuel (listed.setIfInBounds i true) σ') (h' : ∀ σ', Post' σ' → AH X N np ops K prot fuel (listed.setIfInBounds j true) σ') : AH X N np ops K prot (fuel + 1) listed σ := fun G D e a w H =>
  wpAnyH_all hr (by simp) fun m hm => by
    simp at hm
    rcases hm with rfl | rfl
    · exact AH_op hs hmd h H
    · exact AH_op hs' hmd' h' H

/-- The guard's test is decided, both ways. -/
theorem AH_guard {t j : Nat} {want b : Bool} {d0 : Option Nat} {op0 op1 : Op} {ty0 ty1 : TypeId} {pos0 pos1 : String} {aft0 aft1 : Array Edge} {g1 : Option (Nat × Bool)}
    (ho : nthA ops i = some ⟨d0, op0, ty0, pos0, aft0, some (j, want)⟩) (hj : nthA ops j = some ⟨some t, op1, ty1, pos1, aft1, g1⟩) (hv : getρ σ.ρ t = .one (.bool b))
    (h1 : b = true → AH X N np ops K prot fuel listed (decS t true σ))
    (h2 : b = false → AH X N np ops K prot fuel listed (decS t false σ)) : AH X N np ops K prot fuel listed σ := by
  intro G D e a w H
  have key : Rel N np G D e ⟨(t, .one (.bool b)) :: σ.ρ, σ.o, t :: σ.k⟩ a w := by
    refine ⟨H.hnp, H.nple, H.ext, H.defers, H.size, fun u => ?_, H.sr, H.new, H.old, H.keep⟩
    simp only [getρ]
    split
    · rename_i hb
      have := Nat.eq_of_beq_eq_true hb
      subst this
      rw [← hv]; exact H.tmps t
    · exact H.tmps u
  cases b with
  | true => exact h1 rfl G D e a w key
  | false => exact h2 rfl G D e a w key

end

section

variable {X : Pk} {N np : Nat} {G : Ctx} {D : Nat → Prop} {e : List ALoc} {σ σ' : State} {a : Act} {w : World}

theorem getElem?_set_ite {α : Type} (l : List α) (i j : Nat) (x : α) : (l.set i x)[j]? = if i = j then (if i < l.length then some x else none) else l[j]? := by
  rw [List.getElem?_set]

/-- An object is given up. -/
theorem Rel.kill (H : Rel N np G D e σ a w) {id : Nat} (hge : np ≤ id) (hnf : ∀ ob, σ.o[id]? = some (some ob) → ob.fz = false) : Rel N np G D (e.set id .dead) ⟨σ.ρ, σ.o.set id none, σ.k⟩ a w := by
  have hle : Leads e (e.set id .dead) := by
    intro id' l hl
    rw [getElem?_set_ite]
    by_cases h : id = id'
    · subst h; right; simp [lt_of_some hl]
    · left; simp [h, hl]
  have hlive : ∀ (id' : Nat) (b : Addr) (esz cap n : Nat), (e.set id .dead)[id']? = some (.live (some b) esz cap n) → id ≠ id' ∧ e[id']? = some (.live (some b) esz cap n) := by
    intro id' b esz cap n he
    rw [getElem?_set_ite] at he
    by_cases h : id = id'
    · rw [if_pos h] at he; split at he <;> simp at he
    · rw [if_neg h] at he; exact ⟨h, he⟩
  refine ⟨H.hnp, by simpa using H.nple, H.ext, H.defers, H.size, fun t => TR.mono (Fixes.refl _ _) hle _ _ (H.tmps t), ⟨by simpa using H.sr.len, ?_, ?_, ?_, H.sr.dom⟩, ?_, H.old, ?_⟩
  · intro id' ob hid
    rw [getElem?_set_ite] at hid
    by_cases h : id = id'
    · rw [if_pos h] at hid; split at hid <;> simp at hid
    · rw [if_neg h] at hid
      obtain ⟨aa, cap, n, he, hn, hc, hrest⟩ := H.sr.objs id' ob hid
      refine ⟨aa, cap, n, by rw [getElem?_set_ite, if_neg h]; exact he, hn, hc, ?_⟩
      cases aa with
      | none => exact hrest
      | some b =>
        obtain ⟨q1, q2, cells, t, q3, q4, q5, q6⟩ := hrest
        exact ⟨q1, q2, cells, t, q3, q4, q5, CRr.mono (Fixes.refl _ _) _ _ hle _ _ _ q6⟩
  · intro id' b esz cap n he
    obtain ⟨h, he'⟩ := hlive id' b esz cap n he
    obtain ⟨h1, h2⟩ := H.sr.own id' b _ _ _ he'
    refine ⟨h1, fun hD => ?_⟩
    obtain ⟨ob, ho, hf⟩ := h2 hD
    exact ⟨ob, by rw [getElem?_set_ite, if_neg h]; exact ho, hf⟩
  · intro id1 id2 b b' esz cap n esz' cap' n' he he' hb
    exact H.sr.sep id1 id2 b b' _ _ _ _ _ _ (hlive _ _ _ _ _ he).2 (hlive _ _ _ _ _ he').2 hb
  · intro id' b esz cap n he
    exact H.new id' b _ _ _ (hlive id' b esz cap n he).2
  · intro id' hid
    rw [getElem?_set_ite, if_neg (by omega)]
    exact H.keep id' hid

/-- An empty object that has no memory. -/
theorem Rel.newEmpty (H : Rel N np G D e σ a w) {ob : AObj} (hel : ob.elems = []) : Rel N np G D (e ++ [.live none ob.esz 0 0]) ⟨σ.ρ, σ.o ++ [some ob], σ.k⟩ a w := by
  have hle := leads_app e [ALoc.live none ob.esz 0 0]
  have hlive : ∀ (id' : Nat) (b : Addr) (esz cap n : Nat), (e ++ [.live none ob.esz 0 0])[id']? = some (.live (some b) esz cap n) → e[id']? = some (.live (some b) esz cap n) := by
    intro id' b esz cap n he
    rw [getElem?_app_one] at he
    split at he
    · exact he
    · split at he <;> simp at he
  refine ⟨H.hnp, by have := H.nple; simp; omega, H.ext, H.defers, H.size, fun t => TR.mono (Fixes.refl _ _) hle _ _ (H.tmps t), ⟨by simp [H.sr.len], ?_, ?_, ?_, H.sr.dom⟩, ?_, H.old, ?_⟩
  · intro id' ob' hid
    simp only [getElem?_app_one] at hid ⊢
    split at hid
    · rename_i hlt
      obtain ⟨aa, cap, n, he, hn, hc, hrest⟩ := H.sr.objs id' ob' hid
      refine ⟨aa, cap, n, by rw [if_pos (by rw [H.sr.len]; exact hlt)]; exact he, hn, hc, ?_⟩
      cases aa with
      | none => exact hrest
      | some b =>
        obtain ⟨q1, q2, cells, t, q3, q4, q5, q6⟩ := hrest
        exact ⟨q1, q2, cells, t, q3, q4, q5, CRr.mono (Fixes.refl _ _) _ _ hle _ _ _ q6⟩
    · split at hid
      · rename_i heq
        simp at hid; subst hid
        exact ⟨none, 0, 0, by rw [if_neg (by rw [H.sr.len]; omega), if_pos (by rw [H.sr.len]; omega)], by rw [hel]; rfl, by rw [hel]; simp [noOwnR], hel, rfl⟩
      · cases hid
  · intro id' b esz cap n he
    have he' := hlive id' b esz cap n he
    obtain ⟨h1, h2⟩ := H.sr.own id' b _ _ _ he'
    refine ⟨h1, fun hD => ?_⟩
    obtain ⟨ob', ho, hf⟩ := h2 hD
    exact ⟨ob', by rw [getElem?_app_one, if_pos (lt_of_some ho)]; exact ho, hf⟩
  · intro id1 id2 b b' esz cap n esz' cap' n' he he' hb
    exact H.sr.sep id1 id2 b b' _ _ _ _ _ _ (hlive _ _ _ _ _ he) (hlive _ _ _ _ _ he') hb
  · intro id' b esz cap n he
    exact H.new id' b _ _ _ (hlive id' b esz cap n he)
  · intro id' hid
    have := H.nple
    rw [getElem?_app_one, if_pos (by rw [H.sr.len]; omega)]
    exact H.keep id' hid

/-- An object in a block that nobody owns any more; its cells are written. -/
theorem Rel.newObjIn (H : Rel N np G D e σ a w) {g : Nat} {off cap : Nat} {cells cells' : Array Value} {t : TypeId} {ob : AObj} (hh : w.heap[g]? = some (.cells cells t (0, 0))) (hD : ¬ D g)
    (hfree : ∀ (id : Nat) (b : Addr) (esz c n : Nat), e[id]? = some (.live (some b) esz c n) → b.block ≠ g) (hg : G.w0.heap.size ≤ g ∨ Cof np G.e0 g)
    (hf : ob.fz = false) (hcl : ob.clean = true → noOwnR ob.elems = true) (hcap : ob.elems.length ≤ cap) (hcs : cells'.size = cells.size) (hs : off + cap * ob.esz ≤ cells.size)
    (hr : CRr D w.heap e ob.esz ob.elems (cells'.toList.drop off)) :
    Rel N np G D (e ++ [.live (some ⟨g, off, none⟩) ob.esz cap ob.elems.length]) ⟨σ.ρ, σ.o ++ [some ob], σ.k⟩ a (w.setRow g cells') := by
  have hfx : Fixes D D w.heap (w.setRow g cells').heap := fun b hb => ⟨hb, setRow_other w _ _ _ (fun h => hD (h ▸ hb))⟩
  have hle := leads_app e [.live (some ⟨g, off, none⟩) ob.esz cap ob.elems.length]
  have hglt : g < w.heap.size := (Array.getElem?_eq_some_iff.1 hh).1
  refine ⟨H.hnp, by have := H.nple; simp; omega, ⟨H.ext.os, H.ext.tape, H.ext.output, by rw [setRow_size]; exact H.ext.size, fun b hb hw => ?_⟩, H.defers, H.size,
    fun t => TR.mono hfx hle _ _ (H.tmps t), ⟨by simp [H.sr.len], ?_, ?_, ?_, fun b hb => by rw [setRow_size]; exact H.sr.dom b hb⟩, ?_, H.old, ?_⟩
  · have hbg : ¬ b = g := by
      rcases hg with hg | hg
      · omega
      · intro h0; subst h0; exact hw hg.wof
    rw [setRow_other _ _ _ _ (by omega)]; exact H.ext.block b hb hw
  · intro id ob' hid
    simp only [getElem?_app_one] at hid ⊢
    split at hid
    · rename_i hlt
      obtain ⟨b, c, n, he, hn, hc, hrest⟩ := H.sr.objs id ob' hid
      refine ⟨b, c, n, by rw [if_pos (by rw [H.sr.len]; exact hlt)]; exact he, hn, hc, ?_⟩
      cases b with
      | none => exact hrest
      | some b =>
        obtain ⟨h1, h2, cs, t', h3, h4, h5, h6⟩ := hrest
        exact ⟨h1, h2, cs, t', by rw [setRow_other _ _ _ _ (hfree id b _ _ _ he)]; exact h3, h4, h5, CRr.mono hfx _ _ hle _ _ _ h6⟩
    · split at hid
      · rename_i heq
        simp at hid; subst hid
        exact ⟨some ⟨g, off, none⟩, cap, ob.elems.length, by rw [if_neg (by rw [H.sr.len]; omega), if_pos (by rw [H.sr.len]; omega)], rfl, hcl, rfl, by simp [hf], cells', t, setRow_heap w _ cells _ t _ hh, hcap, by rw [hcs]; exact hs,
          CRr.mono hfx _ _ hle _ _ _ hr⟩
      · cases hid
  · intro id b esz c n he
    simp only [getElem?_app_one] at he ⊢
    split at he
    · rename_i hlt
      obtain ⟨h1, h2⟩ := H.sr.own id b _ _ _ he
      refine ⟨by rw [setRow_size]; exact h1, fun hDb => ?_⟩
      rw [if_pos (by rw [← H.sr.len]; exact hlt)]
      exact h2 hDb
    · split at he
      · simp at he
        obtain ⟨rfl, _⟩ := he
        exact ⟨by rw [setRow_size]; exact hglt, fun hDb => absurd hDb hD⟩
      · cases he
  · intro id id' b b' esz c n esz' c' n' he he' hb
    simp only [getElem?_app_one] at he he'
    split at he <;> split at he'
    · exact H.sr.sep id id' b b' _ _ _ _ _ _ he he' hb
    · split at he'
      · simp at he'
        obtain ⟨rfl, _⟩ := he'
        exact absurd hb (hfree id b _ _ _ he)
      · cases he'
    · split at he
      · simp at he
        obtain ⟨rfl, _⟩ := he
        exact absurd hb.symm (hfree id' b' _ _ _ he')
      · cases he
    · split at he
      · split at he'
        · omega
        · cases he'
      · cases he
  · intro id b esz c n he
    simp only [getElem?_app_one] at he
    split at he
    · exact H.new id b _ _ _ he
    · split at he
      · simp at he
        obtain ⟨rfl, _⟩ := he
        exact hg.elim .inr (fun h => .inl h.wof)
      · cases he
  · intro id hid
    have h1 := H.nple
    rw [getElem?_app_one, if_pos (by rw [H.sr.len]; omega)]
    exact H.keep id hid

end

def Bnd (σ : State) (o : Option Operand) (dflt n : Nat) : Prop := match o with
  | none => n = dflt
  | some x => ∃ kk z, evalO σ x = .one (.int kk z) ∧ z = (n : Int)

theorem Bnd.none_ {σ : State} {n : Nat} : Bnd σ none n n := rfl

theorem Bnd.some_ {σ : State} {x : Operand} {d n : Nat} {kk : IntKind} {z : Int} (h : evalO σ x = .one (.int kk z)) (hz : z = (n : Int)) : Bnd σ (some x) d n := ⟨kk, z, h, hz⟩

section

variable {X : Pk} {N np : Nat} {G : Ctx} {D : Nat → Prop} {e : List ALoc} {σ σ' : State} {a : Act} {w : World}

theorem run_sliceBound {P : Program} {kk : IntKind} {n y : Nat} (h : n ≤ y) (code : BoundsCode) (w : World) : (Instr.sliceBound (.int kk (n : Int)) y code).run P w = .ok n w := by
  have h1 : (n : Int) ≤ y := by omega
  simp [Instr.sliceBound, asIntOf, h]

theorem run_sliceBounds {P : Program} (isSlice : Bool) {len cap L Hh M : Nat} {lo hi mx : Option Value} (hlo : (lo = none ∧ L = 0) ∨ ∃ kk, lo = some (.int kk (L : Int))) (hhi : (hi = none ∧ Hh = len ∧ mx = none) ∨ ∃ kk, hi = some (.int kk (Hh : Int)))
    (hmx : (mx = none ∧ M = cap) ∨ ∃ kk, mx = some (.int kk (M : Int))) (h1 : L ≤ Hh) (h2 : Hh ≤ M) (h3 : M ≤ cap) (w : World) : (Instr.sliceBounds isSlice len cap lo hi mx).run P w = .ok (L, Hh, M) w := by
  have q1 := fun code w => run_sliceBound (P := P) (kk := .i64) h1 code w
  rcases hmx with ⟨rfl, rfl⟩ | ⟨k3, rfl⟩
  · rcases hhi with ⟨rfl, rfl, _⟩ | ⟨k2, rfl⟩
    · rcases hlo with ⟨rfl, rfl⟩ | ⟨k1, rfl⟩
      · simp [Instr.sliceBounds]
      · simp [Instr.sliceBounds, run_sliceBound h1]
    · rcases hlo with ⟨rfl, rfl⟩ | ⟨k1, rfl⟩
      · simp [Instr.sliceBounds, run_sliceBound h2]
      · simp [Instr.sliceBounds, run_sliceBound h1, run_sliceBound h2]
  · rcases hhi with ⟨rfl, rfl, hm⟩ | ⟨k2, rfl⟩
    · cases hm
    · rcases hlo with ⟨rfl, rfl⟩ | ⟨k1, rfl⟩
      · simp [Instr.sliceBounds, run_sliceBound h2, run_sliceBound h3]
      · simp [Instr.sliceBounds, run_sliceBound h1, run_sliceBound h2, run_sliceBound h3]

theorem Bnd.val (H : Rel N np G D e σ a w) {o : Option Operand} {d n : Nat} (h : Bnd σ o d n) : (o.map a.eval = none ∧ n = d ∧ o = none) ∨ ∃ kk, o.map a.eval = some (.int kk (n : Int)) := by
  cases o with
  | none => exact .inl ⟨rfl, h, rfl⟩
  | some x =>
    obtain ⟨kk, z, h1, rfl⟩ := h
    exact .inr ⟨kk, by simp [one_int (h1 ▸ H.ev x)]⟩

theorem run_slice_slice {P : Program} {t s : Nat} {ti te : TI} (hti : TIok P t ti) (hk : ti.kind = 2) (hte : TIok P ti.elem te) (hs : te.size = s) {A : Option Addr} {len cap L Hh M : Nat} {lo hi mx : Option Value}
    (hb : ∀ w, (Instr.sliceBounds true len cap lo hi mx).run P w = .ok (L, Hh, M) w) (w : World) :
    (Instr.sliceAt t (.slice A len cap) lo hi mx).run P w = .ok (.slice (if M = L then A else A.map (·.add (L * s))) (Hh - L) (M - L)) w := by
  have hu := hti.slice hk
  have hz := hte.sizeOf w
  rw [hs] at hz
  simp [Instr.sliceAt, Instr.slice, run_underlying hu, hb, hz]

/-- xs[L:H], xs data. -/
theorem dA_slice {o : Oper} {t : TypeId} {x : Operand} {lo hi : Option Operand} {xs : List (List C)} (L Hh : Nat) (ys : List (List C)) {ti te : TI}
    (ho : o.op = .slice t x lo hi none) (hti : findTI X.L t = some ti) (hk : ti.kind = 2) (hte : findTI X.L ti.elem = some te) (hx : evalO σ x = .one (.fs xs)) (hlo : Bnd σ lo 0 L) (hhi : Bnd σ hi xs.length Hh)
    (hrl : ∀ r ∈ xs, r.length = te.size) (h1 : L ≤ Hh) (h2 : Hh ≤ xs.length) (hd : dstB N o.dst = true) (hys : ys = (xs.drop L).take (Hh - L)) : DidA X N np o (.q none) σ (putS o.dst (.one (.fs ys)) σ) := fun {G D e a w} H => by
  subst hys
  have hx' := H.ev x
  rw [hx] at hx'
  simp only [TR, CR] at hx'
  obtain ⟨A, c, hxv, hlc, hr⟩ := hx'
  have hb : ∀ w, (Instr.sliceBounds true xs.length c (lo.map a.eval) (hi.map a.eval) none).run X.P w = .ok (L, Hh, c) w := fun w =>
    run_sliceBounds true (by rcases hlo.val H with ⟨h, h', _⟩ | h; · exact .inl ⟨h, h'⟩
                             · exact .inr h) (by rcases hhi.val H with ⟨h, h', _⟩ | h; · exact .inl ⟨h, h', rfl⟩
                                                 · exact .inr h) (.inl ⟨rfl, rfl⟩) h1 (by omega) (Nat.le_refl _) w
  refine Did.pure H (v := .slice (if c = L then A else A.map (·.add (L * te.size))) (Hh - L) (c - L)) (fun w _ => ?_) ?_ (putS_eq hd)
  · simp only [execOp, ho, hxv, Sem.run_bind, Option.map_none, run_slice_slice (X.tiok hti) hk (X.tiok hte) rfl hb, Result.andThen_ok, Sem.run_pure]
  · simp only [TR, CR]
    have hlen : ((xs.drop L).take (Hh - L)).length = Hh - L := by simp; omega
    refine ⟨_, c - L, by rw [hlen], by rw [hlen]; omega, ?_⟩
    by_cases hcL : c = L
    · left
      apply List.eq_nil_of_length_eq_zero
      simp; omega
    · rw [if_neg hcL]
      rcases hr with hr | ⟨ad, cells, tt, fr, esz, rfl, hs, hD, hh, hr⟩
      · left; subst hr; simp
      · rcases Nat.eq_zero_or_pos xs.length with h0 | h0
        · left; have := List.eq_nil_of_length_eq_zero h0; subst this; simp
        · right
          have hes : esz = te.size := by
            obtain ⟨r, hr0⟩ : ∃ r, xs[0]? = some r := ⟨xs[0], by simp [h0]⟩
            rw [← (CRr.get hr hr0).1]; exact hrl r (List.mem_of_getElem? hr0)
          subst hes
          refine ⟨ad.add (L * te.size), cells, tt, fr, te.size, rfl, by rw [add_eq _ _ hs], by rw [add_eq _ _ hs]; exact hD, by rw [add_eq _ _ hs]; exact hh, ?_⟩
          rw [add_eq _ _ hs]
          have := CRr.take (Hh - L) (CRr.drop L hr)
          rw [List.drop_drop] at this
          exact this

end

section

variable {X : Pk} {N np : Nat} {G : Ctx} {D : Nat → Prop} {e : List ALoc} {σ σ' : State} {a : Act} {w : World}

/-- xs[L:H] and xs[L:H:M], xs an own object's. -/
theorem dA_sliceOwn {o : Oper} {t : TypeId} {x : Operand} {lo hi mx : Option Operand} {id off len kc : Nat} {ob : AObj} (L Hh M off' len' kc' : Nat) {ti te : TI}
    (ho : o.op = .slice t x lo hi mx) (hti : findTI X.L t = some ti) (hk : ti.kind = 2) (hte : findTI X.L ti.elem = some te) (hx : evalO σ x = .one (.os id off len kc)) (hob : getObj? σ id = some ob) (hes : ob.esz = te.size)
    (hlo : Bnd σ lo 0 L) (hhi : Bnd σ hi len Hh) (hmx : (mx = none ∧ M = kc) ∨ (mx ≠ none ∧ hi ≠ none ∧ Bnd σ mx 0 M)) (h1 : L ≤ Hh) (h2 : Hh ≤ M) (h3 : M ≤ kc) (h4 : off + Hh ≤ ob.elems.length) (hd : dstB N o.dst = true) (ho' : off' = off + L) (hl' : len' = Hh - L) (hk' : kc' = M - L) :
    DidA X N np o (.q none) σ (putS o.dst (.one (.os id off' len' kc')) σ) := fun {G D e a w} H => by
  subst ho' hl' hk'
  obtain ⟨aa, cap, nn, he, hobr⟩ := H.sr.objs id ob (getObj?_eq hob)
  have hnn := hobr.1
  have hx' := H.ev x
  rw [hx] at hx'
  simp only [TR, CR, he] at hx'
  obtain ⟨A, c, hxv, q2, q3, q4, hr⟩ := hx'
  -- the bound on the right: what is told, or the whole capacity
  obtain ⟨Mc, hMc, hM1, hM2⟩ : ∃ Mc, (∀ w, (Instr.sliceBounds true len c (lo.map a.eval) (hi.map a.eval) (mx.map a.eval)).run X.P w = .ok (L, Hh, Mc) w) ∧ M ≤ Mc ∧ Mc ≤ c := by
    have hlo' : (lo.map a.eval = none ∧ L = 0) ∨ ∃ kk, lo.map a.eval = some (.int kk (L : Int)) := by
      rcases hlo.val H with ⟨h, h', _⟩ | h
      · exact .inl ⟨h, h'⟩
      · exact .inr h
    rcases hmx with ⟨rfl, rfl⟩ | ⟨hm1, hm2, hm3⟩
    · refine ⟨c, fun w => run_sliceBounds true hlo' ?_ (.inl ⟨rfl, rfl⟩) h1 (by omega) (Nat.le_refl _) w, by omega, Nat.le_refl _⟩
      rcases hhi.val H with ⟨h, h', _⟩ | h
      · exact .inl ⟨h, h', rfl⟩
      · exact .inr h
    · refine ⟨M, fun w => run_sliceBounds true hlo' ?_ (.inr ?_) h1 h2 (by omega) w, Nat.le_refl _, by omega⟩
      · rcases hhi.val H with ⟨_, _, h⟩ | h
        · exact absurd h hm2
        · exact .inr h
      · rcases hm3.val H with ⟨_, _, h⟩ | h
        · exact absurd h hm1
        · exact h
  refine Did.pure H (v := .slice (if Mc = L then A else A.map (·.add (L * te.size))) (Hh - L) (Mc - L)) (fun w _ => ?_) ?_ (putS_eq hd)
  · simp only [execOp, ho, hxv, Sem.run_bind, run_slice_slice (X.tiok hti) hk (X.tiok hte) rfl hMc, Result.andThen_ok, Sem.run_pure]
  · simp only [TR, CR, he]
    refine ⟨_, Mc - L, rfl, by omega, by omega, by omega, ?_⟩
    by_cases hML : Mc = L
    · left; omega
    · rw [if_neg hML]
      rcases hr with hr | ⟨b, rfl, rfl, h5⟩
      · omega
      · right
        refine ⟨b, rfl, ?_, by omega⟩
        simp only [Option.map_some, add_eq (⟨b.block, b.off + off * ob.esz, none⟩ : Addr) _ rfl, Option.some.injEq, Addr.mk.injEq, true_and, and_true]
        rw [← hes, Nat.add_mul, Nat.add_assoc]

/-- s[L:H], s a string. -/
theorem dA_strSlice {o : Oper} {t : TypeId} {x : Operand} {lo hi : Option Operand} {s : Str} (L Hh : Nat) (r : Str) {ti : TI}
    (ho : o.op = .slice t x lo hi none) (hti : findTI X.L t = some ti) (hk : ti.kind = 1) (hx : evalO σ x = .one (.str s)) (hlo : Bnd σ lo 0 L) (hhi : Bnd σ hi s.length Hh)
    (h1 : L ≤ Hh) (h2 : Hh ≤ s.length) (hd : dstB N o.dst = true) (hr' : r = (s.drop L).take (Hh - L)) : DidA X N np o (.q none) σ (putS o.dst (.one (.str r)) σ) := fun {G D e a w} H => by
  subst hr'
  have hxv := one_str (hx ▸ H.ev x)
  have hu := (X.tiok hti).string hk
  have hsz : (⟨s.toArray⟩ : ByteArray).size = s.length := by simp [ByteArray.size]
  have hb : ∀ w, (Instr.sliceBounds false s.length s.length (lo.map a.eval) (hi.map a.eval) none).run X.P w = .ok (L, Hh, s.length) w := fun w =>
    run_sliceBounds false (by rcases hlo.val H with ⟨h, h', _⟩ | h; · exact .inl ⟨h, h'⟩
                              · exact .inr h) (by rcases hhi.val H with ⟨h, h', _⟩ | h; · exact .inl ⟨h, h', rfl⟩
                                                  · exact .inr h) (.inl ⟨rfl, rfl⟩) h1 h2 (Nat.le_refl _) w
  refine Did.pure H (v := .string ((⟨s.toArray⟩ : ByteArray).extract L Hh)) (fun w _ => ?_) ?_ (putS_eq hd)
  · simp [execOp, ho, hxv, Instr.sliceAt, Instr.slice, run_underlying hu, hsz, hb]
  · simp only [TR, CR, Value.string.injEq]
    apply ByteArray.ext
    rw [ByteArray.data_extract]
    apply Array.ext'
    simp only [Array.toList_extract, List.extract_eq_take_drop]

/-- What a slice that is appended, or copied, holds. -/
def Src (σ : State) (t : T) (rows : List (List C)) : Prop :=
  t = .one (.fs rows) ∨ (∃ id off len kc ob, t = .one (.os id off len kc) ∧ getObj? σ id = some ob ∧ off + len ≤ ob.elems.length ∧ rows = (ob.elems.drop off).take len) ∨ (t = .one nilSl ∧ rows = [])

theorem Src.fs {rows : List (List C)} {t : T} (h : t = .one (.fs rows)) : Src σ t rows := .inl h

theorem Src.os {t : T} {id off len kc : Nat} {ob : AObj} {rows : List (List C)} (h : t = .one (.os id off len kc)) (hob : getObj? σ id = some ob) (hl : off + len ≤ ob.elems.length) (hr : rows = (ob.elems.drop off).take len) : Src σ t rows :=
  .inr (.inl ⟨id, off, len, kc, ob, h, hob, hl, hr⟩)

theorem Src.nil {t : T} (h : t = .one nilSl) : Src σ t [] := .inr (.inr ⟨h, rfl⟩)

theorem CRr.oneCell {h : Array Obj} : ∀ {esz : Nat} {rs : List (List C)} {vs : List Value}, vs.length = rs.length * esz → CRr D h e esz rs vs → ∀ v ∈ vs, v.oneCell' = true
  | esz, [], vs, hl, _, v, hv => by simp at hl; subst hl; simp at hv
  | esz, r :: rs, vs, hl, H, v, hv => by
    simp only [CRr] at H
    simp only [List.length_cons, Nat.succ_mul] at hl
    rw [← List.take_append_drop esz vs] at hv
    rcases List.mem_append.1 hv with hv | hv
    · exact isCell_one (CRp.cell (by rw [List.length_take, H.1]; omega) (CRp.take' (by rw [H.1]; exact Nat.le_refl _) H.2.1) v hv)
    · exact CRr.oneCell (by rw [List.length_drop]; omega) H.2.2 v hv

/-- The cells that a source gives. -/
theorem Src.cells (H : Rel N np G D e σ a w) {y : Operand} {rows : List (List C)} (hs : Src σ (evalO σ y) rows) {size : Nat} (hrl : ∀ r ∈ rows, r.length = size) (h0 : 0 < size) :
    ∃ A c news, a.eval y = .slice A rows.length c ∧ news.length = rows.length * size ∧ CRr D w.heap e size rows news ∧
      ∀ w' : World, w'.heap = w.heap → (Builtin.firstCells size rows.length (a.eval y)).run X.P w' = .ok news.toArray w' := by
  have hy := H.ev y
  have key : ∀ (A : Option Addr) (c : Nat), a.eval y = .slice A rows.length c → (rows = [] ∨ ∃ ad cells t fr, A = some ad ∧ ad.spot = none ∧ w.heap[ad.block]? = some (.cells cells t fr) ∧ CRr D w.heap e size rows (cells.toList.drop ad.off)) →
      ∃ A c news, a.eval y = .slice A rows.length c ∧ news.length = rows.length * size ∧ CRr D w.heap e size rows news ∧
        ∀ w' : World, w'.heap = w.heap → (Builtin.firstCells size rows.length (a.eval y)).run X.P w' = .ok news.toArray w' := by
    intro A c hv hr
    rcases hr with hr | ⟨ad, cells, t, fr, rfl, hsp, hh, hr⟩
    · subst hr
      refine ⟨A, c, [], hv, by simp, by simp [CRr], fun w' _ => ?_⟩
      rw [hv]
      cases A with
      | none => simp [Builtin.firstCells]
      | some ad =>
        have := run_loadCells_list (P := X.P) w' ad [] (by simp)
        simpa [Builtin.firstCells] using this
    · have hlen : rows.length * size ≤ (cells.toList.drop ad.off).length := by
        rcases CRr.len hr with h | h
        · exact h
        · subst h; simp
      refine ⟨some ad, c, (cells.toList.drop ad.off).take (rows.length * size), hv, by simp at hlen ⊢; omega, CRr.congr (fun j hj => ?_) hr, fun w' hw' => ?_⟩
      · rw [List.getElem?_take, if_pos hj]
      · rw [hv]
        refine run_firstCells_some w' size rows.length ad rows.length c _ (by simp at hlen ⊢; omega) (fun j v hj => ?_)
        rw [add_eq _ _ hsp]
        rw [List.getElem?_take] at hj
        split at hj
        · simp only [World.cell?, hw', hh]
          simpa [List.getElem?_drop] using hj
        · cases hj
  rcases hs with hs | ⟨id, off, len, kc, ob, hs, hob, hl, hr⟩ | ⟨hs, rfl⟩
  · rw [hs] at hy
    simp only [TR, CR] at hy
    obtain ⟨A, c, hv, hc, hr⟩ := hy
    refine key A c hv ?_
    rcases hr with hr | ⟨ad, cells, t, fr, esz, rfl, hsp, hD, hh, hr⟩
    · exact .inl hr
    · rcases Nat.eq_zero_or_pos rows.length with h | h
      · exact .inl (List.eq_nil_of_length_eq_zero h)
      · right
        have hes : esz = size := by
          obtain ⟨r, hr0⟩ : ∃ r, rows[0]? = some r := ⟨rows[0], by simp [h]⟩
          rw [← (CRr.get hr hr0).1]; exact hrl r (List.mem_of_getElem? hr0)
        subst hes
        exact ⟨ad, cells, t, fr, rfl, hsp, hh, CRr.mono (Fixes.refl _ _) [] e (Leads.nil e) _ _ _ hr⟩
  · obtain ⟨aa, cap, nn, he, hobr⟩ := H.sr.objs id ob (getObj?_eq hob)
    rw [hs] at hy
    simp only [TR, CR, he] at hy
    obtain ⟨A, c, hv, q1, q2, q3, hA⟩ := hy
    have hrlen : rows.length = len := by rw [hr]; simp; omega
    rw [← hrlen] at hv
    refine key A c hv ?_
    rcases hA with hA | ⟨b, rfl, rfl, q5⟩
    · left; apply List.eq_nil_of_length_eq_zero; omega
    · rcases Nat.eq_zero_or_pos rows.length with h | h
      · exact .inl (List.eq_nil_of_length_eq_zero h)
      · right
        obtain ⟨_, _, hsp, _, cells, t, hh, hcap, hsz, hrr⟩ := hobr
        have hrr' : CRr D w.heap e ob.esz rows (cells.toList.drop (b.off + off * ob.esz)) := by
          rw [hr]
          have := CRr.take len (CRr.drop off hrr)
          rw [List.drop_drop] at this
          exact this
        have hes : ob.esz = size := by
          obtain ⟨r, hr0⟩ : ∃ r, rows[0]? = some r := ⟨rows[0], by simp [h]⟩
          rw [← (CRr.get hrr' hr0).1]; exact hrl r (List.mem_of_getElem? hr0)
        rw [hes] at hrr'
        exact ⟨_, cells, t, _, rfl, rfl, hh, by rw [hes]; exact hrr'⟩
  · rw [hs] at hy
    simp only [TR, CR, nilSl] at hy
    exact key none 0 hy.1 (.inl rfl)

end

section

variable {X : Pk} {N np : Nat} {G : Ctx} {D : Nat → Prop} {e : List ALoc} {σ σ' : State} {a : Act} {w : World} {K : KP}

def adoptC (n : Nat) (c : C) : C := match c with
  | .v x => match nilB x with
    | true => .os n 0 0 0
    | false => .v x
  | c => c

def adoptAt (n : Nat) : Nat → List C → List C
  | _, [] => []
  | 0, c :: cs => adoptC n c :: cs
  | j + 1, c :: cs => c :: adoptAt n j cs

def adoptT (n j : Nat) : T → T
  | .one c => .one (adoptC n c)
  | .agg cs => .agg (adoptAt n j cs)
  | t => t

/-- The nil slice in tmp 't' (of an aggregate: in its cell 'j') becomes an own object that is empty. -/
def adoptS (t j esz : Nat) (σ : State) : State := match σ with
  | ⟨ρ, o, κ⟩ => ⟨(t, adoptT o.length j (getρ ρ t)) :: ρ, snocO o ⟨esz, [], true, false, false⟩, κ⟩

theorem adoptC_CR {h : Array Obj} {n esz : Nat} {c : C} {y : Value} (hn : e[n]? = some (.live none esz 0 0)) (H : CR D h e c y) : CR D h e (adoptC n c) y := by
  unfold adoptC
  split
  · rename_i x
    split
    · rename_i hx
      simp only [CR] at H
      obtain ⟨rfl, _⟩ := H
      unfold nilB at hx
      split at hx
      · simp only [CR, hn]
        exact ⟨none, 0, rfl, Nat.le_refl _, Nat.le_refl _, Nat.le_refl _, .inl rfl⟩
      · cases hx
    · exact H
  · exact H

theorem adoptAt_CR {h : Array Obj} {n esz : Nat} (hn : e[n]? = some (.live none esz 0 0)) : ∀ {j : Nat} {cs : List C} {vs : List Value}, CRp D h e cs vs → CRp D h e (adoptAt n j cs) vs
  | j, [], vs, H => by cases j <;> simp [adoptAt, CRp]
  | j, c :: cs, [], H => by simp [CRp] at H
  | 0, c :: cs, v :: vs, H => by simp only [adoptAt, CRp] at H ⊢; exact ⟨adoptC_CR hn H.1, H.2⟩
  | j + 1, c :: cs, v :: vs, H => by simp only [adoptAt, CRp] at H ⊢; exact ⟨H.1, adoptAt_CR hn H.2⟩

theorem adoptAt_length (n : Nat) : ∀ (j : Nat) (cs : List C), (adoptAt n j cs).length = cs.length
  | j, [] => by cases j <;> rfl
  | 0, c :: cs => rfl
  | j + 1, c :: cs => by simp [adoptAt, adoptAt_length n j cs]

theorem adoptT_TR {h : Array Obj} {n esz j : Nat} {t : T} {y : Value} (hn : e[n]? = some (.live none esz 0 0)) (H : TR D h e t y) : TR D h e (adoptT n j t) y := by
  unfold adoptT
  split
  · simp only [TR] at H ⊢; exact adoptC_CR hn H
  · simp only [TR] at H ⊢
    obtain ⟨vs, hy, hl, hr⟩ := H
    exact ⟨vs, hy, by rw [adoptAt_length]; exact hl, adoptAt_CR hn hr⟩
  · exact H

theorem Rel.retmp (H : Rel N np G D e σ a w) {t : Nat} {x : T} (hx : TR D w.heap e x (a.tmps.getD t undef)) : Rel N np G D e ⟨(t, x) :: σ.ρ, σ.o, σ.k⟩ a w := by
  refine ⟨H.hnp, H.nple, H.ext, H.defers, H.size, fun u => ?_, H.sr, H.new, H.old, H.keep⟩
  simp only [getρ]
  split
  · rename_i hb
    have := Nat.eq_of_beq_eq_true hb
    subst this
    exact hx
  · exact H.tmps u

theorem Weak.adopt (t j esz : Nat) : Weak N np σ (adoptS t j esz σ) := fun {G D e a w} H => by
  have h1 := H.newEmpty (ob := ⟨esz, [], true, false, false⟩) rfl
  refine ⟨D, e ++ [.live none esz 0 0], ?_⟩
  have h2 := h1.retmp (t := t) (x := adoptT σ.o.length j (getρ σ.ρ t)) (adoptT_TR (esz := esz) (by rw [← H.sr.len]; exact getElem?_last _ _) (h1.tmps t))
  cases σ
  simpa only [adoptS, snocO_eq] using h2

theorem run_append_room {P : Program} {t t2 ty el el2 sz : Nat} {te : TI} (ht : P.underlying t = some (.slice el)) (ht2 : P.underlying t2 = some (.slice el2)) (hte : TIok P el te)
    {A : Option Addr} {l c n c2 : Nat} {B : Option Addr} {news : List Value} (hroom : l + n ≤ c) (hf : (Builtin.firstCells te.size n (.slice B n c2)).run P w = .ok news.toArray w) :
    (Builtin.append_ #[t, t2] ty #[.slice A l c, .slice B n c2]).run P w = match A with
      | none => .ok (.slice none (l + n) c) w
      | some ad => ((storeCells (ad.add (l * te.size)) news).run P w).andThen fun _ w' => .ok (.slice (some ad) (l + n) c) w' := by
  have hz := hte.sizeOf w
  cases A with
  | none => simp [Builtin.append_, run_underlying ht, run_underlying ht2, hz, Builtin.lenOf, hroom, hf]
  | some ad => simp [Builtin.append_, run_underlying ht, run_underlying ht2, hz, Builtin.lenOf, hroom, hf]

theorem TIok.typeInfo {P : Program} {t : Nat} {ti : TI} (H : TIok P t ti) : ∃ i, P.info? t = some i ∧ (∀ w : World, (Go.typeInfo t).run P w = .ok i w) ∧ i.size = ti.size ∧ i.bytes = ti.bytes := by
  obtain ⟨i, z, hi, hs, hb, _⟩ := H.info
  exact ⟨i, hi, fun w => by simp [Go.typeInfo, hi], hs, hb⟩

theorem run_append_grown {P : Program} {t t2 ty el el2 : Nat} {te : TI} (ht : P.underlying t = some (.slice el)) (ht2 : P.underlying t2 = some (.slice el2)) (hte : TIok P el te)
    {A : Option Addr} {l c n c2 : Nat} {B : Option Addr} {olds news : List Value} (hroom : ¬ l + n ≤ c) (hb : (l + n) * te.bytes ≤ 140737488355328) (hL : l + n ≤ 140737488355328)
    (hfo : (Builtin.firstCells te.size l (.slice A l c)).run P w.drew = .ok olds.toArray w.drew) (hf : (Builtin.firstCells te.size n (.slice B n c2)).run P w.drew = .ok news.toArray w.drew) :
    ∃ rest, (Builtin.append_ #[t, t2] ty #[.slice A l c, .slice B n c2]).run P w = .ok (.slice (some ⟨w.heap.size, 0, none⟩) (l + n) (grownCap w (l + n) c el))
      (w.drew.alloc (.cells (olds ++ news ++ rest).toArray el)) ∧ rest.length = (grownCap w (l + n) c el - (l + n)) * te.size := by
  obtain ⟨i, hi, hinf, hs, hby⟩ := hte.typeInfo
  obtain ⟨z, hz, hzc, hzl, _⟩ := hte.zeroValue'
  have hzs : z.cells.size = te.size := by have := (zcells_CRp (D := fun _ => False) (h := #[]) (e := []) hzc).2; simp at this; omega
  have hfit : Builtin.nextslicecap (l + n) c * te.bytes ≤ 281474976710656 := growslice_fits (by omega) hb
  have h48 : ¬ (281474976710656 < Builtin.nextslicecap (l + n) c * te.bytes) := by omega
  have h63 : ¬ (9223372036854775807 < ((l : Int) + (n : Int))) := by omega
  have hzo := hte.sizeOf w
  refine ⟨(Builtin.zeroCells z.cells (grownCap w (l + n) c el - (l + n))).toList, ?_, by simp [size_zeroCells, hzs]⟩
  simp [Builtin.append_, run_underlying ht, run_underlying ht2, hzo, Builtin.lenOf, hroom, hinf, hby, h48, h63, Question.forced, hf, hfo, newRow, grownCap, hz]
  congr 2
  apply Array.ext'
  simp [List.append_assoc]

/-- What is appended to: nothing, or an own slice from its object's start. -/
def Dst (np : Nat) (σ : State) (t : T) (esz : Nat) (md : Option Nat) (old : List (List C)) : Prop :=
  (t = .one nilSl ∧ md = none ∧ old = []) ∨
  (∃ id len kc ob, t = .one (.os id 0 len kc) ∧ md = some id ∧ np ≤ id ∧ getObj? σ id = some ob ∧ ob.fz = false ∧ ob.esz = esz ∧ len ≤ ob.elems.length ∧ old = ob.elems.take len)

theorem Dst.nil {t : T} {esz : Nat} (h : t = .one nilSl) : Dst np σ t esz none [] := .inl ⟨h, rfl, rfl⟩

theorem Dst.own {t : T} {esz id len kc : Nat} {ob : AObj} {old : List (List C)} (h : t = .one (.os id 0 len kc)) (hge : Nat.ble np id = true) (hob : getObj? σ id = some ob) (hf : ob.fz = false) (hes : ob.esz = esz) (hl : len ≤ ob.elems.length) (ho : old = ob.elems.take len) :
    Dst np σ t esz (some id) old := .inr ⟨id, len, kc, ob, h, rfl, Nat.le_of_ble_eq_true hge, hob, hf, hes, hl, ho⟩

def killO : Option Nat → List (Option AObj) → List (Option AObj)
  | none, o => o
  | some id, o => setNth o id none

/-- The state behind 'append': the slice that was appended to is given up. -/
def appendS (dst : Option Nat) (md : Option Nat) (esz : Nat) (rows : List (List C)) (n : Nat) (cl : Bool) (σ : State) : State := match σ with
  | ⟨ρ, o, κ⟩ => putS dst (.one (.os o.length 0 n n)) ⟨ρ, snocO (killO md o) ⟨esz, rows, cl, false, false⟩, κ⟩

theorem appendS_put {dst md : Option Nat} {esz : Nat} {rows : List (List C)} {cl : Bool} (hd : dstB N dst = true) {o1 : List (Option AObj)} (ho1 : o1 = killO md σ.o) (hl : o1.length = σ.o.length) :
    putT N dst (.one (.os o1.length 0 rows.length rows.length)) ⟨σ.ρ, o1 ++ [some ⟨esz, rows, cl, false, false⟩], σ.k⟩ = some (appendS dst md esz rows rows.length cl σ) := by
  rw [putS_eq hd]
  cases σ
  cases md with
  | none => subst ho1; simp only [appendS, snocO_eq, killO]
  | some id => subst ho1; simp only [appendS, snocO_eq, killO, setNth_eq, List.length_set]

theorem Rel.emptySlice (H : Rel N np G D e σ a w) {dst : Option Nat} {esz : Nat} {cl : Bool} {A : Option Addr} {σ' : State}
    (hp : putT N dst (.one (.os σ.o.length 0 0 0)) ⟨σ.ρ, σ.o ++ [some ⟨esz, [], cl, false, false⟩], σ.k⟩ = some σ') :
    Rel N np G D (e ++ [.live none esz 0 0]) σ' (a.put dst (.slice A 0 0)) w := by
  have h1 := H.newEmpty (ob := ⟨esz, [], cl, false, false⟩) rfl
  refine h1.putv ?_ hp
  simp only [TR, CR]
  rw [← H.sr.len, getElem?_last]
  exact ⟨A, 0, rfl, Nat.le_refl _, Nat.le_refl _, Nat.le_refl _, .inl rfl⟩

theorem dA_append {o : Oper} {x y : Operand} {t t2 : TypeId} {old rows : List (List C)} (all : List (List C)) (n : Nat) (cl : Bool) {md : Option Nat} {ti ti2 te : TI}
    (hx : Dst np σ (evalO σ x) te.size md old) (hy : Src σ (evalO σ y) rows) (ho : o.op = .call ⟨.builtin .append, #[x, y], #[t, t2]⟩) (hti : findTI X.L t = some ti) (hk : ti.kind = 2) (hti2 : findTI X.L t2 = some ti2) (hk2 : ti2.kind = 2) (hte : findTI X.L ti.elem = some te)
    (h0 : Nat.blt 0 te.size = true) (hd : dstB N o.dst = true) (hro : ∀ r ∈ old, r.length = te.size) (hrr : ∀ r ∈ rows, r.length = te.size) (hb : (old.length + rows.length) * te.bytes ≤ 140737488355328) (hL : old.length + rows.length ≤ 140737488355328)
    (hall : all = old ++ rows) (hn : all.length = n) (hcl : cl = true → noOwnR all = true) :
    DidA X N np o (.e md) σ (appendS o.dst md te.size all n cl σ) := fun {G D e a w} H => by
  subst hn
  have h0' : 0 < te.size := by simpa [Nat.blt_eq] using h0
  have hu := (X.tiok hti).slice hk
  have hu2 := (X.tiok hti2).slice hk2
  have hte' := X.tiok hte
  obtain ⟨B, c2, news, hyv, hnl, hnr, hnf⟩ := Src.cells (X := X) H hy hrr h0'
  have hn1 := CRr.oneCell hnl hnr
  have hlall : all.length = old.length + rows.length := by rw [hall]; simp
  -- the slice that is appended to, zs a value, and its cells
  have hxs : Src σ (evalO σ x) old := by
    rcases hx with ⟨h, _, rfl⟩ | ⟨id, len, kc, ob, h, _, _, hob, _, _, hl, ho⟩
    · exact .inr (.inr ⟨h, rfl⟩)
    · exact .inr (.inl ⟨id, 0, len, kc, ob, h, hob, by omega, by simpa using ho⟩)
  obtain ⟨A, c, olds, hxv, hol, hor, hof⟩ := Src.cells (X := X) H hxs hro h0'
  have ho1 := CRr.oneCell hol hor
  have hexec : ∀ (r : Result Value), (Builtin.append_ #[t, t2] o.type #[a.eval x, a.eval y]).run X.P w = r → (execOp a.eval o).run X.P w = r.andThen fun v w' => .ok (.value v) w' := by
    intro r hr
    subst hr
    simp [execOp, ho, resolve, invoke, Go.builtin]
  -- what is given up
  obtain ⟨o1, e1, ho1e, ho1l, H1, hle, hfree, hpres⟩ : ∃ (o1 : List (Option AObj)) (e1 : List ALoc), o1 = killO md σ.o ∧ o1.length = σ.o.length ∧ Rel N np G D e1 ⟨σ.ρ, o1, σ.k⟩ a w ∧ Leads e e1 ∧
      (∀ (id : Nat) (b : Addr) (esz cap n : Nat), e1[id]? = some (.live (some b) esz cap n) → md ≠ some id) ∧
      (∀ (id : Nat), ¬ md = some id → e1[id]? = e[id]?) := by
    rcases hx with ⟨h, rfl, _⟩ | ⟨id, len, kc, ob, h, rfl, hge, hob, hf, _, hl, ho⟩
    · exact ⟨σ.o, e, rfl, rfl, H, Leads.refl e, by simp, by simp⟩
    · refine ⟨σ.o.set id none, e.set id .dead, by simp [killO, setNth_eq], by simp, H.kill hge (fun ob' h' => by rw [getObj?_eq hob] at h'; simp at h'; subst h'; exact hf), ?_, ?_, ?_⟩
      · intro id' l hl'
        rw [getElem?_set_ite]
        by_cases hii : id = id'
        · subst hii; right; simp [lt_of_some hl']
        · left; simp [hii, hl']
      · intro id' b esz cap n he hii
        simp at hii
        subst hii
        rw [getElem?_set_ite, if_pos rfl] at he
        split at he <;> simp at he
      · intro id' hii
        rw [getElem?_set_ite, if_neg (fun h => hii (by rw [h]))]
  have hnle : ∀ (id : Nat), ¬ md = some id → ∀ (b : Addr) (esz cap n : Nat) (l : ALoc), e[id]? = some (.live (some b) esz cap n) → (e1 ++ [l])[id]? = some (.live (some b) esz cap n) := by
    intro id hid b esz cap n l he
    rw [List.getElem?_append_left (by have := H1.sr.len; simp only at this; rw [this, ho1l, ← H.sr.len]; exact lt_of_some he), hpres id hid]; exact he
  have hput := fun (rs : List (List C)) => appendS_put (N := N) (dst := o.dst) (md := md) (esz := te.size) (rows := rs) (cl := cl) (σ := σ) hd ho1e ho1l
  by_cases hroom : old.length + rows.length ≤ c
  · have hrun := run_append_room (P := X.P) (ty := o.type) (w := w) (sz := 0) hu hu2 hte' (A := A) (c2 := c2) (B := B) hroom (by have := hnf w rfl; rw [hyv] at this; exact this)
    rw [hxv, hyv] at hexec
    have empt : c = 0 → (Builtin.append_ #[t, t2] o.type #[.slice A old.length c, .slice B rows.length c2]).run X.P w = .ok (.slice A 0 0) w → Did X N np G D e o a w (.e md) σ (appendS o.dst md te.size all all.length cl σ) := by
      intro hc hr
      have hz : all = [] := List.eq_nil_of_length_eq_zero (by omega)
      subst hz
      refine ⟨D, _, _, _, w, by rw [hexec _ hr]; rfl, .inl rfl, H1.emptySlice (A := A) (hput []), Fixes.refl _ _, fun id hid b esz cap n he => ⟨hnle id hid b esz cap n _ he, rfl⟩⟩
    rcases Nat.eq_zero_or_pos c with hc | hc
    · subst hc
      have ho0 : old.length = 0 := by omega
      have hr0 : rows.length = 0 := by omega
      refine empt rfl ?_
      rw [hrun]
      have hn0 : news = [] := List.eq_nil_of_length_eq_zero (by rw [hnl, hr0]; simp)
      cases A with
      | none => simp [ho0, hr0]
      | some ad => simp [ho0, hr0, hn0, storeCells]
    · -- in place
      rcases hx with ⟨h, rfl, _⟩ | ⟨id, len, kc, ob, h, rfl, hge, hob, hf, hesz, hl, hoe⟩
      · have hx' := H.ev x
        rw [h] at hx'
        simp only [TR, CR, nilSl] at hx'
        rw [hxv] at hx'
        simp only [Value.slice.injEq] at hx'
        omega
      · obtain ⟨aa, cap, nn, he, hobr⟩ := H.sr.objs id ob (getObj?_eq hob)
        have hx' := H.ev x
        rw [h] at hx'
        simp only [TR, CR, he] at hx'
        obtain ⟨A', c', hv', q1, q2, q3, q4⟩ := hx'
        rw [hxv] at hv'
        simp only [Value.slice.injEq] at hv'
        obtain ⟨rfl, hlen, rfl⟩ := hv'
        rcases q4 with q4 | ⟨b, rfl, rfl, q5⟩
        · omega
        · obtain ⟨hnn, hclo, hsp, _, cells, t', hh, hcap, hsz, hrr'⟩ := hobr
          have hfz : ¬ D b.block := fun hD => by
            obtain ⟨ob', ho', hf'⟩ := (H.sr.own id b _ _ _ he).2 hD
            rw [getObj?_eq hob] at ho'; simp at ho'; subst ho'; rw [hf] at hf'; cases hf'
          have hcc : (old.length + rows.length) * te.size ≤ cap * ob.esz := by rw [hesz]; exact Nat.mul_le_mul_right _ (by omega)
          rw [Nat.add_mul] at hcc
          have hst := run_storeCells_at X.P b.block (b.off + old.length * te.size) t' news 0 cells w hh (by rw [hnl]; omega) hn1
          simp only [Nat.add_zero] at hst
          obtain ⟨cells', hcs'⟩ : ∃ cs, cs = (cells.toList.take (b.off + old.length * te.size) ++ news ++ cells.toList.drop (b.off + old.length * te.size + news.length)).toArray := ⟨_, rfl⟩
          rw [← hcs'] at hst
          have hsize : cells'.size = cells.size := by rw [hcs']; simp [hnl]; omega
          have hcrr : CRr D w.heap e1 te.size all (cells'.toList.drop b.off) := by
            have h1 : cells'.toList.drop b.off = (cells.toList.drop b.off).take (old.length * te.size) ++ (news ++ cells.toList.drop (b.off + old.length * te.size + news.length)) := by
              rw [hcs']
              simp only [List.toList_toArray, List.append_assoc]
              rw [List.drop_append_of_le_length (by simp; omega), List.drop_take]
              congr 2
              omega
            rw [h1, hall, CRr.app]
            refine ⟨CRr.more ?_, ?_⟩
            · have h2 := CRr.take len hrr'
              rw [← hoe, hesz] at h2
              refine CRr.congr (fun j hj => ?_) (CRr.mono (Fixes.refl _ _) _ _ hle _ _ _ h2)
              rw [List.getElem?_take, if_pos hj]
            · have h3 : ((cells.toList.drop b.off).take (old.length * te.size)).length = old.length * te.size := by simp; omega
              rw [List.drop_append_of_le_length (by omega), List.drop_eq_nil_of_le (by omega), List.nil_append]
              exact CRr.more (CRr.mono (Fixes.refl _ _) _ _ hle _ _ _ hnr)
          have H2 := H1.newObjIn (ob := ⟨te.size, all, cl, false, false⟩) (off := b.off) (cap := cap) (cells := cells) (cells' := cells') hh hfz (fun id' b' esz' cap' n' he' hbb => by
              have hne := hfree id' b' _ _ _ he'
              rw [hpres id' (fun h => hne h)] at he'
              have := H.sr.sep id' id b' b _ _ _ _ _ _ he' he hbb
              subst this
              exact hne rfl) (H.newer hge he) rfl hcl (by simp only; omega) hsize (by simp only; rw [← hesz]; exact hsz) hcrr
          refine ⟨D, _, _, .slice (some ⟨b.block, b.off + 0 * ob.esz, none⟩) (old.length + rows.length) c, w.setRow b.block cells', ?_, .inl rfl, H2.putv ?_ (hput all), ?_⟩
          · rw [hexec _ hrun]
            simp [add_eq, hst]
          · simp only [TR, CR]
            rw [show o1.length = e1.length from H1.sr.len.symm, getElem?_last]
            simp only
            refine ⟨_, c, by rw [hlall], Nat.le_refl _, by omega, by omega, .inr ⟨_, rfl, ?_, by omega⟩⟩
            cases b
            simp at hsp
            simp [hsp]
          · refine ⟨fun b' hb' => ⟨hb', setRow_other w _ _ _ (fun hbb => hfz (hbb ▸ hb'))⟩, fun id' hid' b' esz' cap' n' he' => ⟨hnle id' hid' b' esz' cap' n' _ he', setRow_other w _ _ _ (fun hbb => hid' ?_)⟩⟩
            rw [H.sr.sep id' id b' b _ _ _ _ _ _ he' he hbb]
  · obtain ⟨rest', hrun, hrl⟩ := run_append_grown (P := X.P) (ty := o.type) (w := w) hu hu2 hte' (A := A) (l := old.length) (c := c) (n := rows.length) (c2 := c2) (B := B) (olds := olds) (news := news) hroom hb hL
      (by have := hof w.drew rfl; rw [hxv] at this; exact this) (by have := hnf w.drew rfl; rw [hyv] at this; exact this)
    rw [hxv, hyv] at hexec
    have hge := grownCap_ge w (old.length + rows.length) c ti.elem
    have H2 := H1.newObj (w' := w.drew.alloc (.cells (olds ++ news ++ rest').toArray ti.elem)) (ob := ⟨te.size, all, cl, false, false⟩) (cap := grownCap w (old.length + rows.length) c ti.elem)
      (cells := (olds ++ news ++ rest').toArray) (t := ti.elem) rfl rfl rfl rfl rfl hcl (by simp only; omega) (by
        simp [hol, hnl, hrl, ← Nat.add_mul]
        refine Nat.mul_le_mul_right _ ?_
        omega) (by
        simp only [List.append_assoc, hall]
        rw [CRr.app]
        refine ⟨CRr.more (CRr.mono (Fixes.refl _ _) _ _ hle _ _ _ hor), ?_⟩
        rw [← hol, List.drop_left]
        exact CRr.more (CRr.mono (Fixes.refl _ _) _ _ hle _ _ _ hnr))
    refine ⟨D, _, _, .slice (some ⟨w.heap.size, 0, none⟩) (old.length + rows.length) (grownCap w (old.length + rows.length) c ti.elem), _, by rw [hexec _ hrun]; rfl, .inl rfl, H2.putv ?_ (hput all), ?_⟩
    · simp only [TR, CR]
      rw [show o1.length = e1.length from H1.sr.len.symm, getElem?_last]
      simp only
      exact ⟨_, _, by rw [hlall], Nat.le_refl _, by omega, by omega, .inr ⟨_, rfl, by simp, by omega⟩⟩
    · refine ⟨H.sr.fixes_push _, fun id' hid' b' esz' cap' n' he' => ⟨hnle id' hid' b' esz' cap' n' _ he', heap_push_old _ _ (H.sr.own id' b' _ _ _ he').1⟩⟩

end

section

variable {X : Pk} {N np : Nat} {G : Ctx} {D : Nat → Prop} {e : List ALoc} {σ σ' : State} {a : Act} {w : World} {K : KP}

theorem run_equal_nil {P : Program} {t el : Nat} (hu : P.underlying t = some (.slice el)) (A : Option Addr) (l c : Nat) (w : World) : (Op.equal t (.slice A l c) (.slice none 0 0)).run P w = .ok A.isNone w := by
  show (Op.equalIn (9999 + 1) t _ _).run P w = _
  rw [Op.equalIn]
  simp only [Sem.run_bind, run_underlying hu, Result.andThen_ok]
  cases A <;> rfl

theorem Src.val (H : Rel N np G D e σ a w) {y : Operand} {rows : List (List C)} (hs : Src σ (evalO σ y) rows) : ∃ A c, a.eval y = .slice A rows.length c ∧ (A = none → rows = []) := by
  have hy := H.ev y
  rcases hs with hs | ⟨id, off, len, kc, ob, hs, hob, hl, hr⟩ | ⟨hs, rfl⟩
  · rw [hs] at hy
    simp only [TR, CR] at hy
    obtain ⟨A, c, hv, hc, hr⟩ := hy
    refine ⟨A, c, hv, fun h => ?_⟩
    rcases hr with hr | ⟨ad, _, _, _, _, h', _⟩
    · exact hr
    · rw [h] at h'; cases h'
  · obtain ⟨aa, cap, nn, he, hobr⟩ := H.sr.objs id ob (getObj?_eq hob)
    rw [hs] at hy
    simp only [TR, CR, he] at hy
    obtain ⟨A, c, hv, q1, q2, q3, hA⟩ := hy
    have hrlen : rows.length = len := by rw [hr]; simp; omega
    refine ⟨A, c, by rw [hrlen]; exact hv, fun h => ?_⟩
    rcases hA with hA | ⟨b, _, h', _⟩
    · exact List.eq_nil_of_length_eq_zero (by omega)
    · rw [h] at h'; cases h'
  · rw [hs] at hy
    simp only [TR, CR, nilSl] at hy
    exact ⟨none, 0, hy.1, fun _ => rfl⟩

/-- 'xs == nil': it may say yes of what is empty. -/
theorem step_eqNil {ops : Array Oper} {i : Nat} {dst : Option Nat} {x y : Operand} {t ty ty' : TypeId} {pos : String} {aft : Array Edge} {g : Option (Nat × Bool)} {rows : List (List C)} {ti : TI}
    (ho : nthA ops i = some ⟨dst, .binOp .eql t x y ty, ty', pos, aft, g⟩) (hg : guardOf N ops g σ = .go) (hx : Src σ (evalO σ x) rows) (hy : evalO σ y = .one nilSl) (hti : findTI X.L t = some ti) (hk : ti.kind = 2) (hd : dstB N dst = true) :
    StepA X N np ops i (fun _ => False) σ (fun σ2 => ∃ b : Bool, (b = true → rows = []) ∧ σ2 = putS dst (.one (.bool b)) σ) := by
  intro G D e a w Q K' H next
  rw [nthA_eq] at ho
  unfold wpOp
  simp only [ho, (guardOf_spec H (ops := ops) (o := ⟨dst, .binOp .eql t x y ty, ty', pos, aft, g⟩)).1 hg, if_true]
  left
  obtain ⟨A, c, hv, hA⟩ := Src.val H hx
  have hyv := H.ev y
  rw [hy] at hyv
  simp only [TR, CR, nilSl] at hyv
  have hu := (X.tiok hti).slice hk
  have hrun : (execOp a.eval ⟨dst, .binOp .eql t x y ty, ty', pos, aft, g⟩).run X.P w = .ok (.value (.bool A.isNone)) w := by
    have h1 : (Go.binOp .eql t (.slice A rows.length c) (.slice none 0 0)).run X.P w = .ok (.bool A.isNone) w := by
      show (Op.equal t _ _ >>= fun r => pure (Value.bool r)).run X.P w = _
      simp only [Sem.run_bind, run_equal_nil hu, Result.andThen_ok, Sem.run_pure]
    simp only [execOp, hv, hyv.1, eqGuard]
    simp [h1]
  unfold Oper.wp
  rw [hrun]
  simp only [Oper.upon]
  refine next D e _ _ w (H.putv (x := .one (.bool A.isNone)) (by simp only [TR, CR]) (putS_eq hd)) (Pres.refl _ _ _ _) ⟨A.isNone, fun h => hA ?_, rfl⟩
  cases A with
  | none => rfl
  | some _ => simp at h

theorem dA_concat {o : Oper} {x y : Operand} {t ty : TypeId} {s s' : Str} (r : Str) (ho : o.op = .binOp .add t x y ty) (hx : evalO σ x = .one (.str s)) (hy : evalO σ y = .one (.str s')) (hl : s.length + s'.length ≤ 4611686018427387904) (hr : r = s ++ s') (hd : dstB N o.dst = true) :
    DidA X N np o (.q none) σ (putS o.dst (.one (.str r)) σ) := fun {G D e a w} H => by
  have hxv := one_str (hx ▸ H.ev x)
  have hyv := one_str (hy ▸ H.ev y)
  refine Did.pure H (v := .string ⟨(s ++ s').toArray⟩) (fun w _ => ?_) (by simp only [TR, CR, hr]) (putS_eq hd)
  have hsz : ¬ (9223372036854775807 < ((s.length : Int) + (s'.length : Int))) := by omega
  simp [execOp, ho, hxv, hyv, eqGuard, Go.binOp, Op.stringOp, ByteArray.size, hsz]
  apply ByteArray.ext
  simp [ByteArray.data_append]

end

section

variable {X : Pk} {N np : Nat} {G : Ctx} {D : Nat → Prop} {e : List ALoc} {σ σ' : State} {a : Act} {w : World} {K : KP}

theorem rn {c c' : Cfg} {σ σ' : State} (hr : run X.L N 1000 c σ = some (c', σ')) (h : goal X N np K c' σ') : goal X N np K c σ := run_sound 1000 _ _ _ _ hr h

def tellT1 {β : Type} (t : T) (k : T → Option β) : Option β :=
  match t with
  | .one c => tellC c fun c => k (.one c)
  | .agg cs => forceL cs fun cs => k (.agg cs)
  | .tup ts => k (.tup ts)
  | .junk => k .junk

theorem tellT1_eq {β : Type} (t : T) (k : T → Option β) : tellT1 t k = k t := by cases t <;> simp [tellT1, tellC_eq, forceL_eq]

def tellTs {β : Type} : List T → (List T → Option β) → Option β
  | [], k => k []
  | t :: ts, k => tellT1 t fun t => tellTs ts fun r => k (t :: r)

theorem tellTs_eq {β : Type} : ∀ (ts : List T) (k : List T → Option β), tellTs ts k = k ts
  | [], k => rfl
  | t :: ts, k => by simp [tellTs, tellT1_eq, tellTs_eq ts]

def tellT {β : Type} (t : T) (k : T → Option β) : Option β :=
  match t with
  | .tup ts => tellTs ts fun ts => k (.tup ts)
  | t => tellT1 t k

theorem tellT_eq {β : Type} (t : T) (k : T → Option β) : tellT t k = k t := by cases t <;> simp [tellT, tellT1_eq, tellTs_eq]

/-- What is returned, told in full. -/
def finC (L : List (Nat × TI)) (fn : Func) (np : Nat) (ks : List Nat) (d : Nat) (σ : State) : Option (T × List (Option AObj)) :=
  match nodupB (rangeL 0 np ks), resT L fn σ with
  | true, some t => tellT (reT (fun id => idxOf (rangeL 0 np ks) id 0) (fzAll (fun id => idxOf (rangeL 0 np ks) id 0) 0 σ.o) d t) fun r =>
      forceO (pickO (fzAll (fun id => idxOf (rangeL 0 np ks) id 0) 0 σ.o) d (rangeL 0 np ks)) fun o' => some (r, o')
  | _, _ => none

theorem fin_is {fn : Func} {Φ : Post} {r : T} {o' : List (Option AObj)} (ks : List Nat) (hc : finC X.L fn np ks 4 σ = some (r, o')) (h : Φ r o') : ∃ σ', Weak fn.ntmps np σ σ' ∧ Fin X fn np Φ σ' := by
  refine fin_now ?_
  unfold finC at hc
  split at hc
  · rename_i t hnd ht
    rw [tellT_eq, forceO_eq] at hc
    simp only [Option.some.injEq, Prod.mk.injEq] at hc
    obtain ⟨rfl, rfl⟩ := hc
    exact ⟨ks, 4, t, hnd, ht, h⟩
  · cases hc

/-- The same, a nil slice in tmp 't' taken zs an own one. -/
theorem fin_adopt {fn : Func} {Φ : Post} {r : T} {o' : List (Option AObj)} (t j esz : Nat) (ks : List Nat) (hc : finC X.L fn np ks 4 (adoptS t j esz σ) = some (r, o')) (h : Φ r o') : ∃ σ', Weak fn.ntmps np σ σ' ∧ Fin X fn np Φ σ' := by
  obtain ⟨σ', hw, hf⟩ := fin_is ks hc h
  exact ⟨σ', Weak.trans (Weak.adopt t j esz) hw, hf⟩

/-- An object is told otherwise: its memory is zs it was. -/
theorem Rel.reObj (H : Rel N np G D e σ a w) {id : Nat} {ob ob' : AObj} (hid : σ.o[id]? = some (some ob)) (hes : ob'.esz = ob.esz) (hfz : ob'.fz = ob.fz)
    (hr : ∀ aa cap n, ObjR D w.heap e ob aa cap n → ObjR D w.heap e ob' aa cap n) : Rel N np G D e ⟨σ.ρ, σ.o.set id (some ob'), σ.k⟩ a w := by
  have hidlt := lt_of_some hid
  refine ⟨H.hnp, by simpa using H.nple, H.ext, H.defers, H.size, H.tmps, ⟨by simpa using H.sr.len, ?_, ?_, H.sr.sep, H.sr.dom⟩, H.new, H.old, H.keep⟩
  · intro id' ob1 hid'
    rw [getElem?_set_ite] at hid'
    by_cases hii : id = id'
    · subst hii
      simp [hidlt] at hid'
      subst hid'
      obtain ⟨aa, cap, n, he, hob⟩ := H.sr.objs id ob hid
      exact ⟨aa, cap, n, by rw [hes]; exact he, hr aa cap n hob⟩
    · rw [if_neg hii] at hid'
      exact H.sr.objs id' ob1 hid'
  · intro id' b esz cap n he
    obtain ⟨h1, h2⟩ := H.sr.own id' b _ _ _ he
    refine ⟨h1, fun hD => ?_⟩
    obtain ⟨ob1, ho1, hf1⟩ := h2 hD
    by_cases hii : id = id'
    · subst hii
      rw [hid] at ho1; simp at ho1; subst ho1
      exact ⟨ob', by rw [getElem?_set_ite]; simp [hidlt], by rw [hfz]; exact hf1⟩
    · exact ⟨ob1, by rw [getElem?_set_ite, if_neg hii]; exact ho1, hf1⟩

/-- A nil slice in cell 'j' of the variable 'id' becomes an own object that is empty. -/
def adoptO (id j esz : Nat) (σ : State) : State := match σ with
  | ⟨ρ, o, κ⟩ => match nth o id with
    | some (some ⟨es, [row], false, fz, bx⟩) => ⟨ρ, setNth (snocO o ⟨esz, [], true, false, false⟩) id (some ⟨es, [adoptAt o.length j row], false, fz, bx⟩), κ⟩
    | _ => ⟨ρ, o, κ⟩

theorem Weak.adoptO (id j esz : Nat) : Weak N np σ (adoptO id j esz σ) := fun {G D e a w} H => by
  cases σ with
  | mk ρ o κ =>
  unfold Go.Proofs.YtkchcffmefbomaaGreatDoor.adoptO
  simp only
  split
  · rename_i es row fz bx hn
    rw [nth_eq] at hn
    have h1 := H.newEmpty (ob := ⟨esz, [], true, false, false⟩) rfl
    have hlast : (e ++ [ALoc.live none esz 0 0])[o.length]? = some (.live none esz 0 0) := by
      have := H.sr.len; simp only at this; rw [← this]; exact getElem?_last _ _
    have hid' : (o ++ [some ⟨esz, [], true, false, false⟩])[id]? = some (some ⟨es, [row], false, fz, bx⟩) := by
      rw [List.getElem?_append_left (lt_of_some hn)]; exact hn
    refine ⟨D, e ++ [.live none esz 0 0], ?_⟩
    rw [setNth_eq, snocO_eq]
    refine h1.reObj hid' rfl rfl ?_
    rintro aa cap n ⟨q1, q2, q3⟩
    refine ⟨q1, by simp, ?_⟩
    cases aa with
    | none => simp at q3
    | some b =>
      obtain ⟨z1, z2, cells, t, z3, z4, z5, z6⟩ := q3
      refine ⟨z1, z2, cells, t, z3, z4, z5, ?_⟩
      simp only [CRr] at z6 ⊢
      exact ⟨by rw [adoptAt_length]; exact z6.1, adoptAt_CR hlast z6.2.1, trivial⟩
  · exact ⟨D, e, H⟩

theorem fin_weak {fn : Func} {Φ : Post} {σ' : State} (hw : Weak fn.ntmps np σ σ') (h : ∃ σ'', Weak fn.ntmps np σ' σ'' ∧ Fin X fn np Φ σ'') : ∃ σ', Weak fn.ntmps np σ σ' ∧ Fin X fn np Φ σ' := by
  obtain ⟨σ2, hw2, hf⟩ := h
  exact ⟨σ2, Weak.trans hw hw2, hf⟩

def rowB (b : UInt8) : List C := [.int .u8 b.toNat]

end

def rdOk (rd : Option Nat) (prot : List Nat) : Bool := match rd with
  | none => true
  | some id => memB id prot

theorem rdOk_spec {rd : Option Nat} {prot : List Nat} (h : rdOk rd prot = true) : rdIn rd prot := by
  cases rd with
  | none => exact rdIn_none
  | some id => exact rdIn_mem h

/-- The operations 'is' may come up one behind the other, each free of what is not yet listed. -/
def orderOk (ops : Array Oper) : Array Bool → List Nat → Bool
  | _, [] => true
  | l, i :: r => Region.free .any ops l i && (Region.ready .any ops l).contains i && orderOk ops (l.setIfInBounds i true) r

def setAll : Array Bool → List Nat → Array Bool
  | l, [] => l
  | l, i :: r => setAll (l.setIfInBounds i true) r

def runD (L : List (Nat × TI)) (N : Nat) (ops : Array Oper) (prot : List Nat) : List Nat → State → Option State
  | [], σ => some σ
  | i :: r, σ => match nthA ops i with
    | none => none
    | some ⟨dst, op, _, _, _, g⟩ => match guardOf N ops g σ with
      | .go => match kindOf op σ with
        | .q rd => match rdOk rd prot with
          | true => match stepOp L N dst op σ with
            | some σ' => addKF dst op σ σ' fun σ' => runD L N ops prot r σ'
            | none => none
          | false => none
        | .e _ => none
      | .skip => match putT N dst (.tup []) σ with
        | some ⟨ρ, o, κ⟩ => match dst with
          | some d => runD L N ops prot r ⟨ρ, o, d :: κ⟩
          | none => runD L N ops prot r ⟨ρ, o, κ⟩
        | none => none
      | .open_ => none

section

variable {X : Pk} {N np : Nat} {K : KP} {σ σ' : State} {ops : Array Oper} {prot : List Nat} {fuel : Nat} {listed : Array Bool} {i : Nat}

theorem AH_addK {d : Option Nat} {b : Bool} (h : AH X N np ops K prot fuel listed (addK d b σ)) : AH X N np ops K prot fuel listed σ := fun G D e a w H => h G D e a w (H.addK d b)

theorem runD_sound (hs : Region.noSelect ops = true) : ∀ (is : List Nat) (l : Array Bool) (σ σ' : State) (f : Nat), orderOk ops l is = true → runD X.L N ops prot is σ = some σ' →
    AH X N np ops K prot f (setAll l is) σ' → AH X N np ops K prot (f + is.length) l σ
  | [], l, σ, σ', f, _, hr, H => by simp [runD] at hr; subst hr; exact H
  | i :: r, l, σ, σ', f, ho, hr, H => by
    simp only [orderOk, Bool.and_eq_true] at ho
    simp only [runD] at hr
    split at hr
    · cases hr
    · rename_i dst op ty pos aft g hop
      split at hr
      · rename_i hg
        split at hr
        · rename_i rd hk
          split at hr
          · rename_i hrd
            split at hr
            · rename_i σ1 hst
              rw [addKF_eq] at hr
              exact AH_take (o := ⟨dst, op, ty, pos, aft, g⟩) i hop hs ho.1.1 ho.1.2 hg (hk ▸ dA_step hst) (rdOk_spec hrd) (AH_addK (runD_sound hs r _ _ σ' f ho.2 hr H))
            · cases hr
          · cases hr
        · cases hr
      · rename_i hg
        split at hr
        · rename_i ρ1 o1 κ1 hst
          refine AH_skip (o := ⟨dst, op, ty, pos, aft, g⟩) i hop hs ho.1.1 ho.1.2 hg hst ?_
          split at hr
          · exact fun G D e a w HR => runD_sound hs r _ _ σ' f ho.2 hr H G D e a w (HR.hints _)
          · exact runD_sound hs r _ _ σ' f ho.2 hr H
        · cases hr
      · cases hr

/-- The operations 'is', all computed. -/
theorem drn (is : List Nat) (hs : Region.noSelect ops = true) (ho : orderOk ops listed is = true) (hr : runD X.L N ops prot is σ = some σ') (hf : Nat.ble is.length fuel = true)
    (h : AH X N np ops K prot (fuel - is.length) (setAll listed is) σ') : AH X N np ops K prot fuel listed σ := by
  have := runD_sound hs is listed σ σ' (fuel - is.length) ho hr h
  rwa [Nat.sub_add_cancel (Nat.le_of_ble_eq_true hf)] at this

/-- A drawn region; 'n' operations. -/
theorem goal_draw' {id : Nat} {k : List It} (prot : List Nat) (n : Nat) (hn : ops.size = n) (h : AH X N np ops (after X N np k K) prot n (Array.replicate n false) ⟨σ.ρ, σ.o, []⟩) : goal X N np K (.cod (.region id ops true) k) σ := by
  subst hn; exact goal_draw prot h

theorem step_callE {ops : Array Oper} {i : Nat} {dst : Option Nat} {c : Operand} {xs : Array Operand} {ts : Array TypeId} {ty : TypeId} {pos : String} {aft : Array Edge} {g : Option (Nat × Bool)}
    {f : FuncId} {caps : List C} {args args' : List T} {o1 : List (Option AObj)} {Φ : Post} {σ1 : State} (js : List Nat)
    (ho : nthA ops i = some ⟨dst, .call ⟨.value c, xs, ts⟩, ty, pos, aft, g⟩) (hg : guardOf N ops g σ = .go) (hc : evalO σ c = .one (.fn f caps))
    (hnd : nodupB js = true) (hd : dstB N dst = true)
    (hcs : callS np js σ (appT (evalArgs σ xs.toList) (onesT caps)) = some (σ1, args, o1)) (hae : args = args') (hcon : ACalls X f args' o1 Φ) :
    StepA X N np ops i (fun id => id ∈ js) σ (fun σ2 => ∃ r o', Φ r o' ∧ retS N js dst σ1 r o' = some σ2) := by
  subst hae; exact step_call js ho hg hc hnd hd hcs hcon

theorem step_lendE {ops : Array Oper} {i : Nat} {dst : Option Nat} {c : Operand} {xs : Array Operand} {ts : Array TypeId} {ty : TypeId} {pos : String} {aft : Array Edge} {g : Option (Nat × Bool)}
    {f : FuncId} {caps : List C} {args args' : List T} {o1 : List (Option AObj)} {Φ : Post} {σ1 : State} (js : List Nat)
    (ho : nthA ops i = some ⟨dst, .call ⟨.value c, xs, ts⟩, ty, pos, aft, g⟩) (hg : guardOf N ops g σ = .go) (hc : evalO σ c = .one (.fn f caps))
    (hnd : nodupB js = true) (hd : dstB N dst = true) (hlv : liveJs σ.o js = true)
    (hcs : callS np js σ (appT (evalArgs σ xs.toList) (onesT caps)) = some (σ1, args, o1)) (hae : args = args') (hcon : ACalls X f args' o1 Φ) (hno : ∀ r o', Φ r o' → noFzT r = true ∧ noFzO o' = true) :
    StepA X N np ops i (fun id => id ∈ js) σ (fun σ2 => ∃ r o', Φ r o' ∧ retS N js dst σ r o' = some σ2) := by
  subst hae; exact step_lend js ho hg hc hnd hd hlv hcs hcon hno

def mdFree (kd : Kd) (prot : List Nat) : Bool := match kd with
  | .q _ => true
  | .e none => true
  | .e (some id) => match memB id prot with
    | true => false
    | false => true

theorem mdOk {kd : Kd} {prot : List Nat} (h : mdFree kd prot = true) : ∀ id ∈ prot, ¬ mdOf kd id := by
  intro id hid
  cases kd with
  | q rd => exact fun h => h
  | e md =>
    cases md with
    | none => intro h'; cases h'
    | some id' =>
      intro h'
      simp only [mdOf, Option.some.injEq] at h'
      subst h'
      simp only [mdFree] at h
      split at h
      · cases h
      · rename_i hm; exact memB_false hm hid

theorem AH_end {k : List It} (hr : Region.ready .any ops listed = []) (h : goal X N np K (.nrm k) σ) : AH X N np ops (after X N np k K) prot fuel listed σ := AH_done hr h

/-- An operation that reads, by a rule of its own. -/
theorem AH_did {o : Oper} {rd : Option Nat} (i : Nat) (ho : nthA ops i = some o) (hs : Region.noSelect ops = true) (hf : Region.free .any ops listed i = true) (hr : (Region.ready .any ops listed).contains i = true)
    (hg : guardOf N ops o.guard σ = .go) (hrd : rdOk rd prot = true) (hd : DidA X N np o (.q rd) σ σ')
    (h : AH X N np ops K prot fuel (listed.setIfInBounds i true) σ') : AH X N np ops K prot (fuel + 1) listed σ := AH_take i ho hs hf hr hg hd (rdOk_spec hrd) h

/-- One that may write, and alone is ready. -/
theorem AH_oneDid {kd : Kd} {o : Oper} (i : Nat) (ho : nthA ops i = some o) (hr : Region.ready .any ops listed = [i]) (hg : guardOf N ops o.guard σ = .go) (hd : DidA X N np o kd σ σ') (hmd : ∀ id ∈ prot, ¬ mdOf kd id)
    (h : AH X N np ops K prot fuel (listed.setIfInBounds i true) σ') : AH X N np ops K prot (fuel + 1) listed σ :=
  AH_one hr (step_did ho hg hd) hmd (by rintro _ rfl; exact h)

end

section

variable {X : Pk} {N np : Nat} {G : Ctx} {D : Nat → Prop} {e : List ALoc} {σ σ' : State} {a : Act} {w : World} {K : KP}

def eqCell : C → C → Option Bool
  | .bool x, .bool y => some (x == y)
  | .int k x, .int k' y => match eqKind k k' with
    | true => some (x == y)
    | false => none
  | .str x, .str y => some (x == y)
  | _, _ => none

def eqCells : List C → List C → Option Bool
  | [], [] => some true
  | c :: cs, d :: ds => match eqCell c d, eqCells cs ds with
    | some x, some y => some (x && y)
    | _, _ => none
  | _, _ => none

theorem run_part {P : Program} {t off : Nat} {ti : TI} {xs : Array Value} {v : Value} (H : TIok P t ti) (ha : ti.agg = false) (hv : xs.toList[off]? = some v) (w : World) : (part t xs off).run P w = .ok v w := by
  have hv' : xs[off]? = some v := by simpa using hv
  have h1 := H.isAgg w
  rw [ha] at h1
  simp [part, h1, hv']

theorem run_eqCell {t : Nat} {ti : TI} {d : Nat} {c c' : C} {x y : Value} {b : Bool} {h : Array Obj} (ht : findTI X.L t = some ti) (hk : ti.kind = 1 ∨ ti.kind = 4 ∨ ti.kind = 5) (hc : CR D h e c x) (hc' : CR D h e c' y) (hb : eqCell c c' = some b)
    (hkk : (∃ s, c = .str s) → ti.kind = 1) (hki : (∃ k n, c = .int k n) → ti.kind = 4) (hkb : (∃ p, c = .bool p) → ti.kind = 5) (w : World) :
    (Op.equalIn (d + 1) t x y).run X.P w = .ok b w := by
  unfold eqCell at hb
  split at hb
  · simp only [CR] at hc hc'
    subst hc; subst hc'
    have hu := (X.tiok ht).bool (hkb ⟨_, rfl⟩)
    simp at hb; subst hb
    exact run_equalIn_bool' w d t _ _ hu
  · split at hb
    · rename_i hkd
      have := eqKind_eq hkd
      subst this
      simp only [CR] at hc hc'
      subst hc; subst hc'
      have hu := (X.tiok ht).int (hki ⟨_, _, rfl⟩)
      simp at hb; subst hb
      exact run_equalIn_int w d t _ _ _ _ hu
    · cases hb
  · simp only [CR] at hc hc'
    subst hc; subst hc'
    have hu := (X.tiok ht).string (hkk ⟨_, rfl⟩)
    simp at hb; subst hb
    simp [run_equalIn_string w d t _ _ hu]
  · cases hb

def kindFits : C → Nat → Bool
  | .str _, 1 => true
  | .int _ _, 4 => true
  | .bool _, 5 => true
  | _, _ => false

/-- Fields of one cell each: numbers, texts, truth values; the cells are such. -/
def plainC (L : List (Nat × TI)) : Nat → List (Nat × Nat) → List C → Bool
  | _, [], [] => true
  | off, (o, t) :: r, c :: cs => match Nat.beq o off, findTI L t with
    | true, some ⟨false, _, _, _, _, _, kind, _⟩ => match kindFits c kind with
      | true => plainC L (off + 1) r cs
      | false => false
    | _, _ => false
  | _, _, _ => false

theorem run_eqFields {d : Nat} {xs ys : Array Value} {h : Array Obj} : ∀ (fs : List Field) (off : Nat) (cs ds : List C) (b : Bool), fs.all (fun f => f.name != "_") = true → plainC X.L off (fs.map fun f => (f.offset, f.type)) cs = true →
    CRp D h e cs (xs.toList.drop off) → CRp D h e ds (ys.toList.drop off) → eqCells cs ds = some b → ∀ w : World, (Op.eqFields (d + 1) xs ys fs).run X.P w = .ok b w
  | [], off, cs, ds, b, _, hp, _, _, hb, w => by
    cases cs with
    | nil =>
      cases ds with
      | nil => simp [eqCells] at hb; subst hb; simp [Op.eqFields]
      | cons _ _ => simp [eqCells] at hb
    | cons _ _ => simp [plainC] at hp
  | f :: fs, off, cs, ds, b, hn, hp, hc, hd, hb, w => by
    cases cs with
    | nil => simp [plainC] at hp
    | cons c cs =>
      cases ds with
      | nil => simp [eqCells] at hb
      | cons c' ds =>
        simp only [List.map_cons, plainC] at hp
        split at hp
        · rename_i size bytes zero fields elem kind ik ho ht
          split at hp
          · rename_i hk
            have ho' := Nat.eq_of_beq_eq_true ho
            simp only [eqCells] at hb
            split at hb
            · rename_i x y hx hy
              simp at hb; subst hb
              simp only [List.all_cons, Bool.and_eq_true, bne_iff_ne, ne_eq] at hn
              obtain ⟨v, hv, hcv⟩ := CRp.get hc (j := 0) (c := c) rfl
              obtain ⟨v', hv', hcv'⟩ := CRp.get hd (j := 0) (c := c') rfl
              rw [List.getElem?_drop, Nat.add_zero] at hv hv'
              rw [← ho'] at hv hv'
              have e1 := run_part (X.tiok ht) rfl hv w
              have e2 := run_part (X.tiok ht) rfl hv' w
              have e3 := run_eqCell (d := d) ht (by cases c <;> unfold kindFits at hk <;> split at hk <;> simp_all) hcv hcv' hx
                (by rintro ⟨s, rfl⟩; unfold kindFits at hk; split at hk <;> simp_all) (by rintro ⟨k, n, rfl⟩; unfold kindFits at hk; split at hk <;> simp_all) (by rintro ⟨q, rfl⟩; unfold kindFits at hk; split at hk <;> simp_all) w
              have hc1 := CRp.drop 1 hc
              have hd1 := CRp.drop 1 hd
              rw [List.drop_drop] at hc1 hd1
              have ih := run_eqFields (d := d) fs (off + 1) cs ds y hn.2 hp hc1 hd1 hy w
              simp only [Op.eqFields, ne_eq, hn.1, not_false_eq_true, if_true, Sem.run_bind, e1, e2, e3, Result.andThen_ok]
              cases x with
              | true => simpa using ih
              | false => simp
            · cases hb
          · cases hp
        · cases hp

/-- 'x == y', 'x != y', structs of numbers, texts and truth values. -/
theorem dA_eqStruct {o : Oper} {op : BinOp} {t ty : TypeId} {x y : Operand} {cs ds : List C} {b : Bool} (r : Bool) {ti : TI} (hop : (op = .eql ∧ r = b) ∨ (op = .neq ∧ r = !b))
    (ho : o.op = .binOp op t x y ty) (hti : findTI X.L t = some ti) (hk : ti.kind = 3) (hx : evalO σ x = .agg cs) (hy : evalO σ y = .agg ds) (hp : plainC X.L 0 ti.fields cs = true) (hb : eqCells cs ds = some b)
    (hst : X.P.stoodInHeld t = false) (hg : X.P.eqGuardType X.P.depth t = false) (hnm : (X.P.fieldsOf t).toList.all (fun f => f.name != "_") = true) (hd : dstB N o.dst = true) :
    DidA X N np o (.q none) σ (putS o.dst (.one (.bool r)) σ) := fun {G D e a w} H => by
  obtain ⟨fs, hu, hfs⟩ := (X.tiok hti).struct hk
  have hf : X.P.fieldsOf t = fs := by simp [Program.fieldsOf, hu]
  have hxv := H.ev x
  have hyv := H.ev y
  rw [hx] at hxv; rw [hy] at hyv
  simp only [TR] at hxv hyv
  obtain ⟨vs, hv, hl, hr⟩ := hxv
  obtain ⟨us, hv', hl', hr'⟩ := hyv
  have hE : ∀ w : World, (Op.equalIn 10000 t (.agg vs) (.agg us)).run X.P w = .ok b w := by
    intro w
    rw [run_equalIn_struct (P := X.P) w 9999 t vs us (by rw [hf]; exact hu) hst, hf]
    rw [hf] at hnm
    rw [← hfs] at hp
    exact run_eqFields (d := 9998) (D := D) (e := e) fs.toList 0 cs ds b hnm hp (by simpa using hr) (by simpa using hr') hb w
  refine Did.pure H (v := .bool r) (fun w _ => ?_) (by simp only [TR, CR]) (putS_eq hd)
  simp only [execOp, ho, hv, hv', Sem.run_bind, run_eqGuard_agg (P := X.P) w op t x y vs us hg, Result.andThen_ok]
  rcases hop with ⟨rfl, rfl⟩ | ⟨rfl, rfl⟩
  · rw [run_eql_struct (P := X.P) w t vs us, hE]; simp
  · rw [run_neq_struct (P := X.P) w t vs us, hE]; simp

end

section

variable {X : Pk} {N np : Nat} {σ σ' : State}

theorem dA_rem {o : Oper} {t ty : TypeId} {x y : Operand} {k : IntKind} {n m : Int} (r : Int) (ho : o.op = .binOp .rem t x y ty) (hx : evalO σ x = .one (.int k n)) (hy : evalO σ y = .one (.int k m)) (hm : m ≠ 0) (hr : r = n.tmod m) (hd : dstB N o.dst = true) :
    DidA X N np o (.q none) σ (putS o.dst (.one (.int k r)) σ) := fun {G D e a w} H => by
  have h1 := one_int (hx ▸ H.ev x)
  have h2 := one_int (hy ▸ H.ev y)
  refine Did.pure H (v := .int k (n.tmod m)) (fun w _ => ?_) (by simp only [TR, CR, hr]) (putS_eq hd)
  simp [execOp, ho, h1, h2, eqGuard, Go.binOp, Op.intDiv, hm]

theorem dA_quo {o : Oper} {t ty : TypeId} {x y : Operand} {k : IntKind} {n m : Int} (r : Int) (ho : o.op = .binOp .quo t x y ty) (hx : evalO σ x = .one (.int k n)) (hy : evalO σ y = .one (.int k m)) (hm : m ≠ 0) (hr : r = k.wrap (n.tdiv m)) (hd : dstB N o.dst = true) :
    DidA X N np o (.q none) σ (putS o.dst (.one (.int k r)) σ) := fun {G D e a w} H => by
  have h1 := one_int (hx ▸ H.ev x)
  have h2 := one_int (hy ▸ H.ev y)
  refine Did.pure H (v := .int k (k.wrap (n.tdiv m))) (fun w _ => ?_) (by simp only [TR, CR, hr]) (putS_eq hd)
  simp [execOp, ho, h1, h2, eqGuard, Go.binOp, Op.intDiv, hm]

theorem dA_xor {o : Oper} {t ty : TypeId} {x y : Operand} {n m : Int} (p q : Nat) (ho : o.op = .binOp .xor t x y ty) (hx : evalO σ x = .one (.int .i64 n)) (hy : evalO σ y = .one (.int .i64 m)) (hn : n = (p : Int)) (hm : m = (q : Int)) (hp : p < 2 ^ 62) (hq : q < 2 ^ 62) (hd : dstB N o.dst = true) :
    DidA X N np o (.q none) σ (putS o.dst (.one (.int .i64 ((p ^^^ q : Nat) : Int))) σ) := fun {G D e a w} H => by
  subst hn; subst hm
  have h1 := one_int (hx ▸ H.ev x)
  have h2 := one_int (hy ▸ H.ev y)
  have hlt : p ^^^ q < 2 ^ 62 := Nat.xor_lt_two_pow hp hq
  have hb : (BitVec.ofInt IntKind.i64.bits (p : Int) ^^^ BitVec.ofInt IntKind.i64.bits (q : Int)).toNat = p ^^^ q := by
    show (BitVec.ofInt 64 (p : Int) ^^^ BitVec.ofInt 64 (q : Int)).toNat = p ^^^ q
    rw [BitVec.toNat_xor, BitVec.toNat_ofInt, BitVec.toNat_ofInt]
    have e1 : ((p : Int) % ((2 ^ 64 : Nat) : Int)).toNat = p := by omega
    have e2 : ((q : Int) % ((2 ^ 64 : Nat) : Int)).toNat = q := by omega
    rw [e1, e2]
  have hw : IntKind.i64.wrap ((p ^^^ q : Nat) : Int) = ((p ^^^ q : Nat) : Int) := by
    have h0 : (0 : Int) ≤ ((p ^^^ q : Nat) : Int) := by omega
    have h1 : ((p ^^^ q : Nat) : Int) < 4611686018427387904 := by
      have : (p ^^^ q : Nat) < 4611686018427387904 := hlt
      omega
    generalize ((p ^^^ q : Nat) : Int) = z at h0 h1
    simp only [IntKind.wrap, IntKind.bits, IntKind.signed]
    simp
    split <;> omega
  refine Did.pure H (v := .int .i64 ((p ^^^ q : Nat) : Int)) (fun w _ => ?_) (by simp only [TR, CR]) (putS_eq hd)
  have hr : (Go.binOp .xor t (.int .i64 (p : Int)) (.int .i64 (q : Int))).run X.P w = .ok (.int .i64 ((p ^^^ q : Nat) : Int)) w := by
    rw [binOp_xor]
    simp only [Op.intBits, Sem.run_pure]
    rw [hb, hw]
  simp only [execOp, ho, h1, h2, eqGuard]
  simp [hr]

end

section

variable {P : Program} {ops : Array Oper} {Q : Exit → Act → World → Prop} {md : Region.Mode} {S : World → Prop} {ds : List Nat}

/-- Whatever order is picked from here on; 'S' holds behind every operation but those in 'ds', and from the first of these on nobody asks for it. -/
def wpAnyL (P : Program) (md : Region.Mode) (ops : Array Oper) (Q : Exit → Act → World → Prop) (S : World → Prop) (ds : List Nat) : Nat → Array Bool → Act → World → Prop
  | 0, listed, a, w => Region.ready md ops listed = [] ∧ Q .normal a w
  | fuel + 1, listed, a, w =>
    (Region.ready md ops listed = [] → Q .normal a w) ∧
    ∀ i ∈ Region.ready md ops listed, wpOp P ops Q i (fun a' w' => (i ∈ ds → wpAny P md ops Q fuel (listed.setIfInBounds i true) a' w') ∧ (i ∉ ds → S w' ∧ wpAnyL P md ops Q S ds fuel (listed.setIfInBounds i true) a' w')) a w

theorem wpAny_of_L : ∀ (fuel : Nat) (listed : Array Bool) (a : Act) (w : World), wpAnyL P md ops Q S ds fuel listed a w → wpAny P md ops Q fuel listed a w
  | 0, _, _, _, h => h
  | fuel + 1, _, _, _, h => ⟨h.1, fun i hi => wpOp_mono (fun a' w' h' => by
      by_cases hd : i ∈ ds
      · exact h'.1 hd
      · exact wpAny_of_L fuel _ a' w' (h'.2 hd).2) (h.2 i hi)⟩

theorem wpAnyL_first {i : Nat} {oi : Oper} {v : Value} {W : List Nat} (hi : ops[i]? = some oi) (hsel : ∀ (j : Nat) (o : Oper) cs b, ops[j]? = some o → o.op ≠ .select cs b)
    (hQ : ∀ c a w, Q (.panic c) (a.put oi.dst v) w → Q (.panic c) a w) (hids : i ∉ ds) (hdW : ∀ j ∈ ds, j ∈ W)
    (hW : ∀ j ∈ W, ∀ oj, ops[j]? = some oj → ∃ e ∈ oj.after, Region.binds md e = true ∧ (e.on = i ∨ e.on ∈ W)) :
    ∀ (fuel : Nat) (listed : Array Bool) (a : Act) (w : World),
      (∀ j ∈ W, listed.getD j false = false) →
      (∀ j oj, ops[j]? = some oj → j ≠ i → listed.getD j true = false → (∀ e ∈ oj.after, Region.binds md e = true → e.on ≠ i) → oi.apart ops oj = true) →
      i ∈ Region.ready md ops listed → YieldsIf P ops S oi v a → S w →
      wpAnyL P md ops Q S ds fuel (listed.setIfInBounds i true) (a.put oi.dst v) w → wpAnyL P md ops Q S ds (fuel + 1) listed a w := by
  intro fuel
  have iun : ∀ listed : Array Bool, i ∈ Region.ready md ops listed → listed.getD i false = false := fun listed hr => by
    have h0 := (mem_ready.1 hr).1
    rcases Nat.lt_or_ge i listed.size with h' | h'
    · simp [h'] at h0 ⊢; exact h0
    · simp [Array.getElem?_eq_none h']
  have out : ∀ (listed : Array Bool) (j : Nat), (∀ j ∈ W, listed.getD j false = false) → i ∈ Region.ready md ops listed → j ∈ Region.ready md ops listed → j ∉ W := fun listed j hl hr hj hjW => by
    obtain ⟨_, oj, hoj, hall⟩ := mem_ready.1 hj
    obtain ⟨e, he, hb, h | h⟩ := hW j hjW oj hoj
    · have h1 := hall e he hb
      rw [h, iun listed hr] at h1; cases h1
    · have h1 := hall e he hb
      rw [hl _ h] at h1; cases h1
  induction fuel with
  | zero =>
    intro listed a w hl _ hr hy hS H
    refine ⟨fun h => (by rw [h] at hr; cases hr), fun j hj => ?_⟩
    by_cases hji : j = i
    · subst hji; exact hy.wpOp hi hS ⟨fun h => absurd h hids, fun _ => ⟨hS, H⟩⟩
    · have := ready_mono hj hji
      rw [H.1] at this
      cases this
  | succ fuel ih =>
    intro listed a w hl hfree hr hy hS H
    refine ⟨fun h => (by rw [h] at hr; cases hr), fun j hj => ?_⟩
    by_cases hji : j = i
    · subst hji; exact hy.wpOp hi hS ⟨fun h => absurd h hids, fun _ => ⟨hS, H⟩⟩
    · have hjW : j ∉ W := out listed j hl hr hj
      have hjd : j ∉ ds := fun h => hjW (hdW j h)
      have h1 := H.2 j (ready_mono hj hji)
      obtain ⟨hjun, oj, hoj, hall⟩ := mem_ready.1 hj
      have hnot : ∀ e ∈ oj.after, Region.binds md e = true → e.on ≠ i := fun e he hb heq => by
        have h1 := hall e he hb
        rw [heq, iun listed hr] at h1; cases h1
      have h2 := wpOp_putIf hoj (hfree j oj hoj hji hjun hnot) (fun cs b => hsel i oi cs b hi) (fun cs b => hsel j oj cs b hoj) hQ hy h1
      have hfree' : ∀ k ok, ops[k]? = some ok → k ≠ i → (listed.setIfInBounds j true).getD k true = false →
          (∀ e ∈ ok.after, Region.binds md e = true → e.on ≠ i) → oi.apart ops ok = true := fun k ok hk hki hun hno => by
        refine hfree k ok hk hki ?_ hno
        by_cases hjk : j = k
        · subst hjk; exact hjun
        · rw [getD_set_ne true hjk] at hun; exact hun
      have hl' : ∀ k ∈ W, (listed.setIfInBounds j true).getD k false = false := fun k hk => by
        by_cases hjk : j = k
        · subst hjk; exact absurd hk hjW
        · rw [getD_set_ne false hjk]; exact hl k hk
      refine wpOp_mono (fun a' w' h3 => ⟨fun h => absurd h hjd, fun _ => ⟨(h3.2.2 hjd).1, ih (listed.setIfInBounds j true) a' w' hl' hfree' (ready_mono hr (Ne.symm hji)) h3.1 (h3.2.2 hjd).1 ?_⟩⟩) h2
      rw [Array.setIfInBounds_comm _ _ hji]
      exact (h3.2.2 hjd).2

end

/-- The operations that wait for number 'i'. -/
def behindOf (ops : Array Oper) (i : Nat) : List Nat :=
  (List.range ops.size).foldl (fun W j => match ops[j]? with
    | some o => if o.after.toList.any (fun e => Region.binds .any e && (e.on == i || W.contains e.on)) then j :: W else W
    | none => W) []

def wOk (ops : Array Oper) (ds : List Nat) (listed : Array Bool) (i : Nat) (W : List Nat) : Bool :=
  !ds.contains i && ds.all (fun j => W.contains j) && W.all (fun j => !(listed.getD j false) && (match ops[j]? with
    | some o => o.after.toList.any (fun e => Region.binds .any e && (e.on == i || W.contains e.on))
    | none => true))

def lateOk (ops : Array Oper) (ds : List Nat) (listed : Array Bool) (i : Nat) : Bool := wOk ops ds listed i (behindOf ops i)

/-- As 'AH'; the operations in 'ds' may write what is in 'prot'. -/
def AHL (X : Pk) (N np : Nat) (ops : Array Oper) (K : KP) (prot ds : List Nat) (fuel : Nat) (listed : Array Bool) (σ : State) : Prop :=
  ∀ G D e a w, Rel N np G D e σ a w → wpAnyL X.P .any ops (lift N np G (NP K)) (SPw D e prot w.heap) ds fuel listed a w

section

variable {X : Pk} {N np : Nat} {K : KP} {σ σ' : State} {ops : Array Oper} {prot ds : List Nat} {fuel : Nat} {listed : Array Bool} {i : Nat}

theorem wpAnyL_mono {P : Program} {md : Region.Mode} {Q : Exit → Act → World → Prop} {S S' : World → Prop} (h : ∀ w, S w → S' w) : ∀ (fuel : Nat) (listed : Array Bool) (a : Act) (w : World), wpAnyL P md ops Q S ds fuel listed a w → wpAnyL P md ops Q S' ds fuel listed a w
  | 0, _, _, _, H => H
  | fuel + 1, listed, a, w, H => ⟨H.1, fun i hi => wpOp_mono (fun a' w' h' => ⟨h'.1, fun hd => ⟨h _ (h'.2 hd).1, wpAnyL_mono h fuel _ a' w' (h'.2 hd).2⟩⟩) (H.2 i hi)⟩

theorem goal_drawL {id : Nat} {k : List It} (prot ds : List Nat) (n : Nat) (hn : ops.size = n) (h : AHL X N np ops (after X N np k K) prot ds n (Array.replicate n false) ⟨σ.ρ, σ.o, []⟩) : goal X N np K (.cod (.region id ops true) k) σ := by
  subst hn
  intro G D e a w H
  have H1 : Rel N np G D e ⟨σ.ρ, σ.o, []⟩ a { w with drawn := w.drawn + 1 } := (H.hints []).world rfl rfl rfl rfl
  refine wp_mono (wp_region_any X.mixed (wpAny_of_L _ _ _ _ (h G D e a _ H1))) ?_
  rintro ex a' w' ⟨D', e', σ', H', hk⟩
  cases ex with
  | panic c => exact hk.elim
  | normal => exact ⟨D', e', σ', H', hk⟩
  | exit id => exact ⟨D', e', σ', H', hk⟩
  | goto l => exact ⟨D', e', σ', H', hk⟩
  | ret => exact ⟨D', e', σ', H', hk⟩
  | outgrown => exact ⟨D', e', σ', H', hk⟩

theorem lateOk_spec (h : lateOk ops ds listed i = true) : i ∉ ds ∧ (∀ j ∈ ds, j ∈ behindOf ops i) ∧ (∀ j ∈ behindOf ops i, listed.getD j false = false) ∧
    ∀ j ∈ behindOf ops i, ∀ oj, ops[j]? = some oj → ∃ e ∈ oj.after, Region.binds .any e = true ∧ (e.on = i ∨ e.on ∈ behindOf ops i) := by
  unfold lateOk wOk at h
  generalize behindOf ops i = W at *
  simp only [Bool.and_eq_true, List.all_eq_true, Bool.not_eq_true', List.contains_eq_mem, decide_eq_true_eq, decide_eq_false_iff_not] at h
  obtain ⟨⟨h1, h2⟩, h3⟩ := h
  refine ⟨h1, h2, fun j hj => (h3 j hj).1, fun j hj oj hoj => ?_⟩
  have := (h3 j hj).2
  rw [hoj] at this
  simp only [List.any_eq_true, Bool.and_eq_true, Bool.or_eq_true, beq_iff_eq, decide_eq_true_eq, Array.mem_toList_iff] at this
  obtain ⟨e, he, hb, h⟩ := this
  exact ⟨e, he, hb, h⟩

theorem AHL_take {o : Oper} {rd : Option Nat} (i : Nat) (ho : nthA ops i = some o) (hs : Region.noSelect ops = true) (hf : Region.free .any ops listed i = true) (hr : (Region.ready .any ops listed).contains i = true)
    (hl : lateOk ops ds listed i = true) (hg : guardOf N ops o.guard σ = .go) (hd : DidA X N np o (.q rd) σ σ') (hrd : rdIn rd prot)
    (h : AHL X N np ops K prot ds fuel (listed.setIfInBounds i true) σ') : AHL X N np ops K prot ds (fuel + 1) listed σ := fun G D e a w H => by
  rw [nthA_eq] at ho
  obtain ⟨x, v, hrun, hx, hp⟩ := hd H
  obtain ⟨l1, l2, l3, l4⟩ := lateOk_spec hl
  refine wpAnyL_first ho (Region.noSelect_spec hs) ?_ l1 l2 l4 fuel listed a w l3 (Region.free_spec ho hf) (by simpa using hr) (.inl ⟨(guardOf_spec H (ops := ops)).1 hg, fun w' hw' => hrun w' ⟨hw'.1, fun id hid => hw'.2 id (hrd id hid)⟩⟩) ⟨fun _ _ => rfl, fun _ _ _ _ _ _ _ => rfl⟩ (h G D e _ w (H.putv hx hp))
  rintro c a' w' ⟨_, _, _, _, hk⟩
  exact hk.elim

theorem AHL_did {o : Oper} {rd : Option Nat} (i : Nat) (ho : nthA ops i = some o) (hs : Region.noSelect ops = true) (hf : Region.free .any ops listed i = true) (hr : (Region.ready .any ops listed).contains i = true)
    (hl : lateOk ops ds listed i = true) (hg : guardOf N ops o.guard σ = .go) (hrd : rdOk rd prot = true) (hd : DidA X N np o (.q rd) σ σ')
    (h : AHL X N np ops K prot ds fuel (listed.setIfInBounds i true) σ') : AHL X N np ops K prot ds (fuel + 1) listed σ := AHL_take i ho hs hf hr hl hg hd (rdOk_spec hrd) h

def orderOkL (ops : Array Oper) (ds : List Nat) : Array Bool → List Nat → Bool
  | _, [] => true
  | l, i :: r => Region.free .any ops l i && (Region.ready .any ops l).contains i && lateOk ops ds l i && orderOkL ops ds (l.setIfInBounds i true) r

def runL (L : List (Nat × TI)) (N : Nat) (ops : Array Oper) (prot : List Nat) : List Nat → State → Option State
  | [], σ => some σ
  | i :: r, σ => match nthA ops i with
    | none => none
    | some ⟨dst, op, _, _, _, g⟩ => match guardOf N ops g σ with
      | .go => match kindOf op σ with
        | .q rd => match rdOk rd prot with
          | true => match stepOp L N dst op σ with
            | some σ' => addKF dst op σ σ' fun σ' => runL L N ops prot r σ'
            | none => none
          | false => none
        | .e _ => none
      | _ => none

theorem AHL_addK {d : Option Nat} {b : Bool} (h : AHL X N np ops K prot ds fuel listed (addK d b σ)) : AHL X N np ops K prot ds fuel listed σ := fun G D e a w H => h G D e a w (H.addK d b)

theorem runL_sound (hs : Region.noSelect ops = true) : ∀ (is : List Nat) (l : Array Bool) (σ σ' : State) (f : Nat), orderOkL ops ds l is = true → runL X.L N ops prot is σ = some σ' →
    AHL X N np ops K prot ds f (setAll l is) σ' → AHL X N np ops K prot ds (f + is.length) l σ
  | [], l, σ, σ', f, _, hr, H => by simp [runL] at hr; subst hr; exact H
  | i :: r, l, σ, σ', f, ho, hr, H => by
    simp only [orderOkL, Bool.and_eq_true] at ho
    simp only [runL] at hr
    split at hr
    · cases hr
    · rename_i dst op ty pos aft g hop
      split at hr
      · rename_i hg
        split at hr
        · rename_i rd hk
          split at hr
          · rename_i hrd
            split at hr
            · rename_i σ1 hst
              rw [addKF_eq] at hr
              exact AHL_take (o := ⟨dst, op, ty, pos, aft, g⟩) i hop hs ho.1.1.1 ho.1.1.2 ho.1.2 hg (hk ▸ dA_step hst) (rdOk_spec hrd) (AHL_addK (runL_sound hs r _ _ σ' f ho.2 hr H))
            · cases hr
          · cases hr
        · cases hr
      · cases hr

/-- The operations 'is', all computed. -/
theorem drnL (is : List Nat) (hs : Region.noSelect ops = true) (ho : orderOkL ops ds listed is = true) (hr : runL X.L N ops prot is σ = some σ') (hf : Nat.ble is.length fuel = true)
    (h : AHL X N np ops K prot ds (fuel - is.length) (setAll listed is) σ') : AHL X N np ops K prot ds fuel listed σ := by
  have := runL_sound hs is listed σ σ' (fuel - is.length) ho hr h
  rwa [Nat.sub_add_cancel (Nat.le_of_ble_eq_true hf)] at this

theorem AHL_op {md : Nat → Prop} {Post : State → Prop} (hnd : i ∉ ds) (hs : StepA X N np ops i md σ Post) (hmd : ∀ id ∈ prot, ¬ md id)
    (h : ∀ σ', Post σ' → AHL X N np ops K prot ds fuel (listed.setIfInBounds i true) σ') {G : Ctx} {D : Nat → Prop} {e : List ALoc} {a : Act} {w : World} (H : Rel N np G D e σ a w) :
    wpOp X.P ops (lift N np G (NP K)) i (fun a' w' => (i ∈ ds → wpAny X.P .any ops (lift N np G (NP K)) fuel (listed.setIfInBounds i true) a' w') ∧ (i ∉ ds → SPw D e prot w.heap w' ∧ wpAnyL X.P .any ops (lift N np G (NP K)) (SPw D e prot w.heap) ds fuel (listed.setIfInBounds i true) a' w')) a w := by
  refine hs H ?_
  intro D' e' σ' a' w' H' hp hpost
  refine ⟨fun hd => absurd hd hnd, fun _ => ?_⟩
  have hsp : SPw D e prot w.heap w' := ⟨fun b hb => (hp.1 b hb).2, fun id hid b esz cap n he => (hp.2 id (hmd id hid) b esz cap n he).2⟩
  refine ⟨hsp, wpAnyL_mono ?_ _ _ _ _ (h σ' hpost G D' e' a' w' H')⟩
  intro w2 h2
  refine ⟨fun b hb => (h2.1 b (hp.1 b hb).1).trans (hsp.1 b hb), fun id hid b esz cap n he => ?_⟩
  have := hp.2 id (hmd id hid) b esz cap n he
  exact (h2.2 id hid b esz cap n this.1).trans this.2

theorem AHL_one {md : Nat → Prop} {Post : State → Prop} (hr : Region.ready .any ops listed = [i]) (hnd : memB i ds = false) (hs : StepA X N np ops i md σ Post) (hmd : ∀ id ∈ prot, ¬ md id)
    (h : ∀ σ', Post σ' → AHL X N np ops K prot ds fuel (listed.setIfInBounds i true) σ') : AHL X N np ops K prot ds (fuel + 1) listed σ := fun G D e a w H =>
  ⟨fun h0 => by rw [hr] at h0; simp at h0, fun j hj => by rw [hr] at hj; simp at hj; subst hj; exact AHL_op (memB_false hnd) hs hmd h H⟩

/-- The first of the late writers: from here on nothing is protected. -/
theorem AHL_late {md : Nat → Prop} {Post : State → Prop} (hr : Region.ready .any ops listed = [i]) (hd : memB i ds = true) (hs : StepA X N np ops i md σ Post)
    (h : ∀ σ', Post σ' → AH X N np ops K [] fuel (listed.setIfInBounds i true) σ') : AHL X N np ops K prot ds (fuel + 1) listed σ := fun G D e a w H =>
  ⟨fun h0 => by rw [hr] at h0; simp at h0, fun j hj => by
    rw [hr] at hj; simp at hj; subst hj
    refine hs H ?_
    intro D' e' σ' a' w' H' hp hpost
    exact ⟨fun _ => wpAny_of_held _ _ _ _ (h σ' hpost G D' e' a' w' H'), fun hn => absurd (rdOk_spec (rd := some j) (prot := ds) hd j rfl) hn⟩⟩

theorem AHL_oneDid {kd : Kd} {o : Oper} (i : Nat) (ho : nthA ops i = some o) (hr : Region.ready .any ops listed = [i]) (hnd : memB i ds = false) (hg : guardOf N ops o.guard σ = .go) (hd : DidA X N np o kd σ σ') (hmd : ∀ id ∈ prot, ¬ mdOf kd id)
    (h : AHL X N np ops K prot ds fuel (listed.setIfInBounds i true) σ') : AHL X N np ops K prot ds (fuel + 1) listed σ :=
  AHL_one hr hnd (step_did ho hg hd) hmd (fun σ2 h2 => by subst h2; exact h)

theorem AHL_lateDid {kd : Kd} {o : Oper} (i : Nat) (ho : nthA ops i = some o) (hr : Region.ready .any ops listed = [i]) (hl : memB i ds = true) (hg : guardOf N ops o.guard σ = .go) (hd : DidA X N np o kd σ σ')
    (h : AH X N np ops K [] fuel (listed.setIfInBounds i true) σ') : AHL X N np ops K prot ds (fuel + 1) listed σ :=
  AHL_late hr hl (step_did ho hg hd) (fun σ2 h2 => by subst h2; exact h)

end

/-- A result, its own objects but for 'ks' told zs data. -/
def finR (np : Nat) (ks : List Nat) (r : T) (o' : List (Option AObj)) : Option (T × List (Option AObj)) :=
  match nodupB (rangeL 0 np ks) with
  | true => tellT (reT (fun id => idxOf (rangeL 0 np ks) id 0) (fzAll (fun id => idxOf (rangeL 0 np ks) id 0) 0 o') 4 r) fun r =>
      forceO (pickO (fzAll (fun id => idxOf (rangeL 0 np ks) id 0) 0 o') 4 (rangeL 0 np ks)) fun o' => some (r, o')
  | false => none

theorem ACalls.told {X : Pk} {f : FuncId} {args : List T} {o : List (Option AObj)} {Φ Ψ : Post} (h : ACalls X f args o Φ) (ks : List Nat)
    (hm : ∀ r o', Φ r o' → ∃ r2 o2, finR o.length ks r o' = some (r2, o2) ∧ Ψ r2 o2) : ACalls X f args o Ψ := by
  refine ⟨h.1, fun D e w vals hgl hsr hargs hnd => Calls.mono (h.2 D e w vals hgl hsr hargs hnd) ?_⟩
  rintro en w' ⟨v, r, o', D1, e1, hen, hΦ, hr, hsr1, hext, hnew, hold, hkeep, hlen⟩
  obtain ⟨r2, o2, hf, hΨ⟩ := hm r o' hΦ
  unfold finR at hf
  split at hf
  · rename_i hnd'
    rw [tellT_eq, forceO_eq] at hf
    simp only [Option.some.injEq, Prod.mk.injEq] at hf
    obtain ⟨rfl, rfl⟩ := hf
    have H0 : Rel 1 o.length ⟨w, D, e, hgl⟩ D1 e1 ⟨[(0, r)], o', []⟩ { tmps := #[v], defers := [] } w' := by
      refine ⟨Nat.le_of_eq hsr.len.symm, by rw [← hsr.len]; exact hlen, hext, rfl, rfl, fun t => ?_, hsr1, hnew, fun b hb hlt => .inl (hold b hb hlt), fun id hid => hkeep id (by rw [hsr.len]; exact hid)⟩
      cases t with
      | zero => exact hr
      | succ t => simp [getρ, TR, Nat.beq]
    obtain ⟨D2, H2, hD2⟩ := H0.fzAll (fun id => idxOf (rangeL 0 o.length ks) id 0) (fun id hid => by
      have : (rangeL 0 o.length ks)[id]? = some id := by rw [rangeL_get, if_pos hid]; simp
      obtain ⟨i, hi⟩ := idxOf_some (m := 0) this
      simp [hi])
    have htv2 : TR D2 w'.heap e1 r v := TR.mono (fun b hb => ⟨hD2 b hb, rfl⟩) (Leads.refl e1) r v hr
    have hlt : ∀ id, id < o.length → (rangeL 0 o.length ks)[id]? = some id := fun id hid => by rw [rangeL_get, if_pos hid]; simp
    refine ⟨v, _, _, D2, pickE e1 (rangeL 0 o.length ks), hen, hΨ, reT_spec H2.sr (fun id j l => pick_map id j l) 4 r v htv2, H2.sr.pick hnd' 4, hext, ?_, fun b hb hlt => (H2.old b hb hlt).elim id (fun h => (h.none (Nat.le_of_eq hsr.len)).elim), ?_, ?_⟩
    · intro id b esz cap n he
      rw [pickE_get] at he
      cases hi : (rangeL 0 o.length ks)[id]? with
      | none => rw [hi] at he; simp at he
      | some id' =>
        rw [hi] at he
        simp only [Option.map_some, Option.some.injEq] at he
        refine hnew id' b esz cap n ?_
        rw [List.getD_eq_getElem?_getD] at he
        cases h1 : e1[id']? with
        | none => rw [h1] at he; simp at he
        | some l => rw [h1] at he; simp at he; rw [he]
    · intro id hid
      have h1 := hlt id (by rw [← hsr.len]; exact hid)
      rw [pickE_get, h1]
      simp only [Option.map_some]
      have h2 : id < e1.length := by have := hsr1.len; omega
      rw [← hkeep id hid, List.getD_eq_getElem?_getD, List.getElem?_eq_getElem h2]; rfl
    · simp only [pickO, pickO'_length, rangeL_length]
      rw [hsr.len]; omega
  · cases hf

section

variable {X : Pk} {N np : Nat} {K : KP} {σ σ' : State}

/-- Objects are frozen, then what is not needed is left. -/
def frz (ids : List Nat) (σ : State) : State := match σ with | ⟨ρ, o, κ⟩ => ⟨ρ, fzL ids o, κ⟩

/-- Objects are frozen; what is in tmp 't' is told zs data. -/
def dataS (t : Nat) (ids : List Nat) (σ : State) : State := match σ with
  | ⟨ρ, o, κ⟩ => ⟨(t, reT (fun id => match memB id ids with
      | true => none
      | false => some id) (fzL ids o) 4 (getρ ρ t)) :: ρ, fzL ids o, κ⟩

theorem Weak.data (t : Nat) (ids : List Nat) (hge : allGe np ids = true) : Weak N np σ (dataS t ids σ) := fun {G D e a w} H => by
  obtain ⟨D1, H1⟩ := Rel.frz ids hge H
  refine ⟨D1, e, Rel.retmp H1 (t := t) (reT_spec H1.sr ?_ 4 _ _ (H1.tmps t))⟩
  intro id j l hm he
  split at hm
  · cases hm
  · simp only [Option.some.injEq] at hm; subst hm; exact he

end

def atReg (stop : Nat) : Cfg → Bool
  | .cod c _ => match c with
    | .region id _ _ => Nat.beq id stop
    | .seq x _ => match x with
      | .region id _ _ => Nat.beq id stop
      | _ => false
    | _ => false
  | _ => false

def runTo (L : List (Nat × TI)) (N stop : Nat) : Nat → Cfg → State → Option (Cfg × State)
  | 0, c, σ => some (c, σ)
  | n + 1, c, σ => match atReg stop c with
    | true => some (c, σ)
    | false => match run L N 1 c σ with
      | some (c', σ') => runTo L N stop n c' σ'
      | none => none

section

variable {X : Pk} {N np : Nat} {K : KP} {σ σ' : State}

theorem runTo_sound {stop : Nat} : ∀ (n : Nat) (c c' : Cfg) (σ σ' : State), runTo X.L N stop n c σ = some (c', σ') → goal X N np K c' σ' → goal X N np K c σ
  | 0, c, c', σ, σ', hr, h => by simp [runTo] at hr; obtain ⟨rfl, rfl⟩ := hr; exact h
  | n + 1, c, c', σ, σ', hr, h => by
    simp only [runTo] at hr
    split at hr
    · simp at hr; obtain ⟨rfl, rfl⟩ := hr; exact h
    · split at hr
      · rename_i c1 σ1 h1
        exact run_sound 1 c c1 σ σ1 h1 (runTo_sound n c1 c' σ1 σ' hr h)
      · cases hr

/-- On to region 'stop'. -/
theorem rt (stop : Nat) {c c' : Cfg} (hr : runTo X.L N stop 60 c σ = some (c', σ')) (h : goal X N np K c' σ') : goal X N np K c σ := runTo_sound 60 _ _ _ _ hr h

def cutR (N np : Nat) (Φ : State → Prop) (K : KP) : KP := fun ex σ => match ex with
  | .normal => ∃ σ', Weak N np σ σ' ∧ Φ σ'
  | ex => K ex σ

theorem goal_cutR {c : Code} {k : List It} (Φ : State → Prop) (h : goal X N np (cutR N np Φ (after X N np k K)) (.cod c []) σ) (rest : ∀ σ', Φ σ' → goal X N np K (.nrm k) σ') : goal X N np K (.cod c k) σ := by
  intro G D e a w H
  refine wp_mono (h G D e a w H) ?_
  rintro ex a' w' ⟨D', e', σ', H', hk⟩
  cases ex with
  | normal =>
    obtain ⟨σ1, hw, hΦ⟩ := hk
    obtain ⟨D1, e1, H1⟩ := hw H'
    exact ⟨D1, e1, σ1, H1, rest σ1 hΦ⟩
  | exit id => exact ⟨D', e', σ', H', hk⟩
  | goto l => exact ⟨D', e', σ', H', hk⟩
  | ret => exact ⟨D', e', σ', H', hk⟩
  | panic c => exact ⟨D', e', σ', H', hk⟩
  | outgrown => exact ⟨D', e', σ', H', hk⟩

theorem cut_ret {Φ : State → Prop} {k kk : List It} (h : goal X N np K (.ret k) σ) : goal X N np (cutR N np Φ (after X N np k K)) (.ret kk) σ := by
  simp only [goal, cutR, after_ret] at h ⊢; exact h

theorem cut_nrm {Φ : State → Prop} {K : KP} (ts ks : List Nat) (hnd : nodupB (rangeL 0 np ks) = true) (h : Φ (keepS np ts ks 4 σ)) : goal X N np (cutR N np Φ K) (.nrm []) σ := ⟨_, Weak.keep ts ks 4 hnd, h⟩

end

section

variable {N np : Nat} {G : Ctx} {D : Nat → Prop} {e : List ALoc} {σ σ' : State} {a : Act} {w : World}

end

theorem cons_eq {α : Type} {a b : α} {zs bs : List α} (h : a = b) (t : zs = bs) : a :: zs = b :: bs := by subst h; subst t; rfl

section

variable {X : Pk} {N np : Nat} {σ σ' : State}

theorem Weak.to {σ1 σ2 : State} (h : σ1 = σ2) (hw : Weak N np σ σ1) : Weak N np σ σ2 := h ▸ hw

end

section

variable {X : Pk} {N np : Nat} {G : Ctx} {D : Nat → Prop} {e : List ALoc} {σ σ' : State} {a : Act} {w : World} {K : KP}

end

def atReg1 (stop : Nat) : Cfg → Bool
  | .cod c _ => match c with
    | .region id _ _ => Nat.beq id stop
    | _ => false
  | _ => false

def runTo1 (L : List (Nat × TI)) (N stop : Nat) : Nat → Cfg → State → Option (Cfg × State)
  | 0, c, σ => some (c, σ)
  | n + 1, c, σ => match atReg1 stop c with
    | true => some (c, σ)
    | false => match run L N 1 c σ with
      | some (c', σ') => runTo1 L N stop n c' σ'
      | none => none

theorem runTo1_sound {X : Pk} {N np : Nat} {K : KP} {stop : Nat} : ∀ (n : Nat) (c c' : Cfg) (σ σ' : State), runTo1 X.L N stop n c σ = some (c', σ') → goal X N np K c' σ' → goal X N np K c σ
  | 0, c, c', σ, σ', hr, h => by simp [runTo1] at hr; obtain ⟨rfl, rfl⟩ := hr; exact h
  | n + 1, c, c', σ, σ', hr, h => by
    simp only [runTo1] at hr
    split at hr
    · simp at hr; obtain ⟨rfl, rfl⟩ := hr; exact h
    · split at hr
      · rename_i c1 σ1 h1
        exact run_sound 1 c c1 σ σ1 h1 (runTo1_sound n c1 c' σ1 σ' hr h)
      · cases hr

/-- On to the very region 'stop'. -/
theorem rt1 {X : Pk} {N np : Nat} {K : KP} {σ σ' : State} (stop : Nat) {c c' : Cfg} (hr : runTo1 X.L N stop 60 c σ = some (c', σ')) (h : goal X N np K c' σ') : goal X N np K c σ := runTo1_sound 60 _ _ _ _ hr h

noncomputable def tab : List (Nat × TI) := [
  (1, ⟨false, 1, 8, [.v .nilFunc], [], 0, 0, .i64⟩),
  (2, ⟨false, 1, 8, [.int .i64 0], [], 0, 4, .i64⟩),
  (3, ⟨false, 1, 8, [.int .i64 0], [], 0, 4, .i64⟩),
  (4, ⟨false, 1, 1, [.bool false], [], 0, 5, .i64⟩),
  (5, ⟨false, 1, 1, [.int .u8 0], [], 0, 4, .u8⟩),
  (6, ⟨false, 1, 1, [.int .u8 0], [], 0, 4, .u8⟩),
  (7, ⟨true, 4, 24, [.int .i64 0, .int .i64 0, .bool false, .int .u8 0], [(0, 2), (1, 3), (2, 4), (3, 6)], 0, 3, .i64⟩),
  (8, ⟨true, 4, 24, [.int .i64 0, .int .i64 0, .bool false, .int .u8 0], [(0, 2), (1, 3), (2, 4), (3, 6)], 0, 3, .i64⟩),
  (9, ⟨false, 1, 16, [.str []], [], 0, 1, .i64⟩),
  (10, ⟨false, 1, 16, [.str []], [], 0, 1, .i64⟩),
  (11, ⟨false, 1, 16, [.str []], [], 0, 1, .i64⟩),
  (12, ⟨false, 1, 8, [.int .u64 0], [], 0, 4, .u64⟩),
  (13, ⟨true, 2, 24, [.str [], .int .u64 0], [(0, 9), (1, 12)], 0, 3, .i64⟩),
  (14, ⟨true, 2, 24, [.str [], .int .u64 0], [(0, 9), (1, 12)], 0, 3, .i64⟩),
  (15, ⟨false, 1, 8, [.v (.pointer none)], [], 0, 0, .i64⟩),
  (16, ⟨false, 1, 8, [.v (.pointer none)], [], 0, 0, .i64⟩),
  (17, ⟨false, 1, 8, [.v (.pointer none)], [], 0, 0, .i64⟩),
  (18, ⟨true, 1, 8, [.v (.pointer none)], [(0, 17)], 0, 3, .i64⟩),
  (19, ⟨true, 1, 8, [.v (.pointer none)], [(0, 17)], 0, 3, .i64⟩),
  (20, ⟨false, 1, 16, [.v .nilIface], [], 0, 0, .i64⟩),
  (21, ⟨false, 1, 4, [.int .i32 0], [], 0, 4, .i32⟩),
  (22, ⟨false, 1, 24, [.v (.slice none 0 0)], [], 5, 2, .i64⟩),
  (23, ⟨false, 1, 24, [.v (.slice none 0 0)], [], 52, 2, .i64⟩),
  (24, ⟨true, 1, 24, [.v (.slice none 0 0)], [(0, 23)], 0, 3, .i64⟩),
  (25, ⟨true, 1, 24, [.v (.slice none 0 0)], [(0, 23)], 0, 3, .i64⟩),
  (26, ⟨true, 2, 40, [.str [], .v (.slice none 0 0)], [(0, 9), (1, 25)], 0, 3, .i64⟩),
  (27, ⟨true, 2, 40, [.str [], .v (.slice none 0 0)], [(0, 9), (1, 25)], 0, 3, .i64⟩),
  (28, ⟨false, 1, 8, [.v .nilFunc], [], 0, 0, .i64⟩),
  (29, ⟨false, 1, 8, [.v .nilFunc], [], 0, 0, .i64⟩),
  (31, ⟨false, 1, 8, [.v .nilFunc], [], 0, 0, .i64⟩),
  (32, ⟨false, 1, 8, [.v .nilFunc], [], 0, 0, .i64⟩),
  (33, ⟨false, 1, 8, [.v .nilFunc], [], 0, 0, .i64⟩),
  (35, ⟨false, 1, 8, [.v .nilFunc], [], 0, 0, .i64⟩),
  (36, ⟨false, 1, 8, [.v .nilFunc], [], 0, 0, .i64⟩),
  (37, ⟨false, 1, 8, [.v .nilFunc], [], 0, 0, .i64⟩),
  (38, ⟨false, 1, 8, [.v .nilFunc], [], 0, 0, .i64⟩),
  (39, ⟨false, 1, 8, [.v .nilFunc], [], 0, 0, .i64⟩),
  (40, ⟨false, 1, 8, [.v .nilFunc], [], 0, 0, .i64⟩),
  (41, ⟨false, 1, 8, [.v .nilFunc], [], 0, 0, .i64⟩),
  (42, ⟨false, 1, 8, [.v (.pointer none)], [], 0, 0, .i64⟩),
  (43, ⟨false, 1, 8, [.v .nilFunc], [], 0, 0, .i64⟩),
  (44, ⟨false, 1, 8, [.v .nilFunc], [], 0, 0, .i64⟩),
  (46, ⟨false, 1, 8, [.v .nilFunc], [], 0, 0, .i64⟩),
  (48, ⟨false, 1, 8, [.v .nilFunc], [], 0, 0, .i64⟩),
  (49, ⟨false, 1, 24, [.v (.slice none 0 0)], [], 9, 2, .i64⟩),
  (50, ⟨false, 1, 8, [.v .nilFunc], [], 0, 0, .i64⟩),
  (51, ⟨true, 4, 40, [.str [], .int .i64 0, .bool false, .int .i64 0], [(0, 9), (1, 3), (2, 4), (3, 3)], 0, 3, .i64⟩),
  (52, ⟨true, 4, 40, [.str [], .int .i64 0, .bool false, .int .i64 0], [(0, 9), (1, 3), (2, 4), (3, 3)], 0, 3, .i64⟩),
  (53, ⟨false, 1, 8, [.v .nilFunc], [], 0, 0, .i64⟩),
  (55, ⟨false, 1, 8, [.v .nilFunc], [], 0, 0, .i64⟩),
  (56, ⟨false, 1, 8, [.v .nilFunc], [], 0, 0, .i64⟩),
  (57, ⟨false, 1, 8, [.v .nilFunc], [], 0, 0, .i64⟩),
  (58, ⟨false, 1, 8, [.v .nilFunc], [], 0, 0, .i64⟩),
  (59, ⟨false, 1, 8, [.v .nilFunc], [], 0, 0, .i64⟩),
  (60, ⟨false, 1, 8, [.v .nilFunc], [], 0, 0, .i64⟩),
  (61, ⟨false, 1, 8, [.v .nilFunc], [], 0, 0, .i64⟩),
  (62, ⟨false, 1, 8, [.v .nilFunc], [], 0, 0, .i64⟩),
  (63, ⟨false, 1, 8, [.v .nilFunc], [], 0, 0, .i64⟩),
  (64, ⟨false, 1, 8, [.v .nilFunc], [], 0, 0, .i64⟩),
  (65, ⟨true, 2, 32, [.v (.slice none 0 0), .int .i64 0], [(0, 22), (1, 3)], 0, 3, .i64⟩),
  (66, ⟨true, 2, 32, [.v (.slice none 0 0), .int .i64 0], [(0, 22), (1, 3)], 0, 3, .i64⟩),
  (67, ⟨false, 1, 8, [.v .nilFunc], [], 0, 0, .i64⟩),
  (68, ⟨false, 1, 16, [.v .nilIface], [], 0, 0, .i64⟩),
  (69, ⟨false, 1, 16, [.v .nilIface], [], 0, 0, .i64⟩),
  (71, ⟨false, 1, 8, [.v .nilFunc], [], 0, 0, .i64⟩),
  (72, ⟨false, 1, 8, [.v .nilFunc], [], 0, 0, .i64⟩),
  (73, ⟨false, 1, 8, [.v .nilFunc], [], 0, 0, .i64⟩),
  (74, ⟨false, 1, 8, [.v .nilFunc], [], 0, 0, .i64⟩),
  (76, ⟨false, 1, 8, [.v .nilFunc], [], 0, 0, .i64⟩),
  (77, ⟨false, 1, 8, [.v .nilFunc], [], 0, 0, .i64⟩),
  (78, ⟨false, 1, 8, [.v .nilFunc], [], 0, 0, .i64⟩),
  (79, ⟨false, 1, 8, [.v (.pointer none)], [], 0, 0, .i64⟩),
  (80, ⟨true, 2, 32, [.v (.pointer none), .v (.slice none 0 0)], [(0, 79), (1, 22)], 0, 3, .i64⟩),
  (81, ⟨true, 2, 32, [.v (.pointer none), .v (.slice none 0 0)], [(0, 79), (1, 22)], 0, 3, .i64⟩),
  (82, ⟨false, 1, 8, [.v .nilFunc], [], 0, 0, .i64⟩),
  (83, ⟨false, 1, 8, [.v .nilFunc], [], 0, 0, .i64⟩),
  (84, ⟨false, 1, 8, [.v .nilFunc], [], 0, 0, .i64⟩),
  (85, ⟨false, 1, 8, [.v .nilFunc], [], 0, 0, .i64⟩),
  (86, ⟨false, 1, 8, [.v .nilFunc], [], 0, 0, .i64⟩),
  (87, ⟨false, 1, 24, [.v (.slice none 0 0)], [], 3, 2, .i64⟩),
  (88, ⟨false, 1, 8, [.v .nilFunc], [], 0, 0, .i64⟩),
  (89, ⟨false, 1, 8, [.v .nilFunc], [], 0, 0, .i64⟩),
  (90, ⟨false, 1, 8, [.v .nilFunc], [], 0, 0, .i64⟩),
  (91, ⟨false, 1, 8, [.v .nilFunc], [], 0, 0, .i64⟩),
  (92, ⟨false, 1, 8, [.v .nilFunc], [], 0, 0, .i64⟩),
  (93, ⟨false, 1, 8, [.v .nilFunc], [], 0, 0, .i64⟩),
  (94, ⟨false, 1, 8, [.v .nilFunc], [], 0, 0, .i64⟩),
  (95, ⟨false, 1, 8, [.v (.pointer none)], [], 0, 0, .i64⟩),
  (96, ⟨false, 1, 8, [.v .nilFunc], [], 0, 0, .i64⟩),
  (97, ⟨false, 1, 8, [.int .u64 0], [], 0, 4, .u64⟩),
  (98, ⟨false, 1, 8, [.v .nilFunc], [], 0, 0, .i64⟩),
  (100, ⟨false, 1, 8, [.v .nilFunc], [], 0, 0, .i64⟩),
  (101, ⟨false, 1, 8, [.int .i64 0], [], 0, 4, .i64⟩),
  (103, ⟨false, 1, 8, [.v .nilFunc], [], 0, 0, .i64⟩),
  (104, ⟨false, 1, 8, [.v (.pointer none)], [], 0, 0, .i64⟩),
  (105, ⟨false, 1, 8, [.v .nilFunc], [], 0, 0, .i64⟩),
  (106, ⟨false, 1, 8, [.v .nilFunc], [], 0, 0, .i64⟩),
  (107, ⟨false, 1, 8, [.v .nilFunc], [], 0, 0, .i64⟩),
  (109, ⟨false, 1, 8, [.v .nilFunc], [], 0, 0, .i64⟩),
  (110, ⟨false, 1, 8, [.v .nilFunc], [], 0, 0, .i64⟩),
  (111, ⟨false, 1, 4, [.int .u32 0], [], 0, 4, .u32⟩),
  (113, ⟨false, 1, 8, [.v .nilFunc], [], 0, 0, .i64⟩),
  (114, ⟨false, 1, 8, [.int .u64 0], [], 0, 4, .u64⟩),
  (116, ⟨false, 1, 8, [.v .nilFunc], [], 0, 0, .i64⟩),
  (117, ⟨false, 1, 8, [.v .nilFunc], [], 0, 0, .i64⟩),
  (118, ⟨true, 3, 48, [.str [], .str [], .v .nilIface], [(0, 9), (1, 9), (2, 69)], 0, 3, .i64⟩),
  (119, ⟨true, 3, 48, [.str [], .str [], .v .nilIface], [(0, 9), (1, 9), (2, 69)], 0, 3, .i64⟩),
  (120, ⟨false, 1, 8, [.v .nilFunc], [], 0, 0, .i64⟩),
  (122, ⟨false, 1, 8, [.v .nilFunc], [], 0, 0, .i64⟩),
  (123, ⟨false, 1, 8, [.v .nilFunc], [], 0, 0, .i64⟩),
  (125, ⟨false, 1, 8, [.v .nilFunc], [], 0, 0, .i64⟩),
  (127, ⟨true, 2, 2, [.int .u8 0, .int .u8 0], [(0, 5), (1, 5)], 0, 3, .i64⟩),
  (128, ⟨true, 2, 2, [.int .u8 0, .int .u8 0], [(0, 5), (1, 5)], 0, 3, .i64⟩),
  (130, ⟨false, 1, 8, [.v .nilFunc], [], 0, 0, .i64⟩),
  (131, ⟨false, 1, 8, [.v (.pointer none)], [], 0, 0, .i64⟩),
  (132, ⟨true, 1, 16, [.str []], [(0, 9)], 0, 3, .i64⟩),
  (133, ⟨true, 1, 16, [.str []], [(0, 9)], 0, 3, .i64⟩),
  (134, ⟨false, 1, 8, [.v .nilFunc], [], 0, 0, .i64⟩),
  (137, ⟨false, 1, 8, [.v .nilFunc], [], 0, 0, .i64⟩),
  (138, ⟨false, 1, 8, [.v .nilFunc], [], 0, 0, .i64⟩),
  (141, ⟨true, 4, 40, [.v (.pointer none), .v (.pointer none), .v (.pointer none), .str []], [(0, 17), (1, 17), (2, 17), (3, 9)], 0, 3, .i64⟩),
  (142, ⟨true, 4, 40, [.v (.pointer none), .v (.pointer none), .v (.pointer none), .str []], [(0, 17), (1, 17), (2, 17), (3, 9)], 0, 3, .i64⟩),
  (144, ⟨true, 0, 0, [], [(0, 143)], 0, 3, .i64⟩),
  (145, ⟨true, 0, 0, [], [(0, 143)], 0, 3, .i64⟩),
  (146, ⟨false, 1, 8, [.v .nilFunc], [], 0, 0, .i64⟩),
  (147, ⟨false, 1, 1, [.int .u8 0], [], 0, 4, .u8⟩),
  (148, ⟨false, 1, 1, [.int .u8 0], [], 0, 4, .u8⟩),
  (149, ⟨false, 1, 8, [.v .nilFunc], [], 0, 0, .i64⟩),
  (150, ⟨false, 1, 4, [.int .i32 0], [], 0, 4, .i32⟩),
  (151, ⟨false, 1, 4, [.int .i32 0], [], 0, 4, .i32⟩),
  (152, ⟨true, 11, 48, [.int .u64 0, .int .u64 0, .int .u32 0, .int .u8 0, .int .u8 0, .int .u8 0, .int .u8 0, .v .nilFunc, .v (.pointer none), .int .i32 0, .int .i32 0], [(0, 12), (1, 12), (2, 111), (3, 147), (4, 5), (5, 5), (6, 148), (7, 149), (8, 95), (9, 150), (10, 151)], 0, 3, .i64⟩),
  (153, ⟨true, 11, 48, [.int .u64 0, .int .u64 0, .int .u32 0, .int .u8 0, .int .u8 0, .int .u8 0, .int .u8 0, .v .nilFunc, .v (.pointer none), .int .i32 0, .int .i32 0], [(0, 12), (1, 12), (2, 111), (3, 147), (4, 5), (5, 5), (6, 148), (7, 149), (8, 95), (9, 150), (10, 151)], 0, 3, .i64⟩)]

theorem tab_all : tab.all (fun x => x.2.okB Tryz.prog x.1) = true := by kernel_rfl

theorem mixed_ok : Tryz.prog.follows .mixedOrders = true := by kernel_rfl

noncomputable def pk : Pk := ⟨Tryz.prog, tab, fun x hx => (List.all_eq_true.1 tab_all) x hx, mixed_ok⟩

structure Pair where
  name : Str
  value : Int
deriving DecidableEq

def eI (n : Int) : List C := [.int .i64 n]

theorem wrap64 {n : Int} (h0 : -9223372036854775808 ≤ n) (h1 : n ≤ 9223372036854775807) : IntKind.i64.wrap n = n := by
  simp only [IntKind.wrap, IntKind.bits, IntKind.signed]
  simp
  split <;> omega

theorem map_at {α : Type} {xs : List α} {enc : α → List C} {i : Nat} {x : α} (h : xs[i]? = some x) : (xs.map enc)[i]? = some (enc x) := by simp [h]

theorem at_some {α : Type} {xs : List α} {i : Nat} (h : i < xs.length) : ∃ x, xs[i]? = some x := ⟨xs[i], by simp [h]⟩

theorem drop_at {α : Type} {xs : List α} {i : Nat} {x : α} (h : xs[i]? = some x) : xs.drop i = x :: xs.drop (i + 1) := by
  have hlt : i < xs.length := lt_of_some h
  rw [List.drop_eq_getElem_cons hlt]; congr 1
  rw [List.getElem?_eq_getElem hlt] at h; simpa using h

structure Flat where
  places : List Int
  named : List Pair
deriving DecidableEq

theorem noOwnR_map {α : Type} (enc : α → List C) (h : ∀ x, noOwnL (enc x) = true) : ∀ xs : List α, noOwnR (xs.map enc) = true
  | [] => rfl
  | x :: xs => by simp [noOwnR, h x, noOwnR_map enc h xs]

theorem map_set {α : Type} (enc : α → List C) (xs : List α) (i : Nat) (x : α) : (xs.set i x).map enc = (xs.map enc).set i (enc x) := by
  induction xs generalizing i with
  | nil => rfl
  | cons y ys ih => cases i with
    | zero => rfl
    | succ i => simp [ih]

theorem rows_len {α : Type} {enc : α → List C} {n : Nat} (h : ∀ x, (enc x).length = n) (xs : List α) : ∀ r ∈ xs.map enc, r.length = n := by
  intro r hr; obtain ⟨x, _, rfl⟩ := List.mem_map.1 hr; exact h x

def inR (n lo hi : Int) : Bool := decide (lo ≤ n) && decide (n ≤ hi)

theorem iin_ct (n lo hi : Int) : ACalls pk 33 [.one (.int .i64 n), .one (.int .i64 lo), .one (.int .i64 hi)] [] (fun r o => r = .one (.bool (inR n lo hi)) ∧ o = []) := by
  refine acalls_of_body Tryz.func33 rfl (by kernel_rfl) rfl ?_
  refine rn rfl ?_
  refine goal_guard rfl rfl rfl (fun h => ?_) (fun h => ?_) <;> simp only [ge_iff_le, decide_eq_true_eq, decide_eq_false_iff_not] at h
  · exact rn rfl (fin_is [] rfl ⟨by simp [inR, h], rfl⟩)
  · exact rn rfl (fin_is [] rfl ⟨by simp [inR, h], rfl⟩)

theorem sin_ct (n lo hi : Int) : ACalls pk 67 [.one (.int .i64 n), .one (.int .i64 lo), .one (.int .i64 hi)] [] (fun r o => r = .one (.bool (inR n lo hi)) ∧ o = []) := by
  refine acalls_of_body Tryz.func67 rfl (by kernel_rfl) rfl ?_
  refine rn rfl ?_
  refine goal_guard rfl rfl rfl (fun h => ?_) (fun h => ?_) <;> simp only [decide_eq_true_eq, decide_eq_false_iff_not] at h
  · exact rn rfl (fin_is [] rfl ⟨by simp [inR, h], rfl⟩)
  · exact rn rfl (fin_is [] rfl ⟨by simp [inR, h], rfl⟩)

def okVal (n : Int) : Bool := inR n (-99) 99

theorem isValue_ct (n : Int) : ACalls pk 34 [.one (.int .i64 n)] [] (fun r o => r = .one (.bool (okVal n)) ∧ o = []) := by
  refine acalls_of_body Tryz.func34 rfl (by kernel_rfl) rfl ?_
  refine rn rfl ?_
  refine goal_step (step_call [] rfl rfl rfl rfl rfl rfl (iin_ct n (-99) 99)) ?_
  rintro σ2 ⟨r, o', ⟨rfl, rfl⟩, hσ⟩
  obtain rfl := Option.some.inj hσ
  exact rn rfl (fin_is [] rfl ⟨rfl, rfl⟩)

theorem validNumber_ct (n : Int) : ACalls pk 106 [.one (.int .i64 n)] [] (fun r o => r = .one (.bool (okVal n)) ∧ o = []) := by
  refine acalls_of_body Tryz.func106 rfl (by kernel_rfl) rfl ?_
  refine rn rfl ?_
  refine goal_step (step_call [] rfl rfl rfl rfl rfl rfl (sin_ct n (-99) 99)) ?_
  rintro σ2 ⟨r, o', ⟨rfl, rfl⟩, hσ⟩
  obtain rfl := Option.some.inj hσ
  exact rn rfl (fin_is [] rfl ⟨rfl, rfl⟩)

def letter (b : UInt8) : Bool := decide (97 ≤ (b.toNat : Int)) && decide ((b.toNat : Int) ≤ 122)

def okName (s : Str) : Bool := s.all letter && inR s.length 1 6

theorem all_take_succ {α : Type} {p : α → Bool} {xs : List α} {i : Nat} {x : α} (h : xs[i]? = some x) : (xs.take (i + 1)).all p = ((xs.take i).all p && p x) := by
  rw [List.take_add_one, h]; simp

theorem all_false_of_take {α : Type} {p : α → Bool} {xs : List α} {i : Nat} (h : (xs.take i).all p = false) : xs.all p = false := by
  cases hb : xs.all p with
  | false => rfl
  | true =>
    rw [List.all_eq_true] at hb
    rw [List.all_eq_false] at h
    obtain ⟨x, hx, hp⟩ := h
    exact absurd (hb x (List.mem_of_mem_take hx)) hp

theorem isName_ct (s : Str) (hl : s.length ≤ 9223372036854775807) : ACalls pk 20 [.one (.str s)] [] (fun r o => r = .one (.bool (okName s)) ∧ o = []) := by
  refine acalls_of_body Tryz.func20 rfl (by kernel_rfl) rfl ?_
  refine rn rfl ?_
  refine goal_loop_keep (fun m σ => ∃ (n : Int) (i : Nat), n = i ∧ i ≤ s.length ∧ m = s.length - i ∧ (s.take i).all letter = true ∧
      σ = ⟨[(3, .one (.int .i64 n)), (0, .one (.str s))], [], []⟩) s.length [3, 0] [] rfl
    ⟨_, 0, rfl, by omega, by omega, rfl, rfl⟩ ?_
  rintro m σ ⟨n, i, rfl, hi, rfl, hall, rfl⟩
  refine rn rfl ?_
  refine goal_cond rfl (fun h => ?_) (fun h => ?_) <;> simp only [decide_eq_true_eq, decide_eq_false_iff_not] at h
  · obtain ⟨b, hb⟩ := at_some (xs := s) (i := i) (by omega)
    have hst := all_take_succ (p := letter) hb
    refine rn rfl ?_
    refine goal_did rfl rfl (dA_strIndex b rfl rfl rfl rfl rfl rfl (by omega) (by simpa using hb)) ?_
    refine rn rfl ?_
    refine goal_guard rfl rfl rfl (fun h1 => ?_) (fun h1 => ?_) <;> simp only [decide_eq_true_eq, decide_eq_false_iff_not] at h1
    · refine rn rfl ?_
      refine rn rfl (round_ret (fin_is [] rfl ⟨?_, rfl⟩))
      have : (s.take (i + 1)).all letter = false := by rw [hst]; simp [letter, show ¬ (97 ≤ (b.toNat : Int)) by omega]
      simp [okName, all_false_of_take this]
    · refine rn rfl ?_
      refine goal_did rfl rfl (dA_strIndex b rfl rfl rfl rfl rfl rfl (by omega) (by simpa using hb)) ?_
      refine rn rfl ?_
      refine goal_cond rfl (fun h2 => ?_) (fun h2 => ?_) <;> simp only [decide_eq_true_eq, decide_eq_false_iff_not] at h2
      · refine rn rfl (round_ret (fin_is [] rfl ⟨?_, rfl⟩))
        have : (s.take (i + 1)).all letter = false := by rw [hst]; simp [letter, show ¬ ((b.toNat : Int) ≤ 122) by omega]
        simp [okName, all_false_of_take this]
      · refine rn rfl ?_
        refine round_keep (s.length - (i + 1)) [3, 0] [] (by omega) rfl ⟨_, i + 1, wrap64 (by omega) (by omega), by omega, rfl, ?_, rfl⟩
        rw [hst, hall]; simp only [letter, Bool.true_and, Bool.and_eq_true, decide_eq_true_eq]; omega
  · refine rn rfl (round_ext ?_)
    refine rn rfl ?_
    refine goal_step (step_call [] rfl rfl rfl rfl rfl rfl (iin_ct s.length 1 6)) ?_
    rintro σ2 ⟨r, o', ⟨rfl, rfl⟩, hσ⟩
    obtain rfl := Option.some.inj hσ
    refine rn rfl (fin_is [] rfl ⟨?_, rfl⟩)
    rw [show i = s.length by omega, List.take_length] at hall
    simp [okName, hall]

theorem validName_ct (s : Str) (hl : s.length ≤ 9223372036854775807) : ACalls pk 42 [.one (.str s)] [] (fun r o => r = .one (.bool (okName s)) ∧ o = []) := by
  refine acalls_of_body Tryz.func42 rfl (by kernel_rfl) rfl ?_
  refine rn rfl ?_
  refine goal_loop_keep (fun m σ => ∃ (n : Int) (i : Nat), n = i ∧ i ≤ s.length ∧ m = s.length - i ∧ (s.take i).all letter = true ∧
      σ = ⟨[(3, .one (.int .i64 n)), (0, .one (.str s))], [], []⟩) s.length [3, 0] [] rfl
    ⟨_, 0, rfl, by omega, by omega, rfl, rfl⟩ ?_
  rintro m σ ⟨n, i, rfl, hi, rfl, hall, rfl⟩
  refine rn rfl ?_
  refine goal_cond rfl (fun h => ?_) (fun h => ?_) <;> simp only [decide_eq_true_eq, decide_eq_false_iff_not] at h
  · obtain ⟨b, hb⟩ := at_some (xs := s) (i := i) (by omega)
    have hst := all_take_succ (p := letter) hb
    refine rn rfl ?_
    refine goal_did rfl rfl (dA_strIndex b rfl rfl rfl rfl rfl rfl (by omega) (by simpa using hb)) ?_
    refine rn rfl ?_
    refine goal_guard rfl rfl rfl (fun h1 => ?_) (fun h1 => ?_) <;> simp only [decide_eq_true_eq, decide_eq_false_iff_not] at h1
    · refine rn rfl ?_
      refine rn rfl (round_ret (fin_is [] rfl ⟨?_, rfl⟩))
      have : (s.take (i + 1)).all letter = false := by rw [hst]; simp [letter, show ¬ (97 ≤ (b.toNat : Int)) by omega]
      simp [okName, all_false_of_take this]
    · refine rn rfl ?_
      refine goal_did rfl rfl (dA_strIndex b rfl rfl rfl rfl rfl rfl (by omega) (by simpa using hb)) ?_
      refine rn rfl ?_
      refine goal_cond rfl (fun h2 => ?_) (fun h2 => ?_) <;> simp only [decide_eq_true_eq, decide_eq_false_iff_not] at h2
      · refine rn rfl (round_ret (fin_is [] rfl ⟨?_, rfl⟩))
        have : (s.take (i + 1)).all letter = false := by rw [hst]; simp [letter, show ¬ ((b.toNat : Int) ≤ 122) by omega]
        simp [okName, all_false_of_take this]
      · refine rn rfl ?_
        refine round_keep (s.length - (i + 1)) [3, 0] [] (by omega) rfl ⟨_, i + 1, wrap64 (by omega) (by omega), by omega, rfl, ?_, rfl⟩
        rw [hst, hall]; simp only [letter, Bool.true_and, Bool.and_eq_true, decide_eq_true_eq]; omega
  · refine rn rfl (round_ext ?_)
    refine rn rfl ?_
    refine goal_step (step_call [] rfl rfl rfl rfl rfl rfl (sin_ct s.length 1 6)) ?_
    rintro σ2 ⟨r, o', ⟨rfl, rfl⟩, hσ⟩
    obtain rfl := Option.some.inj hσ
    refine rn rfl (fin_is [] rfl ⟨?_, rfl⟩)
    rw [show i = s.length by omega, List.take_length] at hall
    simp [okName, hall]

def okPair (p : Pair) : Bool := okName p.name && okVal p.value

def idxI {α : Type} (pred : α → Bool) : List α → Nat → Int
  | [], _ => -1
  | x :: xs, i => if pred x then i else idxI pred xs (i + 1)

theorem idxI_none {α : Type} {pred : α → Bool} : ∀ {xs : List α} {i : Nat}, idxI pred xs i = -1 ↔ xs.any pred = false
  | [], i => by simp [idxI]
  | x :: xs, i => by
    simp only [idxI, List.any_cons, Bool.or_eq_false_iff]
    cases h : pred x with
    | true => simp
    | false => simp [idxI_none (xs := xs)]

theorem idxI_some {α : Type} {pred : α → Bool} : ∀ {xs : List α} {i : Nat}, xs.any pred = true → idxI pred xs i = ((i + xs.findIdx pred : Nat) : Int)
  | [], i, h => by simp at h
  | x :: xs, i, h => by
    simp only [idxI, List.findIdx_cons]
    cases hp : pred x with
    | true => simp
    | false =>
      simp only [List.any_cons, hp, Bool.false_or] at h
      simp only [Bool.false_eq_true, if_false, idxI_some h, cond_false]
      omega

theorem idxI_ge {α : Type} {pred : α → Bool} {xs : List α} {i : Nat} : (0 ≤ idxI pred xs i) ↔ xs.any pred = true := by
  cases h : xs.any pred with
  | true => rw [idxI_some h]; simp; omega
  | false => rw [idxI_none.2 h]; simp

def nameIs (n : Str) (p : Pair) : Bool := p.name == n

def namesOf (ps : List Pair) : List Str := ps.map Pair.name

theorem whole {α : Type} {xs : List α} {n : Nat} (h : xs.length ≤ n) : xs = xs.take n := (List.take_of_length_le h).symm

theorem noFzR_map {α : Type} (enc : α → List C) (h : ∀ x, noFzL (enc x) = true) : ∀ xs : List α, noFzR (xs.map enc) = true
  | [] => rfl
  | x :: xs => by simp [noFzR, h x, noFzR_map enc h xs]

def putP (ps : List Pair) (n : Str) (v : Int) : List Pair :=
  if ps.any (nameIs n) then ps.modify (ps.findIdx (nameIs n)) (fun p => ⟨p.name, v⟩) else ps ++ [⟨n, v⟩]

theorem putP_length (ps : List Pair) (n : Str) (v : Int) : (putP ps n v).length ≤ ps.length + 1 := by
  unfold putP; split <;> simp

theorem putP_mem {ps : List Pair} {n : Str} {v : Int} {p : Pair} (h : p ∈ putP ps n v) : p.name = n ∨ ∃ q ∈ ps, p.name = q.name := by
  unfold putP at h
  split at h
  · rename_i hy
    obtain ⟨j, hj⟩ := List.getElem?_of_mem h
    rw [List.getElem?_modify] at hj
    cases hq : ps[j]? with
    | none => rw [hq] at hj; simp at hj
    | some q =>
      rw [hq] at hj
      right
      refine ⟨q, List.mem_of_getElem? hq, ?_⟩
      simp at hj
      split at hj <;> (subst hj; rfl)
  · rcases List.mem_append.1 h with h | h
    · exact .inr ⟨p, h, rfl⟩
    · simp at h; subst h; exact .inl rfl

/-- The reader, at position 'k'. -/
def oR (bs : Str) (k : Int) : Option AObj := some ⟨2, [[.fs (bs.map rowB), .int .i64 k]], false, false, true⟩

theorem rowB_len (b : UInt8) : (rowB b).length = 1 := rfl

theorem tmod_range {a n : Int} (ha : 0 ≤ a) (hn : 1 ≤ n) : 0 ≤ a.tmod n ∧ a.tmod n < n := by
  rw [Int.tmod_eq_emod_of_nonneg ha]
  exact ⟨Int.emod_nonneg _ (by omega), Int.emod_lt_of_pos _ (by omega)⟩

theorem pick_ct (bs : Str) (k n : Int) (hb : bs.length ≤ 2000) (hk : 0 ≤ k) (hk' : k ≤ 1073741824) (hn : n ≤ 1073741824) :
    ACalls pk 60 [.one (.op 0 0 0), .one (.int .i64 n)] [oR bs k] (fun r o => (∃ z, r = .one (.int .i64 z) ∧ (1 ≤ n → 0 ≤ z ∧ z < n) ∧ (n < 1 → z = 0)) ∧ o = [oR bs (k + 1)]) := by
  refine acalls_of_body Tryz.func60 rfl (by kernel_rfl) rfl ?_
  have hw : IntKind.i64.wrap (k + 1) = k + 1 := wrap64 (by omega) (by omega)
  have hw1 : IntKind.i64.wrap (k + 1 - 1) = k := by rw [wrap64] <;> omega
  refine rn rfl ?_
  rw [hw]
  refine goal_guard rfl rfl rfl (fun h => ?_) (fun h => ?_) <;> simp only [decide_eq_true_eq, decide_eq_false_iff_not] at h
  · refine rn rfl ?_
    exact rn rfl (fin_is [] rfl ⟨⟨0, rfl, fun h' => by omega, fun _ => rfl⟩, rfl⟩)
  · refine rn rfl ?_
    refine goal_cond rfl (fun h2 => ?_) (fun h2 => ?_) <;> simp only [List.length_map, beq_iff_eq, beq_eq_false_iff_ne, ne_eq] at h2
    · exact rn rfl (fin_is [] rfl ⟨⟨0, rfl, fun h' => by omega, fun _ => rfl⟩, rfl⟩)
    · refine rn rfl ?_
      rw [hw1]
      refine goal_cond rfl (fun h3 => ?_) (fun h3 => ?_) <;> simp only [List.length_map, decide_eq_true_eq, decide_eq_false_iff_not] at h3
      · obtain ⟨b, hbk⟩ := at_some (xs := bs) (i := k.toNat) (by omega)
        refine rn rfl ?_
        refine goal_did rfl rfl (dA_index (rowB b) rfl rfl rfl rfl rfl rfl rfl hk (by simpa using h3) (map_at hbk) rfl) ?_
        refine rn rfl ?_
        have hwb : IntKind.i64.wrap (b.toNat : Int) = b.toNat := by
          have := b.toNat_lt
          rw [wrap64] <;> omega
        refine goal_did rfl rfl (dA_rem (Int.tmod (b.toNat : Int) n) rfl rfl rfl (by omega) (by rw [hwb]) rfl) ?_
        have ht := tmod_range (a := (b.toNat : Int)) (n := n) (by omega) (by omega)
        exact rn rfl (fin_is [] rfl ⟨⟨_, rfl, fun _ => ht, fun h' => by omega⟩, rfl⟩)
      · have hL : (0 : Int) < bs.length := by omega
        obtain ⟨kn, rfl⟩ : ∃ m : Nat, k = m := ⟨k.toNat, by omega⟩
        have hLe : ((bs.map rowB).length : Int) = bs.length := by simp
        have r1 := tmod_range (a := (kn : Int)) (n := bs.length) (by omega) (by omega)
        have hw7 : IntKind.i64.wrap ((kn : Int) * 7) = kn * 7 := by rw [wrap64] <;> omega
        have hw73 : IntKind.i64.wrap ((kn : Int) * 7 + 3) = kn * 7 + 3 := by rw [wrap64] <;> omega
        have r2 := tmod_range (a := (kn : Int) * 7 + 3) (n := bs.length) (by omega) (by omega)
        obtain ⟨b1, hb1⟩ := at_some (xs := bs) (i := ((kn : Int).tmod bs.length).toNat) (by omega)
        obtain ⟨b2, hb2⟩ := at_some (xs := bs) (i := (((kn : Int) * 7 + 3).tmod bs.length).toNat) (by omega)
        have l1 := b1.toNat_lt
        have l2 := b2.toNat_lt
        refine rn rfl ?_
        refine goal_draw' [0] 46 rfl ?_
        refine drn [0, 1, 2, 3, 4, 5, 6, 7, 8, 9, 15, 16, 17, 18, 19, 20, 21, 22, 23, 24, 25, 26, 33, 34, 36, 37, 38, 39, 40, 41] (by kernel_rfl) (by kernel_rfl) rfl rfl ?_
        refine AH_did 10 rfl (by kernel_rfl) (by kernel_rfl) (by kernel_rfl) rfl rfl (dA_rem ((kn : Int).tmod bs.length) rfl rfl rfl (by rw [hLe]; omega) (by rw [hLe]) rfl) ?_
        refine AH_did 11 rfl (by kernel_rfl) (by kernel_rfl) (by kernel_rfl) rfl rfl (dA_index (rowB b1) rfl rfl rfl rfl rfl rfl rfl (by omega) (by rw [hLe]; omega) (map_at hb1) rfl) ?_
        refine AH_did 27 rfl (by kernel_rfl) (by kernel_rfl) (by kernel_rfl) rfl rfl (dA_rem (((kn : Int) * 7 + 3).tmod bs.length) rfl rfl rfl (by rw [hLe]; omega) (by rw [hLe, hw7, hw73]) rfl) ?_
        refine AH_did 28 rfl (by kernel_rfl) (by kernel_rfl) (by kernel_rfl) rfl rfl (dA_index (rowB b2) rfl rfl rfl rfl rfl rfl rfl (by omega) (by rw [hLe]; omega) (map_at hb2) rfl) ?_
        obtain ⟨qn, hqn⟩ : ∃ qn : Nat, qn = kn / bs.length := ⟨_, rfl⟩
        have hq : (kn : Int).tdiv bs.length = (qn : Int) := by rw [Int.tdiv_eq_ediv_of_nonneg (by omega), hqn]; simp
        have hql : qn ≤ kn := by rw [hqn]; exact Nat.div_le_self _ _
        refine AH_did 42 rfl (by kernel_rfl) (by kernel_rfl) (by kernel_rfl) rfl rfl (dA_quo (qn : Int) rfl rfl rfl (by rw [hLe]; omega) (by rw [hLe, hq, wrap64] <;> omega) rfl) ?_
        refine drn [12, 13, 14, 29, 30, 31, 32, 35, 43, 44, 45] (by kernel_rfl) (by kernel_rfl) rfl rfl ?_
        refine AH_end (by kernel_rfl) ?_
        have e0 : IntKind.i64.wrap (b1.toNat : Int) = b1.toNat := by rw [wrap64] <;> omega
        have e1 : IntKind.i64.wrap ((b1.toNat : Int) * 131) = b1.toNat * 131 := by rw [wrap64] <;> omega
        have e2 : IntKind.i64.wrap (b2.toNat : Int) = b2.toNat := by rw [wrap64] <;> omega
        have e3 : IntKind.i64.wrap ((b2.toNat : Int) * 1117) = b2.toNat * 1117 := by rw [wrap64] <;> omega
        have e4 : IntKind.i64.wrap ((b1.toNat : Int) * 131 + b2.toNat * 1117) = b1.toNat * 131 + b2.toNat * 1117 := by rw [wrap64] <;> omega
        have e5 : IntKind.i64.wrap ((kn : Int) * 29) = kn * 29 := by rw [wrap64] <;> omega
        have e6 : IntKind.i64.wrap ((b1.toNat : Int) * 131 + b2.toNat * 1117 + kn * 29) = b1.toNat * 131 + b2.toNat * 1117 + kn * 29 := by rw [wrap64] <;> omega
        have e7 : IntKind.i64.wrap ((qn : Int) * 53) = qn * 53 := by rw [wrap64] <;> omega
        have e8 : IntKind.i64.wrap ((b1.toNat : Int) * 131 + b2.toNat * 1117 + kn * 29 + qn * 53) = ((b1.toNat * 131 + b2.toNat * 1117 + kn * 29 + qn * 53 : Nat) : Int) := by rw [wrap64] <;> omega
        rw [e0, e1, e2, e3, e4, e5, e6, e7, e8]
        generalize hX : b1.toNat * 131 + b2.toNat * 1117 + kn * 29 + qn * 53 = Xn
        have hXl : Xn < 2 ^ 40 := by omega
        refine rn rfl ?_
        have hd64 : IntKind.i64.wrap (Int.tdiv (Xn : Int) (Int.ofNat (63 + 1))) = ((Xn / 64 : Nat) : Int) := by
          have : Int.tdiv (Xn : Int) (Int.ofNat (63 + 1)) = ((Xn / 64 : Nat) : Int) := by rw [Int.tdiv_eq_ediv_of_nonneg (by omega)]; simp
          rw [this, wrap64] <;> omega
        refine goal_did rfl rfl (dA_xor Xn (Xn / 64) rfl rfl rfl rfl hd64 (by omega) (by omega) rfl) ?_
        refine rn rfl ?_
        refine goal_did rfl rfl (dA_rem (Int.tmod ((Xn ^^^ (Xn / 64) : Nat) : Int) n) rfl rfl rfl (by omega) rfl rfl) ?_
        have ht := tmod_range (a := ((Xn ^^^ (Xn / 64) : Nat) : Int)) (n := n) (by omega) (by omega)
        exact rn rfl (fin_is [] rfl ⟨⟨_, rfl, fun _ => ht, fun h' => by omega⟩, rfl⟩)

def eS (s : Str) : List C := [.str s]

theorem one_ct (bs : Str) (k : Int) (xs : List Int) (hb : bs.length ≤ 2000) (hk : 0 ≤ k) (hk' : k ≤ 1073741824) (hx : 0 < xs.length) (hx' : xs.length ≤ 1000) :
    ACalls pk 62 [.one (.op 0 0 0), .one (.fs (xs.map eI))] [oR bs k] (fun r o => (∃ v ∈ xs, r = .one (.int .i64 v)) ∧ o = [oR bs (k + 1)]) := by
  refine acalls_of_body Tryz.func62 rfl (by kernel_rfl) rfl ?_
  refine rn rfl ?_
  have hL : (((xs.map eI).length : Nat) : Int) = xs.length := by simp
  rw [hL]
  refine goal_step (step_call [0] rfl rfl rfl rfl rfl rfl (pick_ct bs k xs.length hb hk hk' (by omega))) ?_
  rintro σ2 ⟨r, o', ⟨⟨z, rfl, hz, _⟩, rfl⟩, hσ⟩
  obtain rfl := Option.some.inj hσ
  clear hσ
  obtain ⟨z0, z1⟩ := hz (by omega)
  obtain ⟨v, hv⟩ := at_some (xs := xs) (i := z.toNat) (by omega)
  refine goal_did rfl rfl (dA_index (eI v) rfl rfl rfl rfl rfl rfl rfl z0 (by rw [hL]; exact z1) (map_at hv) rfl) ?_
  exact rn rfl (fin_is [] rfl ⟨⟨v, List.mem_of_getElem? hv, rfl⟩, rfl⟩)

theorem of_ct (bs : Str) (k : Int) (xs : List Str) (hb : bs.length ≤ 2000) (hk : 0 ≤ k) (hk' : k ≤ 1073741824) (hx : 0 < xs.length) (hx' : xs.length ≤ 1000) :
    ACalls pk 41 [.one (.op 0 0 0), .one (.fs (xs.map eS))] [oR bs k] (fun r o => (∃ v ∈ xs, r = .one (.str v)) ∧ o = [oR bs (k + 1)]) := by
  refine acalls_of_body Tryz.func41 rfl (by kernel_rfl) rfl ?_
  refine rn rfl ?_
  have hL : (((xs.map eS).length : Nat) : Int) = xs.length := by simp
  rw [hL]
  refine goal_step (step_call [0] rfl rfl rfl rfl rfl rfl (pick_ct bs k xs.length hb hk hk' (by omega))) ?_
  rintro σ2 ⟨r, o', ⟨⟨z, rfl, hz, _⟩, rfl⟩, hσ⟩
  obtain rfl := Option.some.inj hσ
  clear hσ
  obtain ⟨z0, z1⟩ := hz (by omega)
  obtain ⟨v, hv⟩ := at_some (xs := xs) (i := z.toNat) (by omega)
  refine goal_did rfl rfl (dA_index (eS v) rfl rfl rfl rfl rfl rfl rfl z0 (by rw [hL]; exact z1) (map_at hv) rfl) ?_
  exact rn rfl (fin_is [] rfl ⟨⟨v, List.mem_of_getElem? hv, rfl⟩, rfl⟩)

theorem aNumber_ct (bs : Str) (k : Int) (hb : bs.length ≤ 2000) (hk : 0 ≤ k) (hk' : k ≤ 1073741824) :
    ACalls pk 83 [.one (.op 0 0 0)] [oR bs k] (fun r o => (∃ v : Int, -100 ≤ v ∧ v ≤ 100 ∧ r = .one (.int .i64 v)) ∧ o = [oR bs (k + 1)]) := by
  refine acalls_of_body Tryz.func83 rfl (by kernel_rfl) rfl ?_
  refine rn rfl ?_
  refine goal_step (step_callE [0] rfl rfl rfl rfl rfl rfl rfl (one_ct bs k [1, 2, 3, 0, 5, -1, 7, 99, -99] hb hk hk' (by decide) (by decide))) ?_
  rintro σ2 ⟨r, o', ⟨⟨v, hv, rfl⟩, rfl⟩, hσ⟩
  obtain rfl := Option.some.inj hσ
  clear hσ
  refine rn rfl (fin_is [] rfl ⟨⟨v, ?_, ?_, rfl⟩, rfl⟩) <;> (simp at hv; omega)

theorem aName_ct (bs : Str) (k : Int) (hb : bs.length ≤ 2000) (hk : 0 ≤ k) (hk' : k ≤ 1073741824) :
    ACalls pk 85 [.one (.op 0 0 0)] [oR bs k] (fun r o => (∃ v : Str, v.length ≤ 7 ∧ r = .one (.str v)) ∧ o = [oR bs (k + 1)]) := by
  refine acalls_of_body Tryz.func85 rfl (by kernel_rfl) rfl ?_
  refine rn rfl ?_
  refine goal_step (step_callE [0] rfl rfl rfl rfl rfl rfl rfl (of_ct bs k [[97], [98], [99], [100], [120], [121], [97], [98], [99]] hb hk hk' (by decide) (by decide))) ?_
  rintro σ2 ⟨r, o', ⟨⟨v, hv, rfl⟩, rfl⟩, hσ⟩
  obtain rfl := Option.some.inj hσ
  clear hσ
  refine rn rfl (fin_is [] rfl ⟨⟨v, ?_, rfl⟩, rfl⟩)
  simp at hv
  rcases hv with rfl | rfl | rfl | rfl | rfl | rfl | rfl | rfl | rfl <;> decide

theorem anyName_ct (bs : Str) (k : Int) (hb : bs.length ≤ 2000) (hk : 0 ≤ k) (hk' : k ≤ 1073741000) :
    ACalls pk 61 [.one (.op 0 0 0)] [oR bs k] (fun r o => (∃ v : Str, v.length ≤ 7 ∧ r = .one (.str v)) ∧ o = [oR bs (k + 2)]) := by
  refine acalls_of_body Tryz.func61 rfl (by kernel_rfl) rfl ?_
  refine rn rfl ?_
  refine goal_step (step_call [0] rfl rfl rfl rfl rfl rfl (pick_ct bs k 16 hb hk (by omega) (by omega))) ?_
  rintro σ2 ⟨r, o', ⟨⟨z, rfl, _, _⟩, rfl⟩, hσ⟩
  obtain rfl := Option.some.inj hσ
  clear hσ
  have hk2 : k + 1 + 1 = k + 2 := by omega
  refine rn rfl ?_
  refine goal_cond rfl (fun h => ?_) (fun h => ?_)
  · refine rn rfl ?_
    refine goal_step (step_callE [0] rfl rfl rfl rfl rfl rfl rfl (of_ct bs (k + 1) [[], [65], [116, 111, 111, 108, 111, 110, 103], [97, 49], [97, 98, 99, 100, 101, 102]] hb (by omega) (by omega) (by decide) (by decide))) ?_
    rintro σ2 ⟨r, o', ⟨⟨v, hv, rfl⟩, rfl⟩, hσ⟩
    obtain rfl := Option.some.inj hσ
    clear hσ
    rw [hk2]
    refine rn rfl (fin_is [] rfl ⟨⟨v, ?_, rfl⟩, rfl⟩)
    simp at hv
    rcases hv with rfl | rfl | rfl | rfl | rfl <;> decide
  · refine rn rfl ?_
    refine goal_step (step_call [0] rfl rfl rfl rfl rfl rfl (aName_ct bs (k + 1) hb (by omega) (by omega))) ?_
    rintro σ2 ⟨r, o', ⟨⟨v, v1, rfl⟩, rfl⟩, hσ⟩
    obtain rfl := Option.some.inj hσ
    clear hσ
    rw [hk2]
    exact rn rfl (fin_is [] rfl ⟨⟨v, v1, rfl⟩, rfl⟩)

theorem newReader_ct (bs : Str) : ACalls pk 19 [.one (.fs (bs.map rowB))] [] (fun r o => r = .one (.op 0 0 0) ∧ o = [oR (bs.take 2000) 0]) := by
  refine acalls_of_body Tryz.func19 rfl (by kernel_rfl) rfl ?_
  refine rn rfl ?_
  refine goal_cond rfl (fun h => ?_) (fun h => ?_) <;> simp only [List.length_map, gt_iff_lt, decide_eq_true_eq, decide_eq_false_iff_not] at h
  · refine rn rfl ?_
    refine goal_did rfl rfl (dA_slice 0 2000 ((bs.take 2000).map rowB) rfl rfl rfl rfl rfl Bnd.none_ (Bnd.some_ rfl rfl) (rows_len rowB_len _) (by omega) (by simp; omega) rfl (by simp)) ?_
    exact rn rfl (fin_is [0] rfl ⟨rfl, rfl⟩)
  · rw [List.take_of_length_le (by omega)]
    exact rn rfl (fin_is [0] rfl ⟨rfl, rfl⟩)

theorem CRr_strsV {D : Nat → Prop} {h : Array Obj} {e : List ALoc} : ∀ (xs : List Str) (vs : List Value), CRr D h e 1 (xs.map eS) vs → ∀ j, j < xs.length → vs[j]? = some (Value.string ⟨xs[j]!.toArray⟩)
  | [], vs, _, j, hj => by simp at hj
  | x :: xs, vs, H, j, hj => by
    simp only [List.map_cons, CRr] at H
    obtain ⟨_, h1, h2⟩ := H
    cases vs with
    | nil => simp [eS, CRp] at h1
    | cons v vs =>
      simp only [eS, CRp, CR] at h1
      cases j with
      | zero => simp [h1.1]
      | succ j => simpa using CRr_strsV xs vs (by simpa using h2) j (by simpa using hj)

theorem strs_CRrV {D : Nat → Prop} {h : Array Obj} {e : List ALoc} : ∀ (xs : List Str) (vs : List Value), (∀ j, j < xs.length → vs[j]? = some (Value.string ⟨xs[j]!.toArray⟩)) → CRr D h e 1 (xs.map eS) vs
  | [], vs, _ => by simp [CRr]
  | x :: xs, vs, H => by
    have h0 := H 0 (by simp)
    cases vs with
    | nil => simp at h0
    | cons v vs =>
      simp only [List.map_cons, CRr]
      refine ⟨rfl, ?_, ?_⟩
      · simp only [eS, CRp, CR]
        exact ⟨by simpa using h0, trivial⟩
      · exact strs_CRrV xs _ fun j hj => by simpa using H (j + 1) (by simpa using hj)

section
open Go Go.RowKit
/-- A contract of the library's, for texts and numbers. -/
theorem acalls_plain {X : Pk} {f : FuncId} {args : List T} {Φ : T → Prop} (hc : Callable X.P f)
    (h : ∀ (D : Nat → Prop) (w : World) (vals : List Value), GlobOk w [] → TRs D w.heap [] args vals → Calls X.P f vals.toArray w fun en w' => ∃ v r, en = .returned v ∧ Below w.heap.size w w' ∧ Φ r ∧ TR D w'.heap [] r v) :
    ACalls X f args [] (fun r o => Φ r ∧ o = []) := by
  refine ⟨hc, fun D e w vals hG hS hT hb => ?_⟩
  have he : e = [] := List.eq_nil_of_length_eq_zero (by rw [hS.len]; rfl)
  subst he
  refine (h D w vals hG hT).mono ?_
  rintro en w' ⟨v, r, rfl, bel, hr, hv⟩
  exact ⟨v, r, [], D, [], rfl, ⟨hr, rfl⟩, hv, ⟨rfl, by simp, by simp, by simp, fun b hb => Nat.lt_of_lt_of_le (hS.dom b hb) bel.size⟩,
    ⟨bel.os, bel.tape, bel.output, bel.size, fun b hb _ => bel.block b hb⟩, by simp, fun _ h _ => h, by simp, by simp⟩

theorem glob_cell {w : World} {e : List ALoc} (h : GlobOk w e) {g : Nat} (hg : g ∈ GL) : ∃ (cs : Array Value) (t : TypeId) (fr : Nat × Nat), w.heap[g]? = some (.cells cs t fr) ∧ GLok g (.cells cs t fr) := by
  obtain ⟨_, ob, h1, h2⟩ := h g hg
  obtain ⟨cs, t, fr, rfl, h3⟩ := h2
  exact ⟨cs, t, fr, h1, cs, t, fr, rfl, h3⟩

theorem glob_tab {w : World} {e : List ALoc} (h : GlobOk w e) : Lib.TabIs Tryz.prog w "internal/strconv.uint64pow10" .u64 Lib.pow10Tab := by
  obtain ⟨cs, t, fr, h1, cs', t', fr', h2, _, _, h3⟩ := glob_cell h (g := gPow) (by simp [GL])
  cases h2
  have hn : Tryz.prog.globalNamed "internal/strconv.uint64pow10" = some gPow := by kernel_rfl
  unfold Lib.TabIs World.var?
  rw [hn]
  simp only [Option.bind_some, h1]
  rw [h3 rfl]

theorem glob_int {w : World} {e : List ALoc} (h : GlobOk w e) : ∃ m, w.cell? ⟨0, 0, none⟩ = some (.int .i64 m) := by
  obtain ⟨cs, t, fr, h1, cs', t', fr', h2, h3, _, _⟩ := glob_cell h (g := 0) (by simp [GL])
  cases h2
  obtain ⟨m, hm⟩ := h3 rfl
  exact ⟨m, by simp [World.cell?, h1, hm]⟩

theorem glob_err {w : World} {e : List ALoc} (h : GlobOk w e) {g : Nat} (hg : g = 1 ∨ g = 2) : ∃ te pe, w.cell? ⟨g, 0, none⟩ = some (.iface te pe) := by
  obtain ⟨cs, t, fr, h1, cs', t', fr', h2, _, h3, _⟩ := glob_cell h (g := g) (by rcases hg with rfl | rfl <;> simp [GL])
  cases h2
  obtain ⟨te, pe, hm⟩ := h3 hg
  exact ⟨te, pe, by simp [World.cell?, h1, hm]⟩

theorem below_grow {w : World} (k : Nat) (os : Array Obj) : Below w.heap.size w (Go.Sort.grow (w.drewN k) os) := by
  refine ⟨rfl, rfl, rfl, by simp [Go.Sort.grow, World.drewN], fun i hi => ?_⟩
  simp only [Go.Sort.grow, World.drewN]
  rw [Array.getElem?_append_left hi]

theorem itoa_ct (n : Int) (h0 : -9223372036854775808 ≤ n) (h1 : n ≤ 9223372036854775807) : ACalls pk 48 [.one (.int .i64 n)] [] (fun r o => r = .one (.str (Lib.itoa n)) ∧ o = []) := by
  refine acalls_plain ⟨_, Tryz.func48, rfl, by kernel_rfl⟩ fun D w vals hG hT => ?_
  simp only [TRs, TR, CR] at hT
  obtain ⟨x, r, rfl, rfl, rfl⟩ := hT
  refine (Go.Proofs.Any.strconv_Itoa lays_n171 n h0 h1 w (glob_tab hG)).mono ?_
  rintro en w' ⟨rfl, k, os, rfl⟩
  exact ⟨_, _, rfl, below_grow k os, rfl, by simp only [TR, CR]⟩

/-- What Atoi gives: a number, and an error that is nil or not. -/
def errC (ok : Bool) (N : Nat) : C := if ok then .v .nilIface else .v (.iface 104 (.pointer (some ⟨N, 0, none⟩)))

def AtoiR (s : Str) (r : T) : Prop := ∃ (n : Int) (ok : Bool) (N : Nat), r = .tup [.one (.int .i64 n), .one (errC ok N)] ∧ (ok = true → Lib.atoiAll s = .ok n) ∧ (∀ v, Lib.atoiAll s = .ok v → ok = true) ∧ -9223372036854775808 ≤ n ∧ n ≤ 9223372036854775807

theorem atoi_range {s : Str} {v : Int} (h : Lib.atoiAll s = .ok v) : -9223372036854775808 ≤ v ∧ v ≤ 9223372036854775807 := by
  unfold Lib.atoiAll at h
  split at h
  · cases h
  · simp only at h
    split at h
    · cases h
    · cases h
    · split at h
      · cases h
      · split at h
        · cases h
        · cases h
          split <;> omega

theorem atoi_ct (s : Str) (hs : s.length ≤ 1073741824) : ACalls pk 47 [.one (.str s)] [] (fun r o => AtoiR s r ∧ o = []) := by
  refine acalls_plain ⟨_, Tryz.func47, rfl, by kernel_rfl⟩ fun D w vals hG hT => ?_
  simp only [TRs, TR, CR] at hT
  obtain ⟨x, r, rfl, rfl, rfl⟩ := hT
  have hsz : (⟨s.toArray⟩ : ByteArray).size = s.length := by simp [ByteArray.size]
  cases h : Lib.atoiAll s with
  | ok v =>
    refine (Go.Proofs.Any.strconv_Atoi_ok lays_n172 ⟨s.toArray⟩ (by rw [hsz]; omega) v (by simpa using h) w).mono ?_
    rintro en w' ⟨rfl, hw⟩
    obtain ⟨a1, a2⟩ := atoi_range h
    refine ⟨_, .tup [.one (.int .i64 v), .one (errC true 0)], rfl, ?_, ⟨v, true, 0, rfl, fun _ => h, fun _ _ => rfl, a1, a2⟩, ?_⟩
    · rcases hw with rfl | ⟨t, rfl⟩
      · exact Below.refl _ _
      · exact Lib.bytesWorld_below _ _ _
    · simp only [TR, TRs, CR, errC, if_true]
      exact ⟨_, rfl, _, _, rfl, rfl, _, _, rfl, ⟨rfl, rfl⟩, rfl⟩
  | range =>
    obtain ⟨te, pe, hv⟩ := glob_err hG (.inr rfl)
    refine (Go.Proofs.Any.strconv_Atoi_range lays_n172 ⟨s.toArray⟩ (by rw [hsz]; omega) (by simpa using h) (.iface te pe) w hv (.inr ⟨te, pe, rfl⟩)).mono ?_
    rintro en w' ⟨N, rfl, _, _, bel⟩
    exact ⟨_, .tup [.one (.int .i64 (Lib.atoiSat s)), .one (errC false N)], rfl, bel, ⟨_, false, N, rfl, (fun h0 => by cases h0), (fun v h0 => by rw [h] at h0; cases h0), by unfold Lib.atoiSat; split <;> omega, by unfold Lib.atoiSat; split <;> omega⟩, by
      simp only [TR, TRs, CR, errC, Bool.false_eq_true, if_false]
      exact ⟨_, rfl, _, _, rfl, rfl, _, _, rfl, ⟨rfl, rfl⟩, rfl⟩⟩
  | _ =>
    obtain ⟨te, pe, hv⟩ := glob_err hG (.inl rfl)
    refine (Go.Proofs.Any.strconv_Atoi_syntax lays_n172 ⟨s.toArray⟩ (by rw [hsz]; omega) (by simpa using h) (.iface te pe) w hv (.inr ⟨te, pe, rfl⟩)).mono ?_
    rintro en w' ⟨N, rfl, _, _, bel⟩
    exact ⟨_, .tup [.one (.int .i64 0), .one (errC false N)], rfl, bel, ⟨0, false, N, rfl, (fun h0 => by cases h0), (fun v h0 => by rw [h] at h0; cases h0), by omega, by omega⟩, by
      simp only [TR, TRs, CR, errC, Bool.false_eq_true, if_false]
      exact ⟨_, rfl, _, _, rfl, rfl, _, _, rfl, ⟨rfl, rfl⟩, rfl⟩⟩

/-- Where rows that are data lie. -/
theorem fs_at {D : Nat → Prop} {h : Array Obj} {xs : List Str} {v : Value} (H : CR D h [] (.fs (xs.map eS)) v) : ∃ A cap, v = .slice A xs.length cap ∧ xs.length ≤ cap ∧ (xs = [] ∨ ∃ (b : Addr) (cells : Array Value) (t : TypeId) (fr : Nat × Nat), A = some b ∧ b.spot = none ∧ h[b.block]? = some (.cells cells t fr) ∧ ∀ j, j < xs.length → cells[b.off + j]? = some (Value.string ⟨xs[j]!.toArray⟩)) := by
  simp only [CR] at H
  obtain ⟨A, cap, rfl, hc, hA⟩ := H
  refine ⟨A, cap, by simp, by simpa using hc, ?_⟩
  rcases hA with hA | ⟨b, cells, t, fr, sz, rfl, hs, hD, hh, hr⟩
  · left; exact List.map_eq_nil_iff.1 hA
  · cases xs with
    | nil => exact .inl rfl
    | cons x xs =>
      right
      have hsz : sz = 1 := by
        simp only [List.map_cons, CRr] at hr
        exact hr.1.symm
      subst hsz
      refine ⟨b, cells, t, fr, rfl, hs, hh, fun j hj => ?_⟩
      have := CRr_strsV _ _ hr j hj
      rw [List.getElem?_drop, Array.getElem?_toList] at this
      exact this

theorem build_ex : Go.Proofs.Builder.Extra Tryz.prog lays_n156_ren where
  sizeBuilder := by kernel_rfl
  liesBuilder := by kernel_rfl
  t5 := Tryz.underlying5
  a5 := Tryz.isAgg5
  z5 := Tryz.sizeOf5
  v5 := Tryz.zeroValue5
  infoByte := by kernel_rfl
  cellsByte := by kernel_rfl
  sizeByte := by kernel_rfl
  neB5 := by decide

theorem join_ct (xs : List Str) (sep : Str) (h1 : xs.length ≤ 1073741824) (h2 : (Lib.join xs sep).length ≤ 1073741824) : ACalls pk 32 [.one (.fs (xs.map eS)), .one (.str sep)] [] (fun r o => r = .one (.str (Lib.join xs sep)) ∧ o = []) := by
  refine acalls_plain ⟨_, Tryz.func32, rfl, by kernel_rfl⟩ fun D w vals hG hT => ?_
  simp only [TRs, TR] at hT
  obtain ⟨x, r, rfl, hx, y, r', rfl, hy, rfl⟩ := hT
  obtain ⟨A, cap, rfl, hcap, hA⟩ := fs_at hx
  simp only [CR] at hy
  subst hy
  have fin : ∀ (en : Ending) (w' : World), en = .returned (.string ⟨(Lib.join xs sep).toArray⟩) → Below w.heap.size w w' → ∃ v r, en = .returned v ∧ Below w.heap.size w w' ∧ r = T.one (.str (Lib.join xs sep)) ∧ TR D w'.heap [] r v := fun en w' h1 h2 =>
    ⟨_, _, h1, h2, rfl, by simp only [TR, CR]⟩
  rcases hA with rfl | ⟨b, cells, t, fr, rfl, hs, hh, hat⟩
  · refine (Go.Proofs.Any.strings_Join_none lays_n156 build_ex A cap ⟨sep.toArray⟩ w).mono ?_
    rintro en w' ⟨rfl, rfl⟩
    exact fin _ _ rfl (Below.refl _ _)
  · have hmap : ((xs.map fun x => (⟨x.toArray⟩ : ByteArray)).map (·.data.toList)) = xs := by simp [Function.comp_def]
    have hbl : b.block < w.heap.size := (Array.getElem?_eq_some_iff.1 hh).1
    have key := Go.Proofs.Any.strings_Join lays_n156 build_ex b.block b.off cap (xs.map fun x => (⟨x.toArray⟩ : ByteArray)) ⟨sep.toArray⟩ w (fun j x hj => by
        rw [List.getElem?_map, Option.map_eq_some_iff] at hj
        obtain ⟨y, hy, rfl⟩ := hj
        have := hat j (lt_of_some hy)
        simp only [World.cell?, hh, Option.isSome_none, Bool.false_eq_true, if_false]
        rw [this]
        have hyy : xs[j]! = y := by simp [List.getElem!_eq_getElem?_getD, hy]
        rw [hyy]) hbl (by simp; omega) (by simpa using hcap) (by rw [hmap]; simp only [List.toList_toArray]; omega)
    rw [hmap] at key
    simp only [List.toList_toArray, List.length_map] at key
    have hb : b = ⟨b.block, b.off, none⟩ := by cases b; simp only at hs; subst hs; rfl
    rw [← hb] at key
    refine key.mono ?_
    rintro en w' ⟨rfl, bel⟩
    exact fin _ _ rfl bel

theorem splitB_len (sep : ByteArray) (h1 : 1 ≤ sep.size) : ∀ (k : Nat) (s : ByteArray), k = Lib.countB s sep → (Lib.splitB sep 0 k s).length = k + 1
  | 0, s, _ => rfl
  | k + 1, s, h => by
    cases hi : Lib.indexB s sep == -1 with
    | true =>
      have := Lib.countB_miss s sep (by simpa using hi)
      omega
    | false =>
      have hne : Lib.indexB s sep ≠ -1 := by simpa using hi
      have hge : -1 ≤ Lib.indexB s sep := Lib.index_ge _ _
      obtain ⟨i, hi2⟩ : ∃ i : Nat, Lib.indexB s sep = i := ⟨(Lib.indexB s sep).toNat, by omega⟩
      have := Lib.countB_hit s sep i h1 hi2
      rw [Lib.splitB_hit sep 0 k s i hi2, List.length_cons, splitB_len sep h1 k _ (by omega)]

theorem splitB_is (s sep : Str) : (Lib.splitB ⟨sep.toArray⟩ 0 (Lib.countB ⟨s.toArray⟩ ⟨sep.toArray⟩) ⟨s.toArray⟩).map (·.data.toList) = Lib.split s sep := by
  rw [Lib.splitB_data]
  rfl

theorem split_ct (s sep : Str) (hs : s.length ≤ 1073741824) (h1 : 1 ≤ sep.length) : ACalls pk 25 [.one (.str s), .one (.str sep)] [] (fun r o => r = .one (.fs ((Lib.split s sep).map eS)) ∧ o = []) := by
  refine ⟨⟨_, Tryz.func25, rfl, by kernel_rfl⟩, fun D e w vals hG hS hT hb => ?_⟩
  have he : e = [] := List.eq_nil_of_length_eq_zero (by rw [hS.len]; rfl)
  subst he
  simp only [TRs, TR, CR] at hT
  obtain ⟨x, r, rfl, rfl, y, r', rfl, rfl, rfl⟩ := hT
  obtain ⟨m, hm⟩ := glob_int hG
  have key := Go.Proofs.Any.strings_Split lays_n146 (by kernel_rfl) ⟨s.toArray⟩ ⟨sep.toArray⟩ m w (by simp [ByteArray.size]; omega) hm (by simpa [ByteArray.size] using h1)
  have hlen := splitB_len ⟨sep.toArray⟩ (by simpa [ByteArray.size] using h1) _ ⟨s.toArray⟩ rfl
  have his := splitB_is s sep
  generalize Lib.splitB ⟨sep.toArray⟩ 0 (Lib.countB ⟨s.toArray⟩ ⟨sep.toArray⟩) ⟨s.toArray⟩ = ps at *
  rw [← hlen] at key
  have hpl : (Lib.split s sep).length = ps.length := by rw [← his]; simp
  refine key.mono ?_
  rintro en w' ⟨rfl, rfl⟩
  have hnew : (w.alloc (.cells (ps.map Value.string).toArray (lays_n146_ren.t 9))).heap[w.heap.size]? = some (.cells (ps.map Value.string).toArray (lays_n146_ren.t 9)) := by
    show (w.heap.push _)[w.heap.size]? = _
    simp
  have hsize : (w.alloc (.cells (ps.map Value.string).toArray (lays_n146_ren.t 9))).heap.size = w.heap.size + 1 := by simp
  have hold : ∀ b, b < w.heap.size → (w.alloc (.cells (ps.map Value.string).toArray (lays_n146_ren.t 9))).heap[b]? = w.heap[b]? := fun b hb => by
    show (w.heap.push _)[b]? = _
    rw [Array.getElem?_push, if_neg (by omega)]
  refine ⟨_, _, [], fun b => D b ∨ b = w.heap.size, [], rfl, ⟨rfl, rfl⟩, ?_, ⟨rfl, by simp, by simp, by simp, fun b hb => ?_⟩, ⟨rfl, rfl, rfl, by rw [hsize]; omega, fun b hb _ => hold b hb⟩, by simp, fun b hb hlt => ?_, by simp, by simp⟩
  · simp only [TR, CR]
    refine ⟨some ⟨w.heap.size, 0, none⟩, ps.length, by simp [hpl], by simp [hpl], .inr ⟨_, _, _, _, 1, rfl, rfl, .inr rfl, hnew, ?_⟩⟩
    refine strs_CRrV _ _ fun j hj => ?_
    rw [hpl] at hj
    rw [← his]
    simp [hj]
  · rcases hb with hb | hb
    · rw [hsize]; have := hS.dom b hb; omega
    · rw [hsize]; omega
  · rcases hb with hb | hb
    · exact hb
    · omega
end

theorem itoa_nat (n : Nat) : Lib.itoa (n : Int) = Lib.decDigits n := by
  unfold Lib.itoa
  rw [if_neg (by omega)]; simp

theorem dec_len : ∀ n : Nat, (Lib.decDigits n).length ≤ n + 1 := fun n => by
  induction n using Nat.strongRecOn with
  | ind n ih =>
    rw [Lib.decDigits]
    split
    · simp
    · have := ih (n / 10) (by omega)
      simp only [List.length_append, List.length_singleton]; omega

theorem dec_short {n : Nat} (h : n ≤ 9223372036854775807) : (Lib.decDigits n).length ≤ 1000000000000000000 := by
  rw [Lib.decDigits]
  split
  · simp
  · have := dec_len (n / 10)
    simp only [List.length_append, List.length_singleton]; omega

theorem digit_at {n : Nat} (h : n < 10) : [UInt8.ofNat (48 + n)] = (List.drop n [48, 49, 50, 51, 52, 53, 54, 55, 56, 57]).take (n + 1 - n) := by
  have : n = 0 ∨ n = 1 ∨ n = 2 ∨ n = 3 ∨ n = 4 ∨ n = 5 ∨ n = 6 ∨ n = 7 ∨ n = 8 ∨ n = 9 := by omega
  rcases this with rfl | rfl | rfl | rfl | rfl | rfl | rfl | rfl | rfl | rfl <;> rfl

theorem number_nat : ∀ (k n : Nat), n < k → n ≤ 9223372036854775807 → ACalls pk 89 [.one (.int .i64 n)] [] (fun r o => r = .one (.str (Lib.itoa n)) ∧ o = []) := by
  intro k
  induction k with
  | zero => intro n h; omega
  | succ k ih =>
    intro n hk hn
    refine acalls_of_body Tryz.func89 rfl (by kernel_rfl) rfl ?_
    refine rn rfl ?_
    refine goal_cond rfl (fun h => by simp at h; omega) (fun _ => ?_)
    refine rn rfl ?_
    refine goal_cond rfl (fun h => ?_) (fun h => ?_) <;> (try simp only [gt_iff_lt, ge_iff_le, bne_iff_ne, ne_eq, bne_eq_false_iff_eq, beq_iff_eq, beq_eq_false_iff_ne, Bool.not_eq_true', Bool.not_eq_false', decide_eq_true_eq, decide_eq_false_iff_not, List.length_map] at h)
    · have hn10 : n < 10 := by omega
      rw [itoa_nat, Lib.decDigits_one hn10]
      refine rn rfl ?_
      refine goal_did rfl rfl (dA_strSlice n (n + 1) [UInt8.ofNat (48 + n)] rfl rfl rfl rfl (Bnd.some_ rfl rfl) (Bnd.some_ rfl (wrap64 (by omega) (by omega))) (by omega) (by simp; omega) rfl (digit_at hn10)) ?_
      refine rn rfl ?_
      exact rn rfl (fin_is [] rfl ⟨rfl, rfl⟩)
    · have hn10 : ¬ n < 10 := by omega
      have hq : IntKind.i64.wrap ((n : Int).tdiv (Int.ofNat (9 + 1))) = ((n / 10 : Nat) : Int) := by
        rw [show (Int.ofNat (9 + 1)) = ((10 : Nat) : Int) from rfl, Int.tdiv_eq_ediv_of_nonneg (by omega), wrap64 (by omega) (by omega)]; omega
      have hr : (n : Int).tmod (Int.ofNat (9 + 1)) = ((n % 10 : Nat) : Int) := by
        rw [show (Int.ofNat (9 + 1)) = ((10 : Nat) : Int) from rfl, Int.tmod_eq_emod_of_nonneg (by omega)]; omega
      have h1 := dec_len (n / 10)
      have e : Lib.itoa (n : Int) = Lib.itoa ((n / 10 : Nat) : Int) ++ Lib.itoa ((n % 10 : Nat) : Int) := by
        rw [itoa_nat, itoa_nat, itoa_nat, Lib.decDigits_one (show n % 10 < 10 by omega)]
        conv => lhs; rw [Lib.decDigits, dif_neg hn10]
      rw [e]
      refine rn rfl ?_
      refine goal_step (step_callE [] rfl rfl rfl rfl rfl rfl (congrArg (fun z => [T.one (C.int .i64 z)]) hq) (ih (n / 10) (by omega) (by omega))) ?_
      rintro σ2 ⟨r, o', ⟨rfl, rfl⟩, hσ⟩
      obtain rfl := Option.some.inj hσ
      clear hσ
      refine rn rfl ?_
      refine goal_step (step_callE [] rfl rfl rfl rfl rfl rfl (congrArg (fun z => [T.one (C.int .i64 z)]) hr) (ih (n % 10) (by omega) (by omega))) ?_
      rintro σ2 ⟨r, o', ⟨rfl, rfl⟩, hσ⟩
      obtain rfl := Option.some.inj hσ
      clear hσ
      refine rn rfl ?_
      refine goal_did rfl rfl (dA_concat (Lib.itoa ((n / 10 : Nat) : Int) ++ Lib.itoa ((n % 10 : Nat) : Int)) rfl rfl rfl (by rw [itoa_nat, itoa_nat, Lib.decDigits_one (show n % 10 < 10 by omega)]; simp; omega) rfl rfl) ?_
      refine rn rfl ?_
      exact rn rfl (fin_is [] rfl ⟨rfl, rfl⟩)

theorem number_ct (n : Int) (h1 : -9223372036854775807 ≤ n) (h2 : n ≤ 9223372036854775807) : ACalls pk 89 [.one (.int .i64 n)] [] (fun r o => r = .one (.str (Lib.itoa n)) ∧ o = []) := by
  rcases (show n < 0 ∨ 0 ≤ n by omega) with h | h
  · have hw : IntKind.i64.wrap (0 - n) = ((n.natAbs : Nat) : Int) := by rw [wrap64 (by omega) (by omega)]; omega
    have e : Lib.itoa n = [45] ++ Lib.itoa ((n.natAbs : Nat) : Int) := by
      rw [itoa_nat]; unfold Lib.itoa; rw [if_pos h]; rfl
    have hd := dec_len n.natAbs
    rw [e]
    refine acalls_of_body Tryz.func89 rfl (by kernel_rfl) rfl ?_
    refine rn rfl ?_
    refine goal_cond rfl (fun _ => ?_) (fun h0 => by simp at h0; omega)
    refine rn rfl ?_
    refine goal_step (step_callE [] rfl rfl rfl rfl rfl rfl (congrArg (fun z => [T.one (C.int .i64 z)]) hw) (number_nat (n.natAbs + 1) n.natAbs (by omega) (by omega))) ?_
    rintro σ2 ⟨r, o', ⟨rfl, rfl⟩, hσ⟩
    obtain rfl := Option.some.inj hσ
    clear hσ
    refine rn rfl ?_
    refine goal_did rfl rfl (dA_concat ([45] ++ Lib.itoa ((n.natAbs : Nat) : Int)) rfl rfl rfl (by rw [itoa_nat]; simp; have := dec_short (n := n.natAbs) (by omega); omega) rfl rfl) ?_
    refine rn rfl ?_
    exact rn rfl (fin_is [] rfl ⟨rfl, rfl⟩)
  · have := number_nat (n.toNat + 1) n.toNat (by omega) (by omega)
    rw [show ((n.toNat : Nat) : Int) = n by omega] at this
    exact this

def stepD (n : Nat) (c : UInt8) : Option Nat := if (c.toNat : Int) < 48 then none else if (c.toNat : Int) > 57 then none else if (n : Int) > 9 then none else some (10 * n + (c.toNat - 48))

def foldD : Nat → Str → Option Nat
  | n, [] => some n
  | n, c :: l => (stepD n c).bind fun m => foldD m l

def sgnAt (s : Str) : Nat := match s with
  | [] => 0
  | c :: _ => if (c.toNat : Int) == 45 then 1 else 0

def sgQ (s : Str) (n : Nat) : Int := if sgnAt s = 1 then -(n : Int) else n

def RdS (s : Str) : Int × Bool := match foldD 0 (s.drop (sgnAt s)) with
  | none => (0, false)
  | some n => (sgQ s n, s == Lib.itoa (sgQ s n))

section

variable {X : Pk} {N np : Nat} {σ : State}

/-- 'err == nil'. -/
theorem dA_errNil {o : Oper} {t ty : TypeId} {x : Operand} {ok : Bool} {M : Nat} (ho : o.op = .binOp .eql t x (.const .nilIface) ty) (hu : X.P.underlying t = some (.interface (X.P.methodsAt t))) (hx : evalO σ x = .one (errC ok M)) (hd : dstB N o.dst = true) :
    DidA X N np o (.q none) σ (putS o.dst (.one (.bool ok)) σ) := fun {G D e a w} H => by
  have hxv := hx ▸ H.ev x
  refine Did.pure H (v := .bool ok) (fun w _ => ?_) (by simp only [TR, CR]) (putS_eq hd)
  have hn : a.eval (.const .nilIface) = .nilIface := rfl
  cases ok with
  | true =>
    simp only [errC, if_true, TR, CR] at hxv
    simp [execOp, ho, hxv.1, hn, eqGuard, run_eql_nil_nil w t hu]
  | false =>
    simp only [errC, Bool.false_eq_true, if_false, TR, CR] at hxv
    simp [execOp, ho, hxv.1, hn, eqGuard, run_eql_held_nil w t _ _ hu]

end

def RdI (s : Str) (r : T) : Prop := ∃ (n : Int) (ok : Bool), r = .tup [.one (.int .i64 n), .one (.bool ok)] ∧ (ok = true → s = Lib.itoa n) ∧ (∀ m, Lib.atoiAll s = .ok m → Lib.itoa m = s → ok = true ∧ n = m) ∧ -9223372036854775808 ≤ n ∧ n ≤ 9223372036854775807

theorem ird_ct (s : Str) (hl : s.length ≤ 1073741824) : ACalls pk 27 [.one (.str s)] [] (fun r o => RdI s r ∧ o = []) := by
  refine acalls_of_body Tryz.func27 rfl (by kernel_rfl) rfl ?_
  refine rn rfl ?_
  refine goal_step (step_call [] rfl rfl rfl rfl rfl rfl (atoi_ct s hl)) ?_
  rintro σ2 ⟨r, o', ⟨⟨n, ok, M, rfl, h1, h2, h3, h4⟩, rfl⟩, hσ⟩
  obtain rfl := Option.some.inj hσ
  clear hσ
  cases ok with
  | false =>
    refine rn rfl ?_
    refine goal_did rfl rfl (dA_errNil (ok := false) (M := M) rfl (by kernel_rfl) rfl rfl) ?_
    refine rn rfl ?_
    refine goal_guard rfl rfl rfl (fun h => by cases h) (fun _ => ?_)
    refine rn rfl (fin_is [] rfl ⟨⟨n, false, rfl, (fun h => by cases h), fun m hm _ => ?_, h3, h4⟩, rfl⟩)
    have := h2 m hm
    cases this
  | true =>
    refine rn rfl ?_
    refine goal_did rfl rfl (dA_errNil (ok := true) (M := M) rfl (by kernel_rfl) rfl rfl) ?_
    refine rn rfl ?_
    refine goal_guard rfl rfl rfl (fun _ => ?_) (fun h => by cases h)
    refine rn rfl ?_
    refine goal_step (step_call [] rfl rfl rfl rfl rfl rfl (itoa_ct n h3 h4)) ?_
    rintro σ2 ⟨r, o', ⟨rfl, rfl⟩, hσ⟩
    obtain rfl := Option.some.inj hσ
    clear hσ
    refine rn rfl ?_
    refine rn rfl (fin_is [] rfl ⟨⟨n, Lib.itoa n == s, rfl, (fun h => (beq_iff_eq.1 h).symm), fun m hm he => ?_, h3, h4⟩, rfl⟩)
    have := h1 rfl
    rw [hm] at this
    cases this
    exact ⟨beq_iff_eq.2 he, rfl⟩

theorem takeAll {α : Type} (enc : α → List C) (xs : List α) (n : Nat) (h : xs.length = n) : List.take n (List.drop 0 (xs.map enc)) = xs.map enc := by
  subst h; simp [List.take_of_length_le]

structure OkF (f : Flat) : Prop where
  pairs : ∀ p ∈ f.named, okPair p = true
  nodup : (namesOf f.named).Nodup
  vals : ∀ n ∈ f.places, okVal n = true
  places : f.places.length ≤ 8
  named : f.named.length ≤ 8

structure Param where
  name : Str
  kind : Int
  hasD : Bool
  dflt : Int
deriving DecidableEq

def eQ (p : Param) : List C := [.str p.name, .int .i64 p.kind, .bool p.hasD, .int .i64 p.dflt]

abbrev Sig := List Param

def eG (s : Sig) : List C := [.fs (s.map eQ)]

theorem eQ_len (p : Param) : (eQ p).length = 4 := rfl

theorem eQ_noOwn (p : Param) : noOwnL (eQ p) = true := rfl

theorem eS_len (p : Str) : (eS p).length = 1 := rfl

theorem eS_noOwn (p : Str) : noOwnL (eS p) = true := rfl

def ownQ (xs : List Param) : Option AObj := some ⟨4, xs.map eQ, true, false, false⟩

def ownS (xs : List Str) : Option AObj := some ⟨1, xs.map eS, true, false, false⟩

def placedQ (p : Param) : Bool := p.kind == 0 || p.kind == 1

def namedQ (p : Param) : Bool := p.kind == 1 || p.kind == 3

def singleQ (p : Param) : Bool := placedQ p || p.kind == 3

theorem singleQ' (p : Param) : (placedQ p || namedQ p) = singleQ p := by
  simp only [singleQ, placedQ, namedQ]
  cases (p.kind == 0) <;> cases (p.kind == 1) <;> cases (p.kind == 3) <;> rfl

theorem iplaced_ct (p : Param) : ACalls pk 36 [.agg (eQ p)] [] (fun r o => r = .one (.bool (placedQ p)) ∧ o = []) := by
  refine acalls_of_body Tryz.func36 rfl (by kernel_rfl) rfl ?_
  refine rn rfl ?_
  refine goal_guard rfl rfl rfl (fun h => ?_) (fun h => ?_)
  · exact rn rfl (fin_is [] rfl ⟨by simp [placedQ, h], rfl⟩)
  · exact rn rfl (fin_is [] rfl ⟨by simp [placedQ, h], rfl⟩)

theorem splaced_ct (p : Param) : ACalls pk 88 [.agg (eQ p)] [] (fun r o => r = .one (.bool (placedQ p)) ∧ o = []) := by
  refine acalls_of_body Tryz.func88 rfl (by kernel_rfl) rfl ?_
  refine rn rfl ?_
  refine goal_guard rfl rfl rfl (fun h => ?_) (fun h => ?_)
  · exact rn rfl (fin_is [] rfl ⟨by simp [placedQ, h], rfl⟩)
  · exact rn rfl (fin_is [] rfl ⟨by simp [placedQ, h], rfl⟩)

theorem snamed_ct (p : Param) : ACalls pk 105 [.agg (eQ p)] [] (fun r o => r = .one (.bool (namedQ p)) ∧ o = []) := by
  refine acalls_of_body Tryz.func105 rfl (by kernel_rfl) rfl ?_
  refine rn rfl ?_
  refine goal_guard rfl rfl rfl (fun h => ?_) (fun h => ?_)
  · exact rn rfl (fin_is [] rfl ⟨by simp [namedQ, h], rfl⟩)
  · exact rn rfl (fin_is [] rfl ⟨by simp [namedQ, h], rfl⟩)

theorem isingle_ct (p : Param) : ACalls pk 35 [.agg (eQ p)] [] (fun r o => r = .one (.bool (singleQ p)) ∧ o = []) := by
  refine acalls_of_body Tryz.func35 rfl (by kernel_rfl) rfl ?_
  refine rn rfl ?_
  refine goal_step (step_call [] rfl rfl rfl rfl rfl rfl (iplaced_ct p)) ?_
  rintro σ2 ⟨r, o', ⟨rfl, rfl⟩, hσ⟩
  obtain rfl := Option.some.inj hσ
  clear hσ
  refine rn rfl ?_
  refine goal_guard rfl rfl rfl (fun h => ?_) (fun h => ?_)
  · exact rn rfl (fin_is [] rfl ⟨by simp [singleQ, h], rfl⟩)
  · exact rn rfl (fin_is [] rfl ⟨by simp [singleQ, h], rfl⟩)

theorem ssingle_ct (p : Param) : ACalls pk 82 [.agg (eQ p)] [] (fun r o => r = .one (.bool (singleQ p)) ∧ o = []) := by
  refine acalls_of_body Tryz.func82 rfl (by kernel_rfl) rfl ?_
  refine rn rfl ?_
  refine goal_step (step_call [] rfl rfl rfl rfl rfl rfl (splaced_ct p)) ?_
  rintro σ2 ⟨r, o', ⟨rfl, rfl⟩, hσ⟩
  obtain rfl := Option.some.inj hσ
  clear hσ
  refine rn rfl ?_
  refine goal_guard rfl rfl rfl (fun h => ?_) (fun h => ?_)
  · exact rn rfl (fin_is [] rfl ⟨by simp [← singleQ', h], rfl⟩)
  · refine rn rfl ?_
    refine goal_step (step_call [] rfl rfl rfl rfl rfl rfl (snamed_ct p)) ?_
    rintro σ2 ⟨r, o', ⟨rfl, rfl⟩, hσ⟩
    obtain rfl := Option.some.inj hσ
    clear hσ
    refine rn rfl ?_
    exact rn rfl (fin_is [] rfl ⟨by simp [← singleQ', h], rfl⟩)

def qIs (n : Str) (p : Param) : Bool := p.name == n

def kIs (k : Int) (p : Param) : Bool := p.kind == k

theorem findC_ct (p : Param) (n : Str) : ACalls pk 58 [.agg (eQ p), .one (.fp [.str n])] [] (fun r o => r = .one (.bool (qIs n p)) ∧ o = []) := by
  refine acalls_of_body Tryz.func58 rfl (by kernel_rfl) rfl ?_
  refine rn rfl ?_
  exact rn rfl (fin_is [] rfl ⟨rfl, rfl⟩)

theorem hasC_ct (p : Param) (k : Int) : ACalls pk 53 [.agg (eQ p), .one (.fp [.int .i64 k])] [] (fun r o => r = .one (.bool (kIs k p)) ∧ o = []) := by
  refine acalls_of_body Tryz.func53 rfl (by kernel_rfl) rfl ?_
  refine rn rfl ?_
  exact rn rfl (fin_is [] rfl ⟨rfl, rfl⟩)

theorem indexQ_ct (xs : List Param) (hb : xs.length ≤ 9223372036854775807) (pred : Param → Bool) (f : FuncId) (cs : List C)
    (hcl : ∀ p, ACalls pk f [.agg (eQ p), .one (.fp cs)] [] (fun r o => r = .one (.bool (pred p)) ∧ o = [])) :
    ACalls pk 57 [.one (.fs (xs.map eQ)), .one (.fn f [.fp cs])] [] (fun r o => r = .one (.int .i64 (idxI pred xs 0)) ∧ o = []) := by
  refine acalls_of_body Tryz.func57 rfl (by kernel_rfl) rfl ?_
  refine rn rfl ?_
  refine goal_loop_keep (fun m σ => ∃ (n L : Int) (i : Nat), n = i ∧ L = xs.length ∧ i ≤ xs.length ∧ m = xs.length - i ∧ idxI pred xs 0 = idxI pred (xs.drop i) i ∧
      σ = ⟨[(8, .one (.int .i64 n)), (7, .one (.int .i64 L)), (1, .one (.fn f [.fp cs])), (0, .one (.fs (xs.map eQ)))], [], []⟩) xs.length [8, 7, 1, 0] [] rfl
    ⟨_, _, 0, rfl, by simp, by omega, by omega, by simp, rfl⟩ ?_
  rintro m σ ⟨n, L, i, rfl, rfl, hi, rfl, hidx, rfl⟩
  refine rn rfl ?_
  refine goal_cond rfl (fun h => ?_) (fun h => ?_) <;> (try simp only [gt_iff_lt, ge_iff_le, bne_iff_ne, ne_eq, bne_eq_false_iff_eq, beq_iff_eq, beq_eq_false_iff_ne, Bool.not_eq_true', Bool.not_eq_false', decide_eq_true_eq, decide_eq_false_iff_not, List.length_map] at h)
  · obtain ⟨p, hp⟩ := at_some (xs := xs) (i := i) (by omega)
    refine rn rfl ?_
    refine goal_did rfl rfl (dA_index (eQ p) rfl rfl rfl rfl rfl rfl rfl (by omega) (by (try simp); omega) (map_at (by simpa using hp)) rfl) ?_
    refine rn rfl ?_
    refine goal_step (step_call [] rfl rfl rfl rfl rfl rfl (hcl p)) ?_
    rintro σ2 ⟨r, o', ⟨rfl, rfl⟩, hσ⟩
    obtain rfl := Option.some.inj hσ
    clear hσ
    refine rn rfl ?_
    refine goal_cond rfl (fun h2 => ?_) (fun h2 => ?_)
    · refine rn rfl (round_ret (fin_is [] rfl ⟨?_, rfl⟩))
      rw [hidx, drop_at hp]; simp [idxI, h2]
    · refine rn rfl ?_
      refine round_keep (xs.length - (i + 1)) [8, 7, 1, 0] [] (by omega) rfl ⟨_, _, i + 1, wrap64 (by omega) (by omega), rfl, by omega, rfl, ?_, rfl⟩
      rw [hidx, drop_at hp]; simp [idxI, h2]
  · refine rn rfl (round_ext ?_)
    refine rn rfl (fin_is [] rfl ⟨?_, rfl⟩)
    rw [hidx, List.drop_eq_nil_of_le (by omega)]; rfl

theorem containsQ_ct (xs : List Param) (hb : xs.length ≤ 9223372036854775807) (pred : Param → Bool) (f : FuncId) (cs : List C)
    (hcl : ∀ p, ACalls pk f [.agg (eQ p), .one (.fp cs)] [] (fun r o => r = .one (.bool (pred p)) ∧ o = [])) :
    ACalls pk 52 [.one (.fs (xs.map eQ)), .one (.fn f [.fp cs])] [] (fun r o => r = .one (.bool (xs.any pred)) ∧ o = []) := by
  refine acalls_of_body Tryz.func52 rfl (by kernel_rfl) rfl ?_
  refine rn rfl ?_
  refine goal_step (step_call [] rfl rfl rfl rfl rfl rfl (indexQ_ct xs hb pred f cs hcl)) ?_
  rintro σ2 ⟨r, o', ⟨rfl, rfl⟩, hσ⟩
  obtain rfl := Option.some.inj hσ
  clear hσ
  refine rn rfl ?_
  refine rn rfl (fin_is [] rfl ⟨?_, rfl⟩)
  congr 1; congr 1
  have := idxI_ge (pred := pred) (xs := xs) (i := 0)
  cases h : xs.any pred with
  | true => simp [this.2 h]
  | false => rw [idxI_none.2 h]; rfl

theorem find_ct (s : Sig) (n : Str) (hb : s.length ≤ 9223372036854775807) : ACalls pk 37 [.one (.fs (s.map eQ)), .one (.str n)] [] (fun r o => r = .one (.int .i64 (idxI (qIs n) s 0)) ∧ o = []) := by
  refine acalls_of_body Tryz.func37 rfl (by kernel_rfl) rfl ?_
  refine rn rfl ?_
  refine goal_step (step_call [] rfl rfl rfl rfl rfl rfl (indexQ_ct s hb (qIs n) _ _ (fun p => findC_ct p n))) ?_
  rintro σ2 ⟨r, o', ⟨rfl, rfl⟩, hσ⟩
  obtain rfl := Option.some.inj hσ
  clear hσ
  refine rn rfl ?_
  exact rn rfl (fin_is [] rfl ⟨rfl, rfl⟩)

theorem has_ct (s : Sig) (k : Int) (hb : s.length ≤ 9223372036854775807) : ACalls pk 30 [.agg (eG s), .one (.int .i64 k)] [] (fun r o => r = .one (.bool (s.any (kIs k))) ∧ o = []) := by
  refine acalls_of_body Tryz.func30 rfl (by kernel_rfl) rfl ?_
  refine rn rfl ?_
  refine goal_step (step_call [] rfl rfl rfl rfl rfl rfl (containsQ_ct s hb (kIs k) _ _ (fun p => hasC_ct p k))) ?_
  rintro σ2 ⟨r, o', ⟨rfl, rfl⟩, hσ⟩
  obtain rfl := Option.some.inj hσ
  clear hσ
  refine rn rfl ?_
  exact rn rfl (fin_is [] rfl ⟨rfl, rfl⟩)

theorem sfind_ct (xs : List Param) (n : Str) (hb : xs.length ≤ 9223372036854775807) :
    ACalls pk 87 [.one (.fs (xs.map eQ)), .one (.str n)] [] (fun r o => r = .one (.int .i64 (idxI (qIs n) xs 0)) ∧ o = []) := by
  refine acalls_of_body Tryz.func87 rfl (by kernel_rfl) rfl ?_
  refine rn rfl ?_
  refine goal_loop_keep (fun m σ => ∃ (q : Int) (i : Nat), q = i ∧ i ≤ xs.length ∧ m = xs.length - i ∧ idxI (qIs n) xs 0 = idxI (qIs n) (xs.drop i) i ∧
      σ = ⟨[(5, .one (.int .i64 q)), (1, .one (.str n)), (0, .one (.fs (xs.map eQ)))], [], []⟩) xs.length [5, 1, 0] [] rfl
    ⟨_, 0, rfl, by omega, by omega, by simp, rfl⟩ ?_
  rintro m σ ⟨q, i, rfl, hi, rfl, hidx, rfl⟩
  refine rn rfl ?_
  refine goal_cond rfl (fun h => ?_) (fun h => ?_) <;> (try simp only [gt_iff_lt, ge_iff_le, bne_iff_ne, ne_eq, bne_eq_false_iff_eq, beq_iff_eq, beq_eq_false_iff_ne, Bool.not_eq_true', Bool.not_eq_false', decide_eq_true_eq, decide_eq_false_iff_not, List.length_map] at h)
  · obtain ⟨p, hp⟩ := at_some (xs := xs) (i := i) (by omega)
    refine rn rfl ?_
    refine goal_did rfl rfl (dA_index (eQ p) rfl rfl rfl rfl rfl rfl rfl (by omega) (by (try simp); omega) (map_at (by simpa using hp)) rfl) ?_
    refine rn rfl ?_
    refine goal_cond rfl (fun h2 => ?_) (fun h2 => ?_) <;> (try simp only [gt_iff_lt, ge_iff_le, bne_iff_ne, ne_eq, bne_eq_false_iff_eq, beq_iff_eq, beq_eq_false_iff_ne, Bool.not_eq_true', Bool.not_eq_false', decide_eq_true_eq, decide_eq_false_iff_not, List.length_map] at h2)
    · refine rn rfl (round_ret (fin_is [] rfl ⟨?_, rfl⟩))
      rw [hidx, drop_at hp]; simp [idxI, qIs, h2]
    · refine rn rfl ?_
      refine round_keep (xs.length - (i + 1)) [5, 1, 0] [] (by omega) rfl ⟨_, i + 1, wrap64 (by omega) (by omega), by omega, rfl, ?_, rfl⟩
      rw [hidx, drop_at hp]; simp [idxI, qIs, h2]
  · refine rn rfl (round_ext ?_)
    refine rn rfl (fin_is [] rfl ⟨?_, rfl⟩)
    rw [hidx, List.drop_eq_nil_of_le (by omega)]; rfl

theorem kindAt_ct (xs : List Param) (n : Int) (hb : xs.length ≤ 9223372036854775807) :
    ACalls pk 64 [.one (.fs (xs.map eQ)), .one (.int .i64 n)] [] (fun r o => r = .one (.int .i64 (idxI (kIs n) xs 0)) ∧ o = []) := by
  refine acalls_of_body Tryz.func64 rfl (by kernel_rfl) rfl ?_
  refine rn rfl ?_
  refine goal_loop_keep (fun m σ => ∃ (q : Int) (i : Nat), q = i ∧ i ≤ xs.length ∧ m = xs.length - i ∧ idxI (kIs n) xs 0 = idxI (kIs n) (xs.drop i) i ∧
      σ = ⟨[(5, .one (.int .i64 q)), (1, .one (.int .i64 n)), (0, .one (.fs (xs.map eQ)))], [], []⟩) xs.length [5, 1, 0] [] rfl
    ⟨_, 0, rfl, by omega, by omega, by simp, rfl⟩ ?_
  rintro m σ ⟨q, i, rfl, hi, rfl, hidx, rfl⟩
  refine rn rfl ?_
  refine goal_cond rfl (fun h => ?_) (fun h => ?_) <;> (try simp only [gt_iff_lt, ge_iff_le, bne_iff_ne, ne_eq, bne_eq_false_iff_eq, beq_iff_eq, beq_eq_false_iff_ne, Bool.not_eq_true', Bool.not_eq_false', decide_eq_true_eq, decide_eq_false_iff_not, List.length_map] at h)
  · obtain ⟨p, hp⟩ := at_some (xs := xs) (i := i) (by omega)
    refine rn rfl ?_
    refine goal_did rfl rfl (dA_index (eQ p) rfl rfl rfl rfl rfl rfl rfl (by omega) (by (try simp); omega) (map_at (by simpa using hp)) rfl) ?_
    refine rn rfl ?_
    refine goal_cond rfl (fun h2 => ?_) (fun h2 => ?_) <;> (try simp only [gt_iff_lt, ge_iff_le, bne_iff_ne, ne_eq, bne_eq_false_iff_eq, beq_iff_eq, beq_eq_false_iff_ne, Bool.not_eq_true', Bool.not_eq_false', decide_eq_true_eq, decide_eq_false_iff_not, List.length_map] at h2)
    · refine rn rfl (round_ret (fin_is [] rfl ⟨?_, rfl⟩))
      rw [hidx, drop_at hp]; simp [idxI, kIs, h2]
    · refine rn rfl ?_
      refine round_keep (xs.length - (i + 1)) [5, 1, 0] [] (by omega) rfl ⟨_, i + 1, wrap64 (by omega) (by omega), by omega, rfl, ?_, rfl⟩
      rw [hidx, drop_at hp]; simp [idxI, kIs, h2]
  · refine rn rfl (round_ext ?_)
    refine rn rfl (fin_is [] rfl ⟨?_, rfl⟩)
    rw [hidx, List.drop_eq_nil_of_le (by omega)]; rfl

end Go.Proofs.YtkchcffmefbomaaGreatDoor
