/- Behind a call. -/
import Derived.Test.YtkjbjgndinjdpaaL
set_option linter.unusedVariables false
set_option linter.unusedSimpArgs false
namespace Go.Proofs.Ytkjbjgndinjdpaa
open Go
section
variable {X : Pk} {N np : Nat} {G : Ctx} {D : Nat → Prop} {e : List ALoc} {σ σ' : State} {a : Act} {w : World}

theorem lt_of_some {α : Type} {l : List α} {i : Nat} {x : α} (h : l[i]? = some x) : i < l.length := by
  rcases Nat.lt_or_ge i l.length with h' | h'
  · exact h'
  · rw [List.getElem?_eq_none h'] at h; cases h

theorem reO_esz {mp : Nat → Option Nat} {rn : Nat → Nat} {o : List (Option AObj)} {x ob : AObj} (h : renO rn (some x) = some ob) :
    ob.esz = x.esz ∧ ob.fz = x.fz ∧ ob.elems.length = x.elems.length ∧ ob.clean = x.clean ∧ (x.clean = true → ob.elems = x.elems) ∧ (x.clean = false → ob.elems = renR rn x.elems) := by
  obtain ⟨esz, elems, clean, fz, box⟩ := x
  cases clean with
  | true => simp only [renO, Option.some.injEq] at h; subst h; simp
  | false => simp only [renO, Option.some.injEq] at h; subst h; simp [renR_length]

theorem Rel.called (H : Rel N np G D e σ a w) {js : List Nat} (hnd : nodupB js = true) (hobj : ∀ id ∈ js, ∃ ob, σ.o[id]? = some (some ob) ∧ ob.fz = false)
    {w' : World} {D' : Nat → Prop} {e' : List ALoc} {o' : List (Option AObj)} (hsr : SR D' w'.heap e' o') (hext : Ext w (Wof (pickE e js)) w')
    (hnew : ∀ (id : Nat) (b : Addr) (esz cap n : Nat), e'[id]? = some (.live (some b) esz cap n) → Wof (pickE e js) b.block ∨ w.heap.size ≤ b.block)
    (hold : ∀ b, D' b → b < w.heap.size → D b) (hkeep : ∀ id, id < (pickE e js).length → e'[id]? = (pickE e js)[id]?) (hlen : (pickE e js).length ≤ o'.length) :
    ∃ D'' e'', Rel N np G D'' e'' ⟨σ.ρ, updJs (rnOf js σ.o.length) σ.o js o' ++ mapO (rnOf js σ.o.length) (dropN js.length o'), σ.k⟩ a w' ∧
      (∀ t v, TR D' w'.heap e' t v → TR D'' w'.heap e'' (renT (rnOf js σ.o.length) t) v) ∧ Pres (fun id => id ∈ js) D e w.heap D'' e'' w'.heap := by
  have hjl : (pickE e js).length = js.length := pickE_length e js
  rw [hjl] at hkeep hlen
  have hnd' := nodupB_spec hnd
  have hel := H.sr.len
  have hel' := hsr.len
  -- which of the caller's objects stands behind the callee's number j
  have hpick : ∀ (j id : Nat), js[j]? = some id → ∀ (l : ALoc), e[id]? = some l → (pickE e js)[j]? = some l := by
    intro j id hj l hl
    rw [pickE_get, hj]; simp [List.getD, hl]
  have hpe : ∀ (j id : Nat), js[j]? = some id → e'[j]? = e[id]? := by
    intro j id hj
    rw [hkeep j (lt_of_some hj)]
    obtain ⟨ob, ho, _⟩ := hobj id (List.mem_of_getElem? hj)
    obtain ⟨aa, cap, n, he, _⟩ := H.sr.objs id ob ho
    rw [he]; exact hpick j id hj _ he
  have hWof : ∀ b, Wof (pickE e js) b → ∃ (j id : Nat) (ad : Addr) (esz cap n : Nat), js[j]? = some id ∧ e[id]? = some (.live (some ad) esz cap n) ∧ ad.block = b := by
    rintro b ⟨j, ad, esz, cap, n, hj, hb⟩
    rw [pickE_get] at hj
    cases hi : js[j]? with
    | none => rw [hi] at hj; simp at hj
    | some id =>
      rw [hi] at hj
      simp only [Option.map_some, List.getD, Option.some.injEq] at hj
      cases hid : e[id]? with
      | none => rw [hid] at hj; simp at hj
      | some l => rw [hid] at hj; simp at hj; subst hj; exact ⟨j, id, ad, esz, cap, n, hi, hid, hb⟩
  have hWnD : ∀ b, Wof (pickE e js) b → ¬ D b := by
    intro b hb hD
    obtain ⟨j, id, ad, esz, cap, n, hj, he, rfl⟩ := hWof b hb
    obtain ⟨ob, ho, hf⟩ := hobj id (List.mem_of_getElem? hj)
    obtain ⟨ob', ho', hf'⟩ := (H.sr.own id ad _ _ _ he).2 hD
    rw [ho] at ho'; simp at ho'; subst ho'; rw [hf] at hf'; cases hf'
  let D'' : Nat → Prop := fun c => D c ∨ D' c
  let e'' : List ALoc := e ++ e'.drop js.length
  have hfx : Fixes D D'' w.heap w'.heap := fun c hc => ⟨.inl hc, hext.block c (H.sr.dom c hc) (fun hW => hWnD c hW hc)⟩
  have hfx' : Fixes D' D'' w'.heap w'.heap := fun c hc => ⟨.inr hc, rfl⟩
  have hle : Leads e e'' := leads_app e _
  have he''old : ∀ (id : Nat), id < e.length → e''[id]? = e[id]? := fun id hid => List.getElem?_append_left hid
  have he''new : ∀ (i : Nat), e''[e.length + i]? = e'[js.length + i]? := by
    intro i
    show (e ++ e'.drop js.length)[e.length + i]? = _
    rw [List.getElem?_append_right (by omega), List.getElem?_drop]; congr 1; omega
  -- the callee's numbers, renumbered
  have hren : ∀ (id : Nat) (l : ALoc), e'[id]? = some l → e''[rnOf js σ.o.length id]? = some l := by
    intro id l hl
    unfold rnOf
    split
    · rename_i id' hn
      rw [nth_eq] at hn
      have := hpe id id' hn
      rw [hl] at this
      rw [he''old id' (lt_of_some this.symm)]; exact this.symm
    · rename_i hn
      rw [nth_eq] at hn
      have hge : js.length ≤ id := by
        rcases Nat.lt_or_ge id js.length with h' | h'
        · rw [List.getElem?_eq_getElem h'] at hn; cases hn
        · exact h'
      rw [← hel, he''new, show js.length + (id - js.length) = id by omega]; exact hl
  have hTR : ∀ t v, TR D' w'.heap e' t v → TR D'' w'.heap e'' (renT (rnOf js σ.o.length) t) v := fun t v ht =>
    renT_spec hren t v (TR.mono hfx' (Leads.refl _) t v ht)
  have hWlt : ∀ b, Wof (pickE e js) b → b < w.heap.size := by
    intro b hb
    obtain ⟨j, id, ad, esz, cap, n, hj, he, rfl⟩ := hWof b hb
    exact (H.sr.own id ad _ _ _ he).1
  -- an object of the callee's, told to the caller
  have hobjs' : ∀ (j : Nat) (x ob : AObj), o'[j]? = some (some x) → renO (rnOf js σ.o.length) (some x) = some ob → ∃ aa cap n, e'[j]? = some (.live aa ob.esz cap n) ∧ ObjR D'' w'.heap e'' ob aa cap n := by
    intro j x ob hj hr
    obtain ⟨aa, cap, n, he, hn, hcl, hrest⟩ := hsr.objs j x hj
    obtain ⟨h1, h2, h3, h4, h5, h6⟩ := reO_esz (mp := fun _ => none) (o := []) hr
    refine ⟨aa, cap, n, by rw [h1]; exact he, by rw [h3]; exact hn, fun hc => ?_, ?_⟩
    · rw [h4] at hc; rw [h5 hc]; exact hcl hc
    · cases aa with
      | none =>
        obtain ⟨q1, q2⟩ := hrest
        refine ⟨?_, q2⟩
        have : ob.elems.length = 0 := by rw [h3, q1]; rfl
        exact List.eq_nil_of_length_eq_zero this
      | some b =>
        obtain ⟨q1, q2, cells, t, q3, q4, q5, q6⟩ := hrest
        refine ⟨q1, fun hf => .inr (q2 (h2 ▸ hf)), cells, t, q3, q4, by rw [h1]; exact q5, ?_⟩
        rw [h1]
        cases hc : x.clean with
        | true =>
          rw [h5 hc]
          exact CRr.mono hfx' _ _ (Leads.refl _) _ _ _ (CRr.env e' e'' _ _ _ (hcl hc) q6)
        | false =>
          rw [h6 hc]
          exact CRr.mono hfx' _ _ (Leads.refl _) _ _ _ (renR_spec hren _ _ _ q6)
  have holen : (updJs (rnOf js σ.o.length) σ.o js o').length = σ.o.length := updJs_length _ _ _ _
  refine ⟨D'', e'', ⟨H.hnp, by simp only [List.length_append, holen]; have := H.nple; omega, ?_, H.defers, H.size, fun t => TR.mono hfx hle _ _ (H.tmps t), ⟨?_, ?_, ?_, ?_, ?_⟩, ?_, ?_, ?_⟩, hTR, hfx, fun id hid b esz cap n he => ⟨by rw [he''old id (lt_of_some he)]; exact he, hext.block _ (H.sr.own id b _ _ _ he).1 (fun hW => by
    obtain ⟨j, id', ad, esz', cap', n', hj, he', hb⟩ := hWof _ hW
    have := H.sr.sep id' id ad b _ _ _ _ _ _ he' he hb
    subst this
    exact hid (List.mem_of_getElem? hj))⟩⟩
  · -- the frame
    refine ⟨hext.os.trans H.ext.os, hext.tape.trans H.ext.tape, hext.output.trans H.ext.output, Nat.le_trans H.ext.size hext.size, fun b hb hW => ?_⟩
    rw [hext.block b (by have := H.ext.size; omega) (fun hWb => ?_)]
    · exact H.ext.block b hb hW
    · obtain ⟨j, id, ad, esz, cap, n, hj, he, rfl⟩ := hWof b hWb
      rcases H.new id ad _ _ _ he with h' | h'
      · exact hW h'
      · omega
  · show (e ++ e'.drop js.length).length = _
    simp only [List.length_append, holen, mapO_length, dropN_eq, List.length_drop, hel, hel']
  · -- objects
    intro id ob hid
    simp only [List.getElem?_append, holen] at hid
    by_cases hlt : id < σ.o.length
    · rw [if_pos hlt, updJs_get _ _ _ _ _ hnd' hlen] at hid
      rw [he''old id (by rw [hel]; exact hlt)]
      cases hi : idxOf js id 0 with
      | some j =>
        rw [hi] at hid
        simp only [hlt, if_true] at hid
        have hj := (idxOf_spec hi).2
        simp only [Nat.sub_zero] at hj
        cases hx : o'[j]? with
        | none => rw [hx] at hid; simp at hid
        | some x =>
          rw [hx] at hid
          simp only [Option.map_some, Option.some.injEq] at hid
          cases x with
          | none => simp [renO] at hid
          | some x =>
            obtain ⟨aa, cap, n, he, hob⟩ := hobjs' j x ob hx hid
            exact ⟨aa, cap, n, by rw [← hpe j id hj]; exact he, hob⟩
      | none =>
        rw [hi] at hid
        simp only at hid
        obtain ⟨aa, cap, n, he, hn, hcl, hrest⟩ := H.sr.objs id ob hid
        refine ⟨aa, cap, n, he, hn, hcl, ?_⟩
        cases aa with
        | none => exact hrest
        | some b =>
          obtain ⟨q1, q2, cells, t, q3, q4, q5, q6⟩ := hrest
          have hblk : w'.heap[b.block]? = w.heap[b.block]? := hext.block _ (H.sr.own id b _ _ _ he).1 (fun hW => by
            obtain ⟨j, id', ad, esz, cap', n', hj, he', hb⟩ := hWof _ hW
            have := H.sr.sep id' id ad b _ _ _ _ _ _ he' he hb
            subst this
            obtain ⟨i, hi'⟩ := idxOf_some (m := 0) hj
            rw [hi] at hi'; cases hi')
          exact ⟨q1, fun hf => .inl (q2 hf), cells, t, by rw [hblk]; exact q3, q4, q5, CRr.mono hfx _ _ hle _ _ _ q6⟩
    · rw [if_neg hlt] at hid
      rw [mapO_get, dropN_eq, List.getElem?_drop] at hid
      cases hx : o'[js.length + (id - σ.o.length)]? with
      | none => rw [hx] at hid; simp at hid
      | some x =>
        rw [hx] at hid
        simp only [Option.map_some, Option.some.injEq] at hid
        cases x with
        | none => simp [renO] at hid
        | some x =>
          obtain ⟨aa, cap, n, he, hob⟩ := hobjs' _ x ob hx hid
          refine ⟨aa, cap, n, ?_, hob⟩
          rw [show id = e.length + (id - σ.o.length) by rw [hel]; omega, he''new]
          exact he
  · -- what is own is not read as data
    intro id b esz cap n he
    rcases Nat.lt_or_ge id e.length with hlt | hge
    · rw [he''old id hlt] at he
      have h1 := H.sr.own id b _ _ _ he
      refine ⟨Nat.lt_of_lt_of_le h1.1 hext.size, fun hD => ?_⟩
      have hDb : D b.block := by
        rcases hD with hD | hD
        · exact hD
        · exact hold _ hD h1.1
      obtain ⟨ob, ho, hf⟩ := h1.2 hDb
      refine ⟨ob, ?_, hf⟩
      simp only [List.getElem?_append, holen]
      rw [if_pos (lt_of_some ho), updJs_get _ _ _ _ _ hnd' hlen]
      cases hi : idxOf js id 0 with
      | none => exact ho
      | some j =>
        have hj := (idxOf_spec hi).2
        simp only [Nat.sub_zero] at hj
        obtain ⟨ob', ho', hf'⟩ := hobj id (List.mem_of_getElem? hj)
        rw [ho] at ho'; simp at ho'; subst ho'; rw [hf] at hf'; cases hf'
    · obtain ⟨i, rfl⟩ : ∃ i, id = e.length + i := ⟨id - e.length, by omega⟩
      rw [he''new] at he
      have h1 := hsr.own _ b _ _ _ he
      have hge' : w.heap.size ≤ b.block := by
        rcases hnew _ b _ _ _ he with hW | h'
        · obtain ⟨j, id', ad, esz', cap', n', hj, he', hb⟩ := hWof _ hW
          have hj' := hpe j id' hj
          rw [he'] at hj'
          have := hsr.sep j (js.length + i) ad b _ _ _ _ _ _ hj' he hb
          have := lt_of_some hj
          omega
        · exact h'
      refine ⟨h1.1, fun hD => ?_⟩
      rcases hD with hD | hD
      · have := H.sr.dom _ hD; omega
      · obtain ⟨x, hx, hf⟩ := h1.2 hD
        obtain ⟨esz', elems, clean, fz, box⟩ := x
        simp only at hf
        subst hf
        have hget : (updJs (rnOf js σ.o.length) σ.o js o' ++ mapO (rnOf js σ.o.length) (dropN js.length o'))[e.length + i]? = some (renO (rnOf js σ.o.length) (some ⟨esz', elems, clean, true, box⟩)) := by
          rw [List.getElem?_append_right (by rw [holen, hel]; omega), mapO_get, dropN_eq, List.getElem?_drop, holen, hel, show js.length + (σ.o.length + i - σ.o.length) = js.length + i by omega, hx]
          rfl
        cases clean with
        | true => exact ⟨⟨esz', elems, true, true, box⟩, hget, rfl⟩
        | false => exact ⟨⟨esz', _, false, true, box⟩, hget, rfl⟩
  · -- no two lie in one block
    intro id id' b b' esz cap n esz' cap' n' he he' hb
    have hnewge : ∀ (i : Nat) (b : Addr) (esz cap n : Nat), e'[js.length + i]? = some (.live (some b) esz cap n) → w.heap.size ≤ b.block := by
      intro i b esz cap n he
      rcases hnew _ b _ _ _ he with hW | h'
      · obtain ⟨j, id', ad, esz', cap', n', hj, he', hb⟩ := hWof _ hW
        have hj' := hpe j id' hj
        rw [he'] at hj'
        have := hsr.sep j (js.length + i) ad b _ _ _ _ _ _ hj' he hb
        have := lt_of_some hj
        omega
      · exact h'
    rcases Nat.lt_or_ge id e.length with hlt | hge <;> rcases Nat.lt_or_ge id' e.length with hlt' | hge'
    · rw [he''old id hlt] at he; rw [he''old id' hlt'] at he'
      exact H.sr.sep id id' b b' _ _ _ _ _ _ he he' hb
    · obtain ⟨i, rfl⟩ : ∃ i, id' = e.length + i := ⟨id' - e.length, by omega⟩
      rw [he''old id hlt] at he; rw [he''new] at he'
      have h1 := (H.sr.own id b _ _ _ he).1
      have h2 := hnewge i b' _ _ _ he'
      omega
    · obtain ⟨i, rfl⟩ : ∃ i, id = e.length + i := ⟨id - e.length, by omega⟩
      rw [he''old id' hlt'] at he'; rw [he''new] at he
      have h1 := (H.sr.own id' b' _ _ _ he').1
      have h2 := hnewge i b _ _ _ he
      omega
    · obtain ⟨i, rfl⟩ : ∃ i, id = e.length + i := ⟨id - e.length, by omega⟩
      obtain ⟨i', rfl⟩ : ∃ i, id' = e.length + i := ⟨id' - e.length, by omega⟩
      rw [he''new] at he he'
      have := hsr.sep _ _ b b' _ _ _ _ _ _ he he' hb
      omega
  · intro b hD
    rcases hD with hD | hD
    · exact Nat.lt_of_lt_of_le (H.sr.dom b hD) hext.size
    · exact hsr.dom b hD
  · intro id b esz cap n he
    rcases Nat.lt_or_ge id e.length with hlt | hge
    · rw [he''old id hlt] at he; exact H.new id b _ _ _ he
    · obtain ⟨i, rfl⟩ : ∃ i, id = e.length + i := ⟨id - e.length, by omega⟩
      rw [he''new] at he
      rcases hnew _ b _ _ _ he with hW | h'
      · obtain ⟨j, id', ad, esz', cap', n', hj, he', hb⟩ := hWof _ hW
        rw [← hb]; exact H.new id' ad _ _ _ he'
      · exact .inr (Nat.le_trans H.ext.size h')
  · intro b hD hlt
    rcases hD with hD | hD
    · exact H.old b hD hlt
    · exact H.old b (hold b hD (Nat.lt_of_lt_of_le hlt H.ext.size)) hlt
  · intro id hid
    have h1 := H.nple
    rw [he''old id (by rw [hel]; omega)]
    exact H.keep id hid
end
end Go.Proofs.Ytkjbjgndinjdpaa
