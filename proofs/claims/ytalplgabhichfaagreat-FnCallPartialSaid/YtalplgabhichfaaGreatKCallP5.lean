/- Part 5 of the proof: an abstract machine over the model; contracts of the functions that the law reaches. -/
import Derived.Test.YtalplgabhichfaaGreatKCallP4
set_option linter.unusedVariables false
set_option linter.unusedSimpArgs false
namespace Go.Proofs.YtalplgabhichfaaGreat
open Go
set_option maxRecDepth 100000
set_option maxHeartbeats 1000000

theorem sub_length {α : Type} [DecidableEq α] : ∀ (xs ys : List α), xs.Nodup → (∀ x ∈ xs, x ∈ ys) → xs.length ≤ ys.length
  | [], ys, _, _ => by simp
  | x :: xs, ys, hd, hm => by
    rw [List.nodup_cons] at hd
    have h1 := sub_length xs (ys.erase x) hd.2 fun y hy => by
      have hne : y ≠ x := fun h0 => hd.1 (h0 ▸ hy)
      exact (List.mem_erase_of_ne hne).2 (hm y (by simp [hy]))
    have h2 := List.length_erase_of_mem (hm x (by simp))
    have h3 : 0 < ys.length := List.length_pos_of_mem (hm x (by simp))
    simp only [List.length_cons]
    omega

theorem give_rest {s : Sig} {pl : List Int} {qs : List Pair} {i : Nat} {p : Param} (hk : p.kind = 2) : giveQ s pl qs i p = ⟨false, pl.drop (placesQ s), []⟩ := by
  unfold giveQ
  rw [if_neg (by omega)]
  have h1 : namedQ p = false := by simp [namedQ, hk]
  have h2 : placedQ p = false := by simp [placedQ, hk]
  rw [h1]
  simp [place1, h2, hk]

theorem give_single {s : Sig} {pl : List Int} {qs : List Pair} {i : Nat} {p : Param} (h : singleQ p = true) : giveQ s pl qs i p =
    if byPl pl i p then ⟨true, [pl.getD i 0], []⟩ else if namedQ p then (match qs.find? (nameIs p.name) with
      | some q => ⟨true, [q.value], []⟩
      | none => zL) else zL := by
  rw [single_kind] at h
  unfold giveQ
  rw [if_neg (by omega)]
  cases hb : byPl pl i p with
  | true =>
    have hb' := hb
    unfold byPl at hb'
    simp [place1, hb']
  | false =>
    cases hn : namedQ p with
    | true =>
      simp only [Bool.not_false, Bool.and_self, if_true, Bool.false_eq_true, if_false]
      cases qs.find? (nameIs p.name) <;> rfl
    | false =>
      have hb' := hb
      unfold byPl at hb'
      have h2 : (p.kind == 2) = false := by simp; omega
      simp [place1, hb', h2]

theorem give_shape {s : Sig} {pl : List Int} {qs : List Pair} {i : Nat} {p : Param} (h : singleQ p = true) :
    ((giveQ s pl qs i p).given = true → giveQ s pl qs i p = ⟨true, [hd0 (giveQ s pl qs i p).list], []⟩) ∧ ((giveQ s pl qs i p).given = false → giveQ s pl qs i p = zL) := by
  rw [give_single h]
  split
  · simp [hd0]
  · split
    · split
      · simp [hd0]
      · simp [zL]
    · simp [zL]

theorem give_vals {s : Sig} {f : Flat} (hf : OkF f) {i : Nat} {p : Param} : ∀ v ∈ (giveQ s f.places f.named i p).list, okVal v = true := by
  intro v hv
  unfold giveQ at hv
  split at hv
  · simp at hv
  · split at hv
    · split at hv
      · rename_i q hq
        simp only [List.mem_singleton] at hv
        subst hv
        have := hf.pairs q (List.mem_of_find?_eq_some hq)
        simp only [okPair, Bool.and_eq_true] at this
        exact this.2
      · simp [zL] at hv
    · unfold place1 at hv
      split at hv
      · rename_i h1
        simp only [Bool.and_eq_true, decide_eq_true_eq] at h1
        simp only [List.mem_singleton] at hv
        subst hv
        rw [List.getD_eq_getElem?_getD, List.getElem?_eq_getElem h1.2]
        exact hf.vals _ (List.getElem_mem h1.2)
      · split at hv
        · exact hf.vals v (List.mem_of_mem_drop hv)
        · simp [zL] at hv

section

variable {s : Sig} {f : Flat} {b : Bnds}

theorem Given.unb (h : Given s f b) : ∃ op V R X Y, UnbAt s b s.length (unbQ s b) op V R X Y := by
  obtain ⟨F, op, V, R, X, Y, hfold, I⟩ := h.unbAt s.length (Nat.le_refl _)
  refine ⟨op, V, R, X, Y, ?_⟩
  have : unbQ s b = F := by
    unfold unbQ
    rw [List.take_of_length_le (by simp [h.len])] at hfold
    rw [hfold]
  rw [this]; exact I

theorem Given.gap (h : Given s f b) {op : Bool} {V R : List Int} {X Y : List Pair} {F : Flat} (I : UnbAt s b s.length F op V R X Y) (hlt : V.length < placesQ s) :
    f.places.length ≤ V.length ∧ R = [] ∧ ∀ x, b[V.length]? = some x → x.given = false := by
  have hPl := placesQ_le s
  have ho : op = false := by
    cases ho : op with
    | false => rfl
    | true => have := I.opn ho; omega
  obtain ⟨a1, a2, a3⟩ := I.shut ho
  obtain ⟨q, hq⟩ := at_some (xs := s) (i := V.length) (by omega)
  have hpl := (h.sig.placed_iff hq).2 hlt
  have hg := a3 _ (h.get hq)
  rw [give_given (by rw [single_kind]; rw [placed_kind] at hpl; omega)] at hg
  simp only [Bool.or_eq_false_iff] at hg
  have hle : f.places.length ≤ V.length := by
    have := hg.1
    unfold byPl at this
    rw [hpl] at this
    simpa using this
  refine ⟨hle, ?_, a3⟩
  by_cases h2 : ∃ (j : Nat) (p : Param), s[j]? = some p ∧ p.kind = 2
  · obtain ⟨j, p, hp, hk⟩ := h2
    rw [I.rest j p _ (lt_of_some hp) hp (h.get hp) hk, give_rest hk]
    exact List.drop_eq_nil_of_le (by omega)
  · exact I.rest0 fun j p _ hp hk => h2 ⟨j, p, hp, hk⟩

theorem Given.mapOf (h : Given s f b) {op : Bool} {V R : List Int} {X Y : List Pair} {F : Flat} (I : UnbAt s b s.length F op V R X Y) {q : Pair} (hq : q ∈ Y) :
    ∃ (j : Nat) (p : Param), s[j]? = some p ∧ p.kind = 4 ∧ takesQ s q.name = (j : Int) ∧ q ∈ f.named := by
  by_cases h4 : ∃ (j : Nat) (p : Param), s[j]? = some p ∧ p.kind = 4
  · obtain ⟨j, p, hp, hk⟩ := h4
    have hY := I.map j p _ (lt_of_some hp) hp (h.get hp) hk
    unfold giveQ at hY
    rw [if_pos hk] at hY
    simp only at hY
    rw [hY, List.mem_filter] at hq
    exact ⟨j, p, hp, hk, by simpa using hq.2, hq.1⟩
  · have := I.map0 fun j p _ hp hk => h4 ⟨j, p, hp, hk⟩
    rw [this] at hq; cases hq

theorem Given.again (h : Given s f b) : Given s (unbQ s b) b := by
  obtain ⟨op, V, R, X, Y, I⟩ := h.unb
  have hPl := placesQ_le s
  have hsl := h.sig.len
  have hfp := h.flat.places
  have hfn := h.flat.named
  have hV : V.length ≤ placesQ s := by have := I.vlen; omega
  have gap := fun hlt => h.gap I hlt
  have xmem : ∀ q ∈ X, ∃ (j : Nat) (p : Param), s[j]? = some p ∧ namedQ p = true ∧ q.name = p.name ∧ (giveQ s f.places f.named j p).given = true ∧ (p.kind = 3 ∨ (p.kind = 1 ∧ V.length < j)) ∧ q.value = hd0 (giveQ s f.places f.named j p).list := fun q hq => by
    obtain ⟨j, p, x, _, hp, hx, hg, hk, rfl⟩ := (I.mem q).1 hq
    have := h.at hp hx
    subst this
    exact ⟨j, p, hp, named_kind.2 (by omega), rfl, hg, hk, rfl⟩
  have hRsub : ∀ v ∈ R, okVal v = true := fun v hv => by
    by_cases h2 : ∃ (j : Nat) (p : Param), s[j]? = some p ∧ p.kind = 2
    · obtain ⟨j, p, hp, hk⟩ := h2
      rw [I.rest j p _ (lt_of_some hp) hp (h.get hp) hk] at hv
      exact give_vals h.flat v hv
    · rw [I.rest0 fun j p _ hp hk => h2 ⟨j, p, hp, hk⟩] at hv; cases hv
  have hRlen : V.length + R.length ≤ 8 := by
    by_cases h2 : ∃ (j : Nat) (p : Param), s[j]? = some p ∧ p.kind = 2
    · obtain ⟨j, p, hp, hk⟩ := h2
      have hR := I.rest j p _ (lt_of_some hp) hp (h.get hp) hk
      rw [give_rest hk] at hR
      have : R.length = f.places.length - placesQ s := by rw [hR]; simp
      omega
    · rw [I.rest0 fun j p _ hp hk => h2 ⟨j, p, hp, hk⟩]; simp; omega
  have hdis : ∀ q ∈ X, ∀ r ∈ Y, q.name ≠ r.name := fun q hq r hr he => by
    obtain ⟨j, p, hp, hn, hqn, _⟩ := xmem q hq
    obtain ⟨k, p', hp', hk', ht, _⟩ := h.mapOf I hr
    have := takes_named h.sig hp hn
    rw [← hqn, he, ht] at this
    have hjk : k = j := by omega
    subst hjk
    rw [hp] at hp'; cases hp'
    rw [named_kind] at hn; omega
  have hYnd : (namesOf Y).Nodup := by
    by_cases h4 : ∃ (j : Nat) (p : Param), s[j]? = some p ∧ p.kind = 4
    · obtain ⟨j, p, hp, hk⟩ := h4
      have hY := I.map j p _ (lt_of_some hp) hp (h.get hp) hk
      unfold giveQ at hY
      rw [if_pos hk] at hY
      simp only at hY
      rw [hY]
      exact h.flat.nodup.sublist (List.filter_sublist.map _)
    · rw [I.map0 fun j p _ hp hk => h4 ⟨j, p, hp, hk⟩]; simp [namesOf]
  have hnd : (namesOf (X ++ Y)).Nodup := by
    unfold namesOf
    rw [List.map_append]
    refine List.nodup_append.2 ⟨I.nodup, hYnd, fun a ha c hc he => ?_⟩
    obtain ⟨q, hq, rfl⟩ := List.mem_map.1 ha
    obtain ⟨r, hr, rfl⟩ := List.mem_map.1 hc
    exact hdis q hq r hr he
  have xnamed : ∀ q ∈ X, q.name ∈ namesOf f.named := fun q hq => by
    obtain ⟨j, p, hp, hn, hqn, hg, hk, _⟩ := xmem q hq
    rw [give_given (single_kind.2 (by omega))] at hg
    simp only [Bool.or_eq_true, Bool.and_eq_true] at hg
    rcases hg with hg | hg
    · exfalso
      simp only [byPl, Bool.and_eq_true, decide_eq_true_eq] at hg
      have hjP := (h.sig.placed_iff hp).1 hg.1
      rcases hk with hk | ⟨hk, hl⟩
      · have := hg.1; rw [placed_kind] at this; omega
      · have := (gap (by omega)).1; omega
    · rw [hqn]; exact any_names.1 hg.2
  have hU : OkF (unbQ s b) := by
    refine ⟨fun q hq => ?_, by rw [I.named]; exact hnd, fun v hv => ?_, by rw [I.places, List.length_append]; exact hRlen, ?_⟩
    · rw [I.named] at hq
      rcases List.mem_append.1 hq with hq | hq
      · obtain ⟨j, p, hp, hn, hqn, hg, hk, hv⟩ := xmem q hq
        have h1 := h.sig.okName (List.mem_of_getElem? hp)
        have h2 := (give_shape (s := s) (pl := f.places) (qs := f.named) (i := j) (p := p) (single_kind.2 (by omega))).1 hg
        have h3 := give_vals (s := s) h.flat (i := j) (p := p) (hd0 (giveQ s f.places f.named j p).list) (by rw [h2]; simp [hd0])
        simp [okPair, hqn, h1, hv, h3]
      · obtain ⟨_, _, _, _, _, hm⟩ := h.mapOf I hq
        exact h.flat.pairs q hm
    · rw [I.places] at hv
      rcases List.mem_append.1 hv with hv | hv
      · obtain ⟨j, hj⟩ := List.getElem?_of_mem hv
        have hjl := lt_of_some hj
        obtain ⟨p, hp⟩ := at_some (xs := s) (i := j) (by omega)
        obtain ⟨a1, a2⟩ := I.vals j _ hjl (h.get hp)
        have hpl := (h.sig.placed_iff hp).2 (by omega)
        have hsg : singleQ p = true := by rw [single_kind]; rw [placed_kind] at hpl; omega
        have h2 := (give_shape (s := s) (pl := f.places) (qs := f.named) (i := j) (p := p) hsg).1 a1
        rw [hj] at a2
        cases a2
        exact give_vals (s := s) h.flat (i := j) (p := p) _ (by rw [h2]; simp [hd0])
      · exact hRsub v hv
    · rw [I.named]
      have := sub_length (namesOf (X ++ Y)) (namesOf f.named) hnd fun n hn => by
        unfold namesOf at hn
        rw [List.map_append] at hn
        rcases List.mem_append.1 hn with hn | hn
        · obtain ⟨q, hq, rfl⟩ := List.mem_map.1 hn
          exact xnamed q hq
        · obtain ⟨q, hq, rfl⟩ := List.mem_map.1 hn
          obtain ⟨_, _, _, _, _, hm⟩ := h.mapOf I hq
          exact List.mem_map_of_mem hm
      simp only [namesOf, List.length_map] at this
      omega
  have hplU : ∀ (i : Nat) (p : Param), s[i]? = some p → placedQ p = true → (i < (unbQ s b).places.length ↔ i < V.length) := fun i p hp hpl => by
    have hiP := (h.sig.placed_iff hp).1 hpl
    rw [I.places, List.length_append]
    constructor
    · intro hi
      refine Classical.byContradiction fun hc => ?_
      have := (gap (by omega)).2.1
      rw [this] at hi
      simp at hi; omega
    · omega
  have hB : ∀ (i : Nat) (p : Param), s[i]? = some p → giveQ s (unbQ s b).places (unbQ s b).named i p = giveQ s f.places f.named i p := fun i p hp => by
    have hkr := h.sig.kindRange (List.mem_of_getElem? hp)
    by_cases hk4 : p.kind = 4
    · have hY := I.map i p _ (lt_of_some hp) hp (h.get hp) hk4
      have e1 : ∀ qs pl, giveQ s pl qs i p = ⟨false, [], qs.filter fun q => takesQ s q.name == (i : Int)⟩ := fun qs pl => by unfold giveQ; rw [if_pos hk4]
      rw [e1] at hY
      simp only at hY
      rw [e1, e1, I.named, List.filter_append]
      have hX : X.filter (fun q => takesQ s q.name == (i : Int)) = [] := by
        rw [List.filter_eq_nil_iff]
        intro q hq ht
        obtain ⟨j, r, hr, hn, hqn, _⟩ := xmem q hq
        have := takes_named h.sig hr hn
        rw [← hqn] at this
        simp only [beq_iff_eq] at ht
        have hij : i = j := by omega
        subst hij
        rw [hp] at hr; cases hr
        rw [named_kind] at hn; omega
      rw [hX, List.nil_append, hY, List.filter_filter]
      simp
    by_cases hk2 : p.kind = 2
    · have hR := I.rest i p _ (lt_of_some hp) hp (h.get hp) hk2
      rw [give_rest hk2] at hR
      simp only at hR
      rw [give_rest hk2, give_rest hk2, I.places, ← hR]
      congr 1
      by_cases hlt : V.length < placesQ s
      · rw [(gap hlt).2.1, List.append_nil]; exact List.drop_eq_nil_of_le (by omega)
      · rw [show placesQ s = V.length by omega, List.drop_left]
    have hsg : singleQ p = true := single_kind.2 (by omega)
    have hsh := give_shape (s := s) (pl := f.places) (qs := f.named) (i := i) (p := p) hsg
    have hget := h.get hp
    generalize giveQ s f.places f.named i p = g at hsh hget ⊢
    rw [give_single hsg]
    by_cases hb : byPl (unbQ s b).places i p = true
    · rw [if_pos hb]
      simp only [byPl, Bool.and_eq_true, decide_eq_true_eq] at hb
      have hiV := (hplU i p hp hb.1).1 hb.2
      obtain ⟨a1, a2⟩ := I.vals i g hiV hget
      rw [hsh.1 a1]
      have : (unbQ s b).places.getD i 0 = hd0 g.list := by
        rw [List.getD_eq_getElem?_getD, I.places, List.getElem?_append_left hiV, a2]; rfl
      rw [this]
    · rw [if_neg hb]
      have hnV : placedQ p = true → V.length ≤ i := fun hpl => Nat.le_of_not_lt fun h0 => hb (by
        simp only [byPl, Bool.and_eq_true, decide_eq_true_eq]; exact ⟨hpl, (hplU i p hp hpl).2 h0⟩)
      have hgap : placedQ p = true → g.given = true → V.length < i := fun hpl hg => by
        have h1 := hnV hpl
        have hiP := (h.sig.placed_iff hp).1 hpl
        have h2 := (gap (by omega)).2.2
        refine Classical.byContradiction fun hc => ?_
        have : i = V.length := by omega
        have := h2 g (by rw [← this]; exact hget)
        rw [hg] at this; cases this
      cases hg : g.given with
      | true =>
        have hk : p.kind = 3 ∨ (p.kind = 1 ∧ V.length < i) := by
          by_cases hk3 : p.kind = 3
          · exact .inl hk3
          · have hpl : placedQ p = true := by rw [placed_kind]; rw [single_kind] at hsg; omega
            have hVi := hgap hpl hg
            refine .inr ⟨?_, hVi⟩
            refine Classical.byContradiction fun hk1 => ?_
            have hk0 : p.kind = 0 := by rw [placed_kind] at hpl; omega
            have hiP := (h.sig.placed_iff hp).1 hpl
            obtain ⟨q, hq⟩ := at_some (xs := s) (i := V.length) (by omega)
            have hgi : (giveQ s f.places f.named i p).given = true := by rw [← h.at hp hget]; exact hg
            have hgq := h.before hp hq hk0 hVi hgi
            have := (gap (by omega)).2.2 _ (h.get hq)
            rw [hgq] at this; cases this
        have hn : namedQ p = true := named_kind.2 (by omega)
        rw [if_pos hn]
        have hm : (⟨p.name, hd0 g.list⟩ : Pair) ∈ X := (I.mem _).2 ⟨i, p, g, lt_of_some hp, hp, hget, hg, hk, rfl⟩
        have hf := find_uniq (qs := (unbQ s b).named) (q := ⟨p.name, hd0 g.list⟩) hU.nodup (by rw [I.named]; exact List.mem_append_left _ hm)
        simp only at hf
        rw [hf]
        exact (hsh.1 hg).symm
      | false =>
        rw [hsh.2 hg]
        split
        · rename_i hn
          have : (unbQ s b).named.find? (nameIs p.name) = none := by
            rw [List.find?_eq_none]
            intro q hq hqn
            simp only [nameIs, beq_iff_eq] at hqn
            rw [I.named] at hq
            rcases List.mem_append.1 hq with hq | hq
            · obtain ⟨j, r, x, _, hr, hx, hgx, _, rfl⟩ := (I.mem q).1 hq
              have hji := name_inj h.sig hr hp hqn
              subst hji
              rw [hget] at hx; cases hx
              rw [hg] at hgx; cases hgx
            · obtain ⟨j, r, hr, hk, ht, _⟩ := h.mapOf I hq
              have := takes_named h.sig hp hn
              rw [← hqn, ht] at this
              have hji : j = i := by omega
              subst hji
              rw [hp] at hr; cases hr
              exact hk4 hk
          rw [this]
        · rfl
  have hacc : accQ s (unbQ s b) = true := by
    have hf3 := ((acc_iff h.sig h.flat).1 h.acc).2.2
    refine (acc_iff h.sig hU).2 ⟨fun hlt => ?_, fun q hq => ?_, ?_⟩
    · by_cases h2 : ∃ (j : Nat) (p : Param), s[j]? = some p ∧ p.kind = 2
      · obtain ⟨j, p, hp, hk⟩ := h2
        exact List.any_eq_true.2 ⟨p, List.mem_of_getElem? hp, by simp [kIs, hk]⟩
      · have hR := I.rest0 fun j p _ hp hk => h2 ⟨j, p, hp, hk⟩
        rw [I.places, hR] at hlt
        simp at hlt; omega
    · rw [wrong_iff2 h.sig]
      rw [I.named] at hq
      rcases List.mem_append.1 hq with hq | hq
      · obtain ⟨j, p, hp, hn, hqn, hg, hk, hv⟩ := xmem q hq
        refine ⟨.inl ⟨j, p, hp, hn, hqn.symm⟩, fun i r hr hrn hre => ?_⟩
        have hij := name_inj h.sig hr hp (by rw [hre, hqn])
        subst hij
        rw [hp] at hr; cases hr
        unfold byPl
        cases hpl : placedQ p with
        | false => rfl
        | true =>
          simp only [Bool.true_and, decide_eq_false_iff_not]
          rw [hplU i p hp hpl]
          rcases hk with hk | ⟨hk, hl⟩
          · rw [placed_kind] at hpl; omega
          · omega
      · obtain ⟨j, r, hr, hk, ht, _⟩ := h.mapOf I hq
        refine ⟨.inr ⟨r, List.mem_of_getElem? hr, hk⟩, fun i p hp hn he => ?_⟩
        have := takes_named h.sig hp hn
        rw [he, ht] at this
        have hji : j = i := by omega
        subst hji
        rw [hp] at hr; cases hr
        rw [named_kind] at hn; omega
    · have : s.mapIdx (giveQ s (unbQ s b).places (unbQ s b).named) = s.mapIdx (giveQ s f.places f.named) := by
        apply List.ext_getElem?
        intro i
        rw [List.getElem?_mapIdx, List.getElem?_mapIdx]
        cases hp : s[i]? with
        | none => rfl
        | some p => simp only [Option.map_some, hB i p hp]
      rw [this]; exact hf3
  refine ⟨h.sig, hU, hacc, ?_⟩
  rw [bound_closed h.sig hU.nodup]
  apply List.ext_getElem?
  intro i
  simp only [closedQ, List.getElem?_mapIdx]
  cases hp : s[i]? with
  | none =>
    have : s.length ≤ i := by rw [List.getElem?_eq_none_iff] at hp; exact hp
    rw [List.getElem?_eq_none (by rw [h.len]; exact this)]; rfl
  | some p => simp only [Option.map_some, hB i p hp, h.get hp]

end

theorem indexP2_ct (xs : List Pair) (hb : xs.length ≤ 9223372036854775807) (pred : Pair → Bool) (f : FuncId) (cs ds : List C)
    (hcl : ∀ p, ACalls pk f [.agg (eP p), .one (.fp cs), .one (.fp ds)] [] (fun r o => r = .one (.bool (pred p)) ∧ o = [])) :
    ACalls pk 212 [.one (.fs (xs.map eP)), .one (.fn f [.fp cs, .fp ds])] [] (fun r o => r = .one (.int .i64 (idxI pred xs 0)) ∧ o = []) := by
  refine acalls_of_body Tryz.func212 rfl (by kernel_rfl) rfl ?_
  refine rn rfl ?_
  refine goal_loop_keep (fun m σ => ∃ (n L : Int) (i : Nat), n = i ∧ L = xs.length ∧ i ≤ xs.length ∧ m = xs.length - i ∧ idxI pred xs 0 = idxI pred (xs.drop i) i ∧
      σ = ⟨[(8, .one (.int .i64 n)), (7, .one (.int .i64 L)), (1, .one (.fn f [.fp cs, .fp ds])), (0, .one (.fs (xs.map eP)))], [], []⟩) xs.length [8, 7, 1, 0] [] rfl
    ⟨_, _, 0, rfl, by simp, by omega, by omega, by simp, rfl⟩ ?_
  rintro m σ ⟨n, L, i, rfl, rfl, hi, rfl, hidx, rfl⟩
  refine rn rfl ?_
  refine goal_cond rfl (fun h => ?_) (fun h => ?_) <;> (try simp only [gt_iff_lt, ge_iff_le, bne_iff_ne, ne_eq, bne_eq_false_iff_eq, beq_iff_eq, beq_eq_false_iff_ne, Bool.not_eq_true', Bool.not_eq_false', decide_eq_true_eq, decide_eq_false_iff_not, List.length_map] at h)
  · obtain ⟨p, hp⟩ := at_some (xs := xs) (i := i) (by omega)
    refine rn rfl ?_
    refine goal_did rfl rfl (dA_index (eP p) rfl rfl rfl rfl rfl rfl rfl (by omega) (by (try simp); omega) (map_at (by simpa using hp)) rfl) ?_
    refine rn rfl ?_
    refine goal_step (step_call [] rfl rfl rfl rfl rfl rfl (hcl p)) ?_
    rintro σ2 ⟨r, o', ⟨rfl, rfl⟩, hσ⟩
    obtain rfl := Option.some.inj hσ
    clear hσ
    refine rn rfl ?_
    refine goal_cond rfl (fun h2 => ?_) (fun h2 => ?_)
    · refine rn rfl (round_ret (fin_is [] rfl ⟨?_, rfl⟩))
      rw [hidx, drop_at hp]; simp [idxI, h2]
    · refine rn rfl ?_
      refine round_keep (xs.length - (i + 1)) [8, 7, 1, 0] [] (by omega) rfl ⟨_, _, i + 1, wrap64 (by omega) (by omega), rfl, by omega, rfl, ?_, rfl⟩
      rw [hidx, drop_at hp]; simp [idxI, h2]
  · refine rn rfl (round_ext ?_)
    refine rn rfl (fin_is [] rfl ⟨?_, rfl⟩)
    rw [hidx, List.drop_eq_nil_of_le (by omega)]; rfl

theorem containsP2_ct (xs : List Pair) (hb : xs.length ≤ 9223372036854775807) (pred : Pair → Bool) (f : FuncId) (cs ds : List C)
    (hcl : ∀ p, ACalls pk f [.agg (eP p), .one (.fp cs), .one (.fp ds)] [] (fun r o => r = .one (.bool (pred p)) ∧ o = [])) :
    ACalls pk 167 [.one (.fs (xs.map eP)), .one (.fn f [.fp cs, .fp ds])] [] (fun r o => r = .one (.bool (xs.any pred)) ∧ o = []) := by
  refine acalls_of_body Tryz.func167 rfl (by kernel_rfl) rfl ?_
  refine rn rfl ?_
  refine goal_step (step_call [] rfl rfl rfl rfl rfl rfl (indexP2_ct xs hb pred f cs ds hcl)) ?_
  rintro σ2 ⟨r, o', ⟨rfl, rfl⟩, hσ⟩
  obtain rfl := Option.some.inj hσ
  clear hσ
  refine rn rfl ?_
  refine rn rfl (fin_is [] rfl ⟨?_, rfl⟩)
  congr 1; congr 1
  have := idxI_ge (pred := pred) (xs := xs) (i := 0)
  cases h : xs.any pred with
  | true => simp [this.2 h]
  | false => rw [idxI_none.2 h]; rfl

def slotOk (s : Sig) (i : Nat) (p : Param) (x : Slot) : Bool :=
  if p.kind = 2 then !x.given && decide (x.pairs = [])
  else if p.kind = 4 then !x.given && decide (x.list = []) && !x.pairs.any (fun q => takesQ s q.name != (i : Int))
  else if x.given then decide (x.list.length = 1) && decide (x.pairs = [])
  else p.hasD && decide (x.list = []) && decide (x.pairs = [])

def slotAt (s : Sig) (b : Bnds) (i : Nat) : Bool := match s[i]?, b[i]? with
  | some p, some x => slotOk s i p x
  | _, _ => true

def VBi (s : Sig) (b : Bnds) : Bool := okSig s && (decide (b.length = s.length) && ((List.range b.length).all (slotAt s b) && ((BindQ s (unbQ s b)).2 && sameB (BindQ s (unbQ s b)).1 b)))

theorem nil_zero {α : Type} (xs : List α) : (((xs.length : Nat) : Int) == 0) = decide (xs = []) := by
  cases xs with
  | nil => rfl
  | cons x xs =>
    have : ¬ (((x :: xs).length : Nat) : Int) = 0 := by simp only [List.length_cons]; omega
    rw [beq_eq_false_iff_ne.2 this]; simp

theorem slotC_ct (s : Sig) (i : Nat) (q : Pair) (hl : s.length ≤ 1048576) : ACalls pk 168 [.agg (eP q), .one (.fp [.fs (s.map eQ)]), .one (.fp [.int .i64 i])] [] (fun r o => r = .one (.bool (takesQ s q.name != (i : Int))) ∧ o = []) := by
  refine acalls_of_body Tryz.func168 rfl (by kernel_rfl) rfl ?_
  refine rn rfl ?_
  refine goal_draw' [0] 7 rfl ?_
  refine drn [0, 1, 2, 4] (by kernel_rfl) (by kernel_rfl) rfl rfl ?_
  refine AH_one (i := 3) (by kernel_rfl) (step_call [] rfl rfl rfl rfl rfl rfl (itakes_ct s q.name (by omega))) (by simp) ?_
  rintro σ2 ⟨r, o', ⟨rfl, rfl⟩, hσ⟩
  obtain rfl := Option.some.inj hσ
  clear hσ
  refine drn [5, 6] (by kernel_rfl) (by kernel_rfl) rfl rfl ?_
  refine AH_end (by kernel_rfl) ?_
  refine rn rfl ?_
  exact rn rfl (fin_is [] rfl ⟨rfl, rfl⟩)

theorem slotValid_ct (s : Sig) (i : Nat) (p : Param) (x : Slot) (hp : s[i]? = some p) (hl : s.length ≤ 1048576) (hkr : 0 ≤ p.kind ∧ p.kind ≤ 4) (h1 : x.list.length ≤ 1048576) (h2 : x.pairs.length ≤ 1048576) :
    ACalls pk 98 [.agg (eG s), .one (.int .i64 i), .agg (eL x)] [] (fun r o => r = .one (.bool (slotOk s i p x)) ∧ o = []) := by
  have hil := lt_of_some hp
  refine acalls_of_body Tryz.func98 rfl (by kernel_rfl) rfl ?_
  refine rn rfl ?_
  refine goal_did rfl rfl (dA_index (eQ p) rfl rfl rfl rfl rfl rfl rfl (by omega) (by (try simp); omega) (map_at (by simpa using hp)) rfl) ?_
  refine rn rfl ?_
  refine goal_cond rfl (fun hk2 => ?_) (fun hk2 => ?_) <;> (try simp only [gt_iff_lt, ge_iff_le, bne_iff_ne, ne_eq, bne_eq_false_iff_eq, beq_iff_eq, beq_eq_false_iff_ne, Bool.not_eq_true', Bool.not_eq_false', decide_eq_true_eq, decide_eq_false_iff_not, List.length_map] at hk2)
  · refine rn rfl ?_
    refine goal_guard rfl rfl rfl (fun hg => ?_) (fun hg => ?_) <;> (try simp only [gt_iff_lt, ge_iff_le, bne_iff_ne, ne_eq, bne_eq_false_iff_eq, beq_iff_eq, beq_eq_false_iff_ne, Bool.not_eq_true', Bool.not_eq_false', decide_eq_true_eq, decide_eq_false_iff_not, List.length_map] at hg)
    · refine rn rfl ?_
      refine rn rfl (fin_is [] rfl ⟨?_, rfl⟩)
      simp [slotOk, hk2, hg, nil_zero]
    · refine rn rfl (fin_is [] rfl ⟨?_, rfl⟩)
      simp [slotOk, hk2, hg]
  · refine rn rfl ?_
    refine goal_cond rfl (fun hk4 => ?_) (fun hk4 => ?_) <;> (try simp only [gt_iff_lt, ge_iff_le, bne_iff_ne, ne_eq, bne_eq_false_iff_eq, beq_iff_eq, beq_eq_false_iff_ne, Bool.not_eq_true', Bool.not_eq_false', decide_eq_true_eq, decide_eq_false_iff_not, List.length_map] at hk4)
    · refine rn rfl ?_
      refine goal_guard rfl rfl rfl (fun hg => ?_) (fun hg => ?_) <;> (try simp only [gt_iff_lt, ge_iff_le, bne_iff_ne, ne_eq, bne_eq_false_iff_eq, beq_iff_eq, beq_eq_false_iff_ne, Bool.not_eq_true', Bool.not_eq_false', decide_eq_true_eq, decide_eq_false_iff_not, List.length_map] at hg)
      · refine rn rfl ?_
        refine goal_guard rfl rfl rfl (fun hl0 => ?_) (fun hl0 => ?_) <;> (try simp only [gt_iff_lt, ge_iff_le, bne_iff_ne, ne_eq, bne_eq_false_iff_eq, beq_iff_eq, beq_eq_false_iff_ne, Bool.not_eq_true', Bool.not_eq_false', decide_eq_true_eq, decide_eq_false_iff_not, List.length_map] at hl0)
        · have hl1 : x.list = [] := by cases hx : x.list with
            | nil => rfl
            | cons a l => rw [hx] at hl0; simp at hl0; omega
          refine rn rfl ?_
          refine goal_step (step_call [] rfl rfl rfl rfl rfl rfl (containsP2_ct x.pairs (by omega) (fun q => takesQ s q.name != (i : Int)) _ [.fs (s.map eQ)] [.int .i64 i] (fun q => slotC_ct s i q hl))) ?_
          rintro σ2 ⟨r, o', ⟨rfl, rfl⟩, hσ⟩
          obtain rfl := Option.some.inj hσ
          clear hσ
          refine rn rfl ?_
          refine rn rfl (fin_is [] rfl ⟨?_, rfl⟩)
          simp [slotOk, hk2, hk4, hg, hl1]
        · have hl1 : x.list ≠ [] := fun h0 => by rw [h0] at hl0; simp at hl0
          refine rn rfl (fin_is [] rfl ⟨?_, rfl⟩)
          simp [slotOk, hk2, hk4, hg, hl1]
      · refine rn rfl (fin_is [] rfl ⟨?_, rfl⟩)
        simp [slotOk, hk2, hk4, hg]
    · refine rn rfl ?_
      refine goal_cond rfl (fun hg => ?_) (fun hg => ?_) <;> (try simp only [gt_iff_lt, ge_iff_le, bne_iff_ne, ne_eq, bne_eq_false_iff_eq, beq_iff_eq, beq_eq_false_iff_ne, Bool.not_eq_true', Bool.not_eq_false', decide_eq_true_eq, decide_eq_false_iff_not, List.length_map] at hg)
      · refine rn rfl ?_
        refine goal_guard rfl rfl rfl (fun hl0 => ?_) (fun hl0 => ?_) <;> (try simp only [gt_iff_lt, ge_iff_le, bne_iff_ne, ne_eq, bne_eq_false_iff_eq, beq_iff_eq, beq_eq_false_iff_ne, Bool.not_eq_true', Bool.not_eq_false', decide_eq_true_eq, decide_eq_false_iff_not, List.length_map] at hl0)
        · have hl1 : x.list.length = 1   := by omega
          refine rn rfl (fin_is [] rfl ⟨?_, rfl⟩)
          simp [slotOk, hk2, hk4, hg, hl1, nil_zero]
        · have hl1 : x.list.length ≠ 1   := by omega
          refine rn rfl (fin_is [] rfl ⟨?_, rfl⟩)
          simp [slotOk, hk2, hk4, hg, hl1]
      · refine rn rfl ?_
        refine goal_guard rfl rfl rfl (fun hd => ?_) (fun hd => ?_) <;> (try simp only [gt_iff_lt, ge_iff_le, bne_iff_ne, ne_eq, bne_eq_false_iff_eq, beq_iff_eq, beq_eq_false_iff_ne, Bool.not_eq_true', Bool.not_eq_false', decide_eq_true_eq, decide_eq_false_iff_not, List.length_map] at hd)
        · refine rn rfl ?_
          refine goal_guard rfl rfl rfl (fun hl0 => ?_) (fun hl0 => ?_) <;> (try simp only [gt_iff_lt, ge_iff_le, bne_iff_ne, ne_eq, bne_eq_false_iff_eq, beq_iff_eq, beq_eq_false_iff_ne, Bool.not_eq_true', Bool.not_eq_false', decide_eq_true_eq, decide_eq_false_iff_not, List.length_map] at hl0)
          · have hl1 : x.list = [] := by cases hx : x.list with
              | nil => rfl
              | cons a l => rw [hx] at hl0; simp at hl0; omega
            refine rn rfl (fin_is [] rfl ⟨?_, rfl⟩)
            simp [slotOk, hk2, hk4, hg, hd, hl1, nil_zero]
          · have hl1 : x.list ≠ [] := fun h0 => by rw [h0] at hl0; simp at hl0
            refine rn rfl (fin_is [] rfl ⟨?_, rfl⟩)
            simp [slotOk, hk2, hk4, hg, hd, hl1]
        · refine rn rfl (fin_is [] rfl ⟨?_, rfl⟩)
          simp [slotOk, hk2, hk4, hg, hd]

structure SmallB (b : Bnds) : Prop where
  len : b.length ≤ 1048576
  size : ∀ x ∈ b, x.list.length ≤ 1000 ∧ x.pairs.length ≤ 12
  names : ∀ x ∈ b, ∀ q ∈ x.pairs, q.name.length ≤ 9223372036854775807

theorem slots_okB {s : Sig} {b : Bnds} (hs : OkS s) (hb : SmallB b) (hlen : b.length = s.length) (hall : ∀ j, j < b.length → slotAt s b j = true) : OkB s b := by
  refine ⟨hlen, hs.len, fun p hp => hs.kindRange hp, fun i p x hp hx hsg hg => ?_, fun x hx => ⟨(hb.size x hx).1, by have := (hb.size x hx).2; omega⟩⟩
  have := hall i (lt_of_some hx)
  unfold slotAt slotOk at this
  rw [hp, hx] at this
  rw [single_kind] at hsg
  simp only at this
  rw [if_neg (by omega), if_neg (by omega), if_pos hg] at this
  simp only [Bool.and_eq_true, decide_eq_true_eq] at this
  exact List.length_eq_one_iff.1 this.1

theorem unb_names {s : Sig} {b : Bnds} (hs : ∀ p ∈ s, p.name.length ≤ 9223372036854775807) (hb : ∀ x ∈ b, ∀ q ∈ x.pairs, q.name.length ≤ 9223372036854775807) : ∀ q ∈ (unbQ s b).named, q.name.length ≤ 9223372036854775807 := by
  have key : ∀ (zs : List (Param × Slot)) (st : Flat × Bool), (∀ z ∈ zs, z.1 ∈ s ∧ z.2 ∈ b) → (∀ q ∈ st.1.named, q.name.length ≤ 9223372036854775807) → ∀ q ∈ (zs.foldl stU st).1.named, q.name.length ≤ 9223372036854775807 := by
    intro zs
    induction zs with
    | nil => intro st _ h; exact h
    | cons z zs ih =>
      intro st hz h
      rw [List.foldl_cons]
      refine ih _ (fun y hy => hz y (by simp [hy])) fun q hq => ?_
      obtain ⟨hz1, hz2⟩ := hz z (by simp)
      unfold stU at hq
      split at hq
      · exact h q hq
      · split at hq
        · simp only [List.mem_append] at hq
          rcases hq with hq | hq
          · exact h q hq
          · exact hb _ hz2 q hq
        · split at hq
          · exact h q hq
          · split at hq
            · exact h q hq
            · simp only [List.mem_append, List.mem_singleton] at hq
              rcases hq with hq | rfl
              · exact h q hq
              · exact hs _ hz1
  exact key (s.zip b) (zF, true) (fun z hz => List.of_mem_zip hz) (by simp [zF])

theorem unb_lenF {s : Sig} {b : Bnds} (hs : LenS s) (hb : SmallB b) (hok : OkB s b) : LenF (unbQ s b) := by
  have h1 := unb_len b hok.size (s.zip b) (zF, true) (fun z hz => (List.of_mem_zip hz).2)
  have h2 : (s.zip b).length ≤ 8 := by rw [List.length_zip]; have := hok.few; omega
  obtain ⟨s1, s2⟩ := hs
  refine ⟨?_, ?_, unb_names s2 hb.names⟩
  · have := h1.1; simp only [zF, List.length_nil] at this; show (unbQ s b).places.length ≤ _; unfold unbQ; simp only [zF]; omega
  · have := h1.2; simp only [zF, List.length_nil] at this; show (unbQ s b).named.length ≤ _; unfold unbQ; simp only [zF]; omega

theorem ivalidBinding_ct (s : Sig) (b : Bnds) (hs : LenS s) (hb : SmallB b) : ACalls pk 37 [.agg (eG s), .agg (eBi b)] [] (fun r o => r = .one (.bool (VBi s b)) ∧ o = []) := by
  have hls := hs
  obtain ⟨s1, s2⟩ := hs
  have hbl := hb.len
  refine acalls_of_body Tryz.func37 rfl (by kernel_rfl) rfl ?_
  refine rn rfl ?_
  refine goal_step (step_call [] rfl rfl rfl rfl rfl rfl (ivalidSig_ct s (by omega) s2)) ?_
  rintro σ2 ⟨r, o', ⟨rfl, rfl⟩, hσ⟩
  obtain rfl := Option.some.inj hσ
  clear hσ
  refine rn rfl ?_
  refine goal_guard rfl rfl rfl (fun h1 => ?_) (fun h1 => ?_) <;> (try simp only [gt_iff_lt, ge_iff_le, bne_iff_ne, ne_eq, bne_eq_false_iff_eq, beq_iff_eq, beq_eq_false_iff_ne, Bool.not_eq_true', Bool.not_eq_false', decide_eq_true_eq, decide_eq_false_iff_not, List.length_map] at h1)
  · refine rn rfl (fin_is [] rfl ⟨?_, rfl⟩)
    simp [VBi, h1]
  have hok := okSig_iff.1 h1
  refine rn rfl ?_
  refine goal_cond rfl (fun h2 => ?_) (fun h2 => ?_) <;> simp only [List.length_map, bne_iff_ne, ne_eq, bne_eq_false_iff_eq] at h2
  · refine rn rfl (fin_is [] rfl ⟨?_, rfl⟩)
    have : b.length ≠ s.length := by omega
    simp [VBi, this]
  have hlen : b.length = s.length := by omega
  refine rn rfl ?_
  refine goal_loop_keep (fun m σ => ∃ (q L : Int) (i : Nat), q = i ∧ L = b.length ∧ i ≤ b.length ∧ m = b.length - i ∧ (∀ j, j < i → slotAt s b j = true) ∧
      σ = ⟨[(24, .one (.int .i64 q)), (23, .one (.int .i64 L)), (22, .one (.fs (b.map eL))), (3, .one (.op 1 0 0)), (2, .one (.op 0 0 0))],
        [some ⟨1, [eG s], false, false, true⟩, some ⟨1, [eBi b], false, false, true⟩], []⟩) b.length [24, 23, 22, 3, 2] [0, 1] rfl
    ⟨_, _, 0, rfl, by simp, by omega, by omega, fun j hj => by omega, rfl⟩ ?_
  rintro m σ ⟨q, L, i, rfl, rfl, hi, rfl, hall, rfl⟩
  refine rn rfl ?_
  refine goal_cond rfl (fun h3 => ?_) (fun h3 => ?_) <;> (try simp only [gt_iff_lt, ge_iff_le, bne_iff_ne, ne_eq, bne_eq_false_iff_eq, beq_iff_eq, beq_eq_false_iff_ne, Bool.not_eq_true', Bool.not_eq_false', decide_eq_true_eq, decide_eq_false_iff_not, List.length_map] at h3)
  · obtain ⟨x, hx⟩ := at_some (xs := b) (i := i) (by omega)
    obtain ⟨p, hp⟩ := at_some (xs := s) (i := i) (by omega)
    obtain ⟨l1, l2⟩ := hb.size x (List.mem_of_getElem? hx)
    refine rn rfl ?_
    refine goal_did rfl rfl (dA_index (eL x) rfl rfl rfl rfl rfl rfl rfl (by omega) (by (try simp); omega) (map_at (by simpa using hx)) rfl) ?_
    refine rn rfl ?_
    refine goal_step (step_call [] rfl rfl rfl rfl rfl rfl (slotValid_ct s i p x hp s1 (hok.kindRange (List.mem_of_getElem? hp)) (by omega) (by omega))) ?_
    rintro σ2 ⟨r, o', ⟨rfl, rfl⟩, hσ⟩
    obtain rfl := Option.some.inj hσ
    clear hσ
    refine rn rfl ?_
    refine goal_cond rfl (fun h4 => ?_) (fun h4 => ?_) <;> simp only [Bool.not_eq_true', Bool.not_eq_false'] at h4
    · refine rn rfl (round_ret (fin_is [] rfl ⟨?_, rfl⟩))
      have h5 : slotAt s b i = false := by unfold slotAt; rw [hp, hx]; exact h4
      have : (List.range b.length).all (slotAt s b) = false := by
        rw [List.all_eq_false]
        exact ⟨i, List.mem_range.2 (by omega), by simp [h5]⟩
      simp [VBi, this]
    · have h5 : slotAt s b i = true := by unfold slotAt; rw [hp, hx]; exact h4
      refine rn rfl ?_
      refine round_keep (b.length - (i + 1)) [24, 23, 22, 3, 2] [0, 1] (by omega) rfl ⟨_, _, i + 1, wrap64 (by omega) (by omega), rfl, by omega, rfl, fun j hj => ?_, rfl⟩
      by_cases hji : j = i
      · subst hji; exact h5
      · exact hall j (by omega)
  · refine rn rfl (round_ext ?_)
    have hall' : ∀ j, j < b.length → slotAt s b j = true := fun j hj => hall j (by omega)
    have hokB := slots_okB hok hb hlen hall'
    have hr : (List.range b.length).all (slotAt s b) = true := by
      rw [List.all_eq_true]; intro j hj; exact hall' j (List.mem_range.1 hj)
    have hV : VBi s b = ((BindQ s (unbQ s b)).2 && sameB (BindQ s (unbQ s b)).1 b) := by unfold VBi; rw [hr, h1, decide_eq_true hlen]; simp only [Bool.true_and]
    have lU := unb_lenF hls hb hokB
    have hU := iunbindD_ct s b hokB
    have hB := iBindD_ct s (unbQ s b) hls lU
    obtain ⟨c1, c2⟩ := bind_small s (unbQ s b)
    rw [hV]
    generalize unbQ s b = U at *
    generalize (BindQ s U).1 = B at *
    generalize (BindQ s U).2 = ok at *
    refine rt1 9 rfl ?_
    refine goal_cutR (fun σ' => σ' = ⟨[(8, .one (.bool ok)), (7, .one (.op 2 0 0)), (3, .one (.op 1 0 0)), (2, .one (.op 0 0 0))],
      [some ⟨1, [eG s], false, false, true⟩, some ⟨1, [eBi b], false, false, true⟩, some ⟨1, [eBi B], false, false, true⟩], []⟩) ?_ ?_
    · refine goal_draw' [0, 1] 11 rfl ?_
      refine drn [0, 1, 2] (by kernel_rfl) (by kernel_rfl) rfl rfl ?_
      refine AH_two (i := 3) (j := 8) (by kernel_rfl) (step_call [] rfl rfl rfl rfl rfl rfl (hU)) (by simp) (step_did rfl rfl (dA_step rfl)) (mdOk rfl) ?_ ?_
      · rintro σ2 ⟨r, o', ⟨rfl, rfl⟩, hσ⟩
        obtain rfl := Option.some.inj hσ
        clear hσ
        refine AH_two (i := 4) (j := 8) (by kernel_rfl) (step_call [] rfl rfl rfl rfl rfl rfl (hB)) (by simp) (step_did rfl rfl (dA_step rfl)) (mdOk rfl) ?_ ?_
        · rintro σ2 ⟨r, o', ⟨rfl, rfl⟩, hσ⟩
          obtain rfl := Option.some.inj hσ
          clear hσ
          refine drn [5, 6, 7] (by kernel_rfl) (by kernel_rfl) rfl rfl ?_
          refine AH_oneDid 8 rfl (by kernel_rfl) rfl (dA_step rfl) (mdOk rfl) ?_
          refine AH_oneDid 9 rfl (by kernel_rfl) rfl (dA_step rfl) (mdOk rfl) ?_
          refine drn [10] (by kernel_rfl) (by kernel_rfl) rfl rfl ?_
          refine AH_end (by kernel_rfl) ?_
          refine rn rfl ?_
          exact cut_nrm [8, 7, 3, 2] [0, 1, 2] rfl rfl
        · rintro _ rfl
          refine AH_one (i := 4) (by kernel_rfl) (step_call [] rfl rfl rfl rfl rfl rfl (hB)) (by simp) ?_
          rintro σ2 ⟨r, o', ⟨rfl, rfl⟩, hσ⟩
          obtain rfl := Option.some.inj hσ
          clear hσ
          refine drn [5, 6, 7] (by kernel_rfl) (by kernel_rfl) rfl rfl ?_
          refine AH_oneDid 9 rfl (by kernel_rfl) rfl (dA_step rfl) (mdOk rfl) ?_
          refine drn [10] (by kernel_rfl) (by kernel_rfl) rfl rfl ?_
          refine AH_end (by kernel_rfl) ?_
          refine rn rfl ?_
          exact cut_nrm [8, 7, 3, 2] [0, 1, 2] rfl rfl
      · rintro _ rfl
        refine AH_one (i := 3) (by kernel_rfl) (step_call [] rfl rfl rfl rfl rfl rfl (hU)) (by simp) ?_
        rintro σ2 ⟨r, o', ⟨rfl, rfl⟩, hσ⟩
        obtain rfl := Option.some.inj hσ
        clear hσ
        refine AH_one (i := 4) (by kernel_rfl) (step_call [] rfl rfl rfl rfl rfl rfl (hB)) (by simp) ?_
        rintro σ2 ⟨r, o', ⟨rfl, rfl⟩, hσ⟩
        obtain rfl := Option.some.inj hσ
        clear hσ
        refine drn [5, 6, 7] (by kernel_rfl) (by kernel_rfl) rfl rfl ?_
        refine AH_oneDid 9 rfl (by kernel_rfl) rfl (dA_step rfl) (mdOk rfl) ?_
        refine drn [10] (by kernel_rfl) (by kernel_rfl) rfl rfl ?_
        refine AH_end (by kernel_rfl) ?_
        refine rn rfl ?_
        exact cut_nrm [8, 7, 3, 2] [0, 1, 2] rfl rfl
    rintro _ rfl
    refine rn rfl ?_
    refine goal_guard rfl rfl rfl (fun h6 => ?_) (fun h6 => ?_) <;> (try simp only [gt_iff_lt, ge_iff_le, bne_iff_ne, ne_eq, bne_eq_false_iff_eq, beq_iff_eq, beq_eq_false_iff_ne, Bool.not_eq_true', Bool.not_eq_false', decide_eq_true_eq, decide_eq_false_iff_not, List.length_map] at h6)
    · refine rn rfl ?_
      refine goal_step (step_call [] rfl rfl rfl rfl rfl rfl (isameB_ct B b (by omega) (fun x hx => small_of (c2 x hx)) (fun x hx => ⟨by have := (hb.size x hx).1; omega, (hb.size x hx).2⟩))) ?_
      rintro σ2 ⟨r, o', ⟨rfl, rfl⟩, hσ⟩
      obtain rfl := Option.some.inj hσ
      clear hσ
      refine rn rfl ?_
      refine rn rfl (fin_is [] rfl ⟨?_, rfl⟩)
      simp [h6]
    · refine rn rfl (fin_is [] rfl ⟨?_, rfl⟩)
      simp [h6]

section

variable {s : Sig} {f : Flat} {b : Bnds}

theorem Given.bind (h : Given s f b) : BindQ s f = (b, true) := by
  have hb : (BindQ s f).2 = true := by rw [bind_ok h.sig h.flat]; exact h.acc
  obtain ⟨_, _, _, heq⟩ := bindQ_ok hb
  rw [heq, ← h.eq]

theorem Given.valid (h : Given s f b) : VBi s b = true := by
  have hag := h.again
  have hb := hag.bind
  have hr : (List.range b.length).all (slotAt s b) = true := by
    rw [List.all_eq_true]
    intro i hi
    have hi' := List.mem_range.1 hi
    obtain ⟨p, hp⟩ := at_some (xs := s) (i := i) (by rw [← h.len]; exact hi')
    have hx := h.get hp
    unfold slotAt
    rw [hp, hx]
    simp only
    have hkr := h.sig.kindRange (List.mem_of_getElem? hp)
    unfold slotOk
    by_cases hk2 : p.kind = 2
    · rw [if_pos hk2, give_rest hk2]; simp
    rw [if_neg hk2]
    by_cases hk4 : p.kind = 4
    · rw [if_pos hk4]
      unfold giveQ
      rw [if_pos hk4]
      simp
    rw [if_neg hk4]
    have hsg : singleQ p = true := single_kind.2 (by omega)
    have hsh := give_shape (s := s) (pl := f.places) (qs := f.named) (i := i) (p := p) hsg
    cases hg : (giveQ s f.places f.named i p).given with
    | true => rw [hsh.1 hg]; simp
    | false =>
      have h3 := ((acc_iff h.sig h.flat).1 h.acc).2.2
      have h4 := lack_iff.1 h3 i p hp hsg
      rw [give_given hsg] at hg
      simp only [Bool.or_eq_false_iff, Bool.and_eq_false_iff] at hg
      have hd : p.hasD = true := by
        rcases h4 with h4 | h4 | ⟨h4, h5⟩
        · exact h4
        · rw [hg.1] at h4; cases h4
        · rcases hg.2 with h6 | h6
          · rw [h4] at h6; cases h6
          · rw [h5] at h6; cases h6
      have hg' : (giveQ s f.places f.named i p).given = false := by
        rw [give_given hsg, hg.1]
        rcases hg.2 with h6 | h6 <;> simp [h6]
      rw [hsh.2 hg']
      simp [zL, hd]
  unfold VBi
  rw [hr, hb, okSig_iff.2 h.sig, decide_eq_true h.len, sameB_self]
  rfl

theorem Given.small (h : Given s f b) (hn : ∀ q ∈ f.named, q.name.length ≤ 9223372036854775807) : SmallB b := by
  obtain ⟨c1, c2⟩ := bound_small h.sig h.flat
  rw [← h.eq] at c1 c2
  refine ⟨by omega, fun x hx => ⟨by have := (c2 x hx).1; omega, by have := (c2 x hx).2; omega⟩, fun x hx q hq => ?_⟩
  obtain ⟨i, hi⟩ := List.getElem?_of_mem hx
  obtain ⟨p, hp⟩ := at_some (xs := s) (i := i) (by rw [← h.len]; exact lt_of_some hi)
  rw [h.at hp hi] at hq
  unfold giveQ at hq
  split at hq
  · exact hn q (List.mem_filter.1 hq).1
  · split at hq
    · split at hq <;> simp [zL] at hq
    · unfold place1 at hq
      split at hq
      · simp at hq
      · split at hq <;> simp [zL] at hq

end

section

variable {s : Sig} {f : Flat} {b : Bnds}

theorem given_of (h : (BindQ s f).2 = true) : Given s f (BindQ s f).1 := by
  obtain ⟨h1, h2, h3, h4⟩ := bindQ_ok h
  exact ⟨h1, h2, h3, by rw [h4]⟩

end

theorem scallPart_ct (p : Part) (f : Flat) (hp : LenP p) (hf : LenF f) : ACalls pk 41 [.agg (ePa p), .agg (eF f)] [] (fun r o => r = .tup [.agg (eBi (CallF p f).1), .one (.bool (CallF p f).2)] ∧ o = []) := by
  have lg := full_names (p := p) (f := f)
  have hE : CallF p f = if (FullF p f).2 then BindQ p.sig (FullF p f).1 else ([], false) := rfl
  have hI := sfull_ct p f hp hf
  rw [hE]
  generalize (FullF p f).1 = G at *
  generalize (FullF p f).2 = b at *
  refine acalls_of_body Tryz.func41 rfl (by kernel_rfl) rfl ?_
  refine rn rfl ?_
  refine goal_step (step_call [] rfl rfl rfl rfl rfl rfl (hI)) ?_
  rintro σ2 ⟨r, o', ⟨rfl, rfl⟩, hσ⟩
  obtain rfl := Option.some.inj hσ
  clear hσ
  refine rn rfl ?_
  refine goal_cond rfl (fun h => ?_) (fun h => ?_) <;> (try simp only [gt_iff_lt, ge_iff_le, bne_iff_ne, ne_eq, bne_eq_false_iff_eq, beq_iff_eq, beq_eq_false_iff_ne, Bool.not_eq_true', Bool.not_eq_false', decide_eq_true_eq, decide_eq_false_iff_not, List.length_map] at h)
  · subst h
    exact rn rfl (fin_is [] rfl ⟨rfl, rfl⟩)
  · subst h
    refine rn rfl ?_
    refine goal_step (step_call [] rfl rfl rfl rfl rfl rfl (sBind_ct p.sig G hp.sig lg)) ?_
    rintro σ2 ⟨r, o', ⟨rfl, rfl⟩, hσ⟩
    obtain rfl := Option.some.inj hσ
    clear hσ
    refine rn rfl ?_
    exact rn rfl (fin_is [] rfl ⟨rfl, rfl⟩)

theorem callF_small (p : Part) (f : Flat) : (CallF p f).1.length ≤ 8 ∧ ∀ x ∈ (CallF p f).1, x.list.length ≤ 8 ∧ x.pairs.length ≤ 8 := by
  unfold CallF
  split
  · exact bind_small _ _
  · simp

theorem callF_ok {p : Part} {f : Flat} (h : (CallF p f).2 = true) : (FullF p f).2 = true ∧ CallF p f = BindQ p.sig (FullF p f).1 := by
  unfold CallF at h ⊢
  split at h
  · rename_i h1; exact ⟨h1, by rw [if_pos h1]⟩
  · cases h

theorem fnCallPartial_ct (bs : Str) (hl : bs.length ≤ 9223372036854775807) : ACalls pk 7 [.one (.fs (bs.map rowB))] [] (fun r o => r = .one (.bool true) ∧ o = []) := by
  refine acalls_of_body Tryz.func7 rfl (by kernel_rfl) rfl ?_
  refine rn rfl ?_
  refine goal_cond rfl (fun h => ?_) (fun h => ?_) <;> (try simp only [gt_iff_lt, ge_iff_le, bne_iff_ne, ne_eq, bne_eq_false_iff_eq, beq_iff_eq, beq_eq_false_iff_ne, Bool.not_eq_true', Bool.not_eq_false', decide_eq_true_eq, decide_eq_false_iff_not, List.length_map] at h)
  · exact rn rfl (fin_is [] rfl ⟨rfl, rfl⟩)
  · refine rn rfl ?_
    refine goal_step (step_call [] rfl rfl rfl rfl rfl rfl (drawCallPartial_ct bs)) ?_
    rintro σ2 ⟨r, o', ⟨p, f, hs, hpf, hf, rfl, rfl⟩, hσ⟩
    obtain rfl := Option.some.inj hσ
    clear hσ
    have lp : LenP p := ⟨hs.lenS, hpf.lenF (by omega) (by omega)⟩
    have lf : LenF f := hf.lenF (by omega) (by omega)
    have hI := icallPart_ct p f lp lf
    have hS := scallPart_ct p f lp lf
    obtain ⟨c1, c2⟩ := callF_small p f
    have hEq := equalBi_ct (CallF p f).1 (by omega) (fun x hx => ⟨by have := (c2 x hx).1; omega, by have := (c2 x hx).2; omega⟩)
    refine rn rfl ?_
    refine goal_step (step_call [] rfl rfl rfl rfl rfl rfl (hI)) ?_
    rintro σ2 ⟨r, o', ⟨rfl, rfl⟩, hσ⟩
    obtain rfl := Option.some.inj hσ
    clear hσ
    refine rn rfl ?_
    refine rn rfl ?_
    refine goal_step (step_call [] rfl rfl rfl rfl rfl rfl (hS)) ?_
    rintro σ2 ⟨r, o', ⟨rfl, rfl⟩, hσ⟩
    obtain rfl := Option.some.inj hσ
    clear hσ
    refine rn rfl ?_
    refine rn rfl ?_
    refine goal_step (step_call [] rfl rfl rfl rfl rfl rfl (hEq)) ?_
    rintro σ2 ⟨r, o', ⟨rfl, rfl⟩, hσ⟩
    obtain rfl := Option.some.inj hσ
    clear hσ
    refine rn rfl ?_
    refine goal_guard rfl rfl rfl (fun h1 => by cases h1) (fun _ => ?_)
    refine rn rfl ?_
    refine goal_guard rfl rfl rfl (fun h2 => by simp at h2) (fun _ => ?_)
    refine rn rfl ?_
    refine goal_cond rfl (fun h3 => ?_) (fun h3 => ?_)
    · refine rn rfl ?_
      refine goal_step (step_call [] rfl rfl rfl rfl rfl rfl (hEq)) ?_
      rintro σ2 ⟨r, o', ⟨rfl, rfl⟩, hσ⟩
      obtain rfl := Option.some.inj hσ
      clear hσ
      refine rn rfl ?_
      refine goal_guard rfl rfl rfl (fun _ => ?_) (fun h4 => by cases h4)
      refine rn rfl (fin_is [] rfl ⟨?_, rfl⟩)
      simp
    · have hok : (CallF p f).2 = true := by simpa using h3
      obtain ⟨hfull, hcall⟩ := callF_ok hok
      have lg := full_names (p := p) (f := f)
      have hbok : (BindQ p.sig (FullF p f).1).2 = true := by rw [← hcall]; exact hok
      have G := given_of hbok
      have hF := ifullD_ct p f lp lf
      rw [hfull] at hF
      have hB := iBindD_ct p.sig (FullF p f).1 lp.sig lg
      rw [hbok] at hB
      have hV := ivalidBinding_ct p.sig (BindQ p.sig (FullF p f).1).1 lp.sig (G.small lg.names)
      rw [G.valid] at hV
      rw [hcall] at hEq ⊢
      generalize (BindQ p.sig (FullF p f).1).1 = B at *
      generalize (FullF p f).1 = F at *
      refine rn rfl ?_
      refine goal_step (step_call [] rfl rfl rfl rfl rfl rfl (hF)) ?_
      rintro σ2 ⟨r, o', ⟨rfl, rfl⟩, hσ⟩
      obtain rfl := Option.some.inj hσ
      clear hσ
      refine rn rfl ?_
      refine rn rfl ?_
      refine goal_step (step_call [] rfl rfl rfl rfl rfl rfl (hB)) ?_
      rintro σ2 ⟨r, o', ⟨rfl, rfl⟩, hσ⟩
      obtain rfl := Option.some.inj hσ
      clear hσ
      refine rn rfl ?_
      refine goal_guard rfl rfl rfl (fun _ => ?_) (fun h4 => by cases h4)
      refine rn rfl ?_
      refine goal_guard rfl rfl rfl (fun _ => ?_) (fun h4 => by cases h4)
      refine rn rfl ?_
      refine goal_step (step_call [] rfl rfl rfl rfl rfl rfl (hEq)) ?_
      rintro σ2 ⟨r, o', ⟨rfl, rfl⟩, hσ⟩
      obtain rfl := Option.some.inj hσ
      clear hσ
      refine rn rfl ?_
      refine goal_guard rfl rfl rfl (fun _ => ?_) (fun h4 => by cases h4)
      refine rn rfl ?_
      refine goal_step (step_call [] rfl rfl rfl rfl rfl rfl (hV)) ?_
      rintro σ2 ⟨r, o', ⟨rfl, rfl⟩, hσ⟩
      obtain rfl := Option.some.inj hσ
      clear hσ
      refine rn rfl ?_
      exact rn rfl (fin_is [] rfl ⟨rfl, rfl⟩)

end Go.Proofs.YtalplgabhichfaaGreat
