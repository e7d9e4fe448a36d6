/- Part 3 of the proof: an abstract machine over the model; contracts of the functions that the law reaches. -/
import Derived.Test.YtbenojnoepkgbaaDoorKEPS2
set_option linter.unusedVariables false
set_option linter.unusedSimpArgs false
namespace Go.Proofs.YtbenojnoepkgbaaDoor
open Go
set_option maxRecDepth 100000
set_option maxHeartbeats 1000000

def atP (f : Flat) (q : Param) : Bool := q.kind == 1 && f.named.any (nameIs q.name)

def atQ (s : Sig) (f : Flat) : Int := idxI (atP f) s 0

def giveP (f : Flat) (q : Param) : Param := if namedQ q then (match f.named.find? (nameIs q.name) with
  | some r => ⟨q.name, q.kind, true, r.value⟩
  | none => q) else q

def kindP (b : Bool) (q : Param) : Param := if q.kind == 1 && b then ⟨q.name, 3, q.hasD, q.dflt⟩ else q

def skipP (at' : Int) (f : Flat) (i : Nat) (q : Param) : Bool := (placedQ q && decide (i < f.places.length)) || (q.kind == 2 && decide (0 ≤ at'))

def partParam (at' : Int) (f : Flat) (i : Nat) (q : Param) : Option Param :=
  if skipP at' f i q then none else some (giveP f (kindP (decide (0 ≤ at') && decide (at' ≤ i)) q))

def psL (at' : Int) (f : Flat) (s : Sig) : Sig := s.zipIdx.filterMap fun x => partParam at' f x.2 x.1

theorem psL_succ {at' : Int} {f : Flat} {s : Sig} {i : Nat} {q : Param} (hq : s[i]? = some q) : psL at' f (s.take (i + 1)) = psL at' f (s.take i) ++ (partParam at' f i q).toList := by
  have hl : (s.take i).length = i := by have := lt_of_some hq; simp; omega
  unfold psL
  rw [← take_snoc hq, List.zipIdx_append, List.filterMap_append, hl]
  simp [List.filterMap_cons]
  cases partParam at' f i q <;> rfl

theorem partParam_name {at' : Int} {f : Flat} {i : Nat} {q r : Param} (h : partParam at' f i q = some r) : r.name = q.name := by
  unfold partParam at h
  split at h
  · cases h
  · simp only [Option.some.injEq] at h
    rw [← h]
    unfold giveP kindP
    split <;> split <;> (try split) <;> rfl

theorem idxI_le {α : Type} {pred : α → Bool} : ∀ {xs : List α} {k i : Nat} {x : α}, xs[i]? = some x → pred x = true → 0 ≤ idxI pred xs k ∧ idxI pred xs k ≤ ((k + i : Nat) : Int)
  | y :: xs, k, 0, x, hx, hp => by
    simp at hx; subst hx
    simp [idxI, hp]
  | y :: xs, k, i + 1, x, hx, hp => by
    simp only [List.getElem?_cons_succ] at hx
    have := idxI_le (k := k + 1) hx hp
    unfold idxI
    split
    · omega
    · omega

theorem part_np {s : Sig} {f : Flat} (h : partQ s f = true) {i : Nat} {x : Param} (hx : s[i]? = some x) (hp : placedQ x = true) (hi : i < f.places.length) (hn : namedQ x = true) : f.named.any (nameIs x.name) = false := by
  simp only [partQ, Bool.and_eq_true, decide_eq_true_eq] at h
  obtain ⟨h1, h2⟩ := h
  obtain ⟨hs, hf⟩ := fitQ_iff.1 h1
  have hnd : (namesOf f.named).Nodup := by
    have := okFlat_iff.2 hf
    simp [okFlat] at this; exact this.1.1.1.2
  rw [bound_closed hs hnd] at h2
  simp only [closedQ, List.append_eq_nil_iff, List.filterMap_eq_nil_iff] at h2
  cases ha : f.named.any (nameIs x.name) with
  | false => rfl
  | true =>
    rw [List.any_eq_true] at ha
    obtain ⟨q, hq, hqn⟩ := ha
    simp only [nameIs, beq_iff_eq] at hqn
    have hw := h2.2 q hq
    have ht := takes_named hs hx hn
    rw [← hqn] at ht
    have hk := placed_kind.1 hp
    have hb : byPl f.places i x = true := by simp [byPl, hp, hi]
    unfold wrongQ at hw
    rw [ht] at hw
    simp only [Int.toNat_natCast, hx] at hw
    rw [if_neg (by omega), if_neg (by omega), if_pos hb] at hw
    cases hw

theorem np_at {s : Sig} {f : Flat} (h : partQ s f = true) {i : Nat} {x : Param} (hx : s[i]? = some x) (hp : placedQ x = true) (hi : i < f.places.length) : atP f x = false := by
  unfold atP
  cases hk : x.kind == 1 with
  | false => rfl
  | true =>
    rw [part_np h hx hp hi (by simp at hk; simp [namedQ, hk])]; rfl

def psQ (s : Sig) (f : Flat) : Sig := psL (atQ s f) f s

theorem acc_iff {s : Sig} {f : Flat} (hs : OkS s) (hf : OkF f) : accQ s f = true ↔
    (placesQ s < f.places.length → s.any (kIs 2) = true) ∧ (∀ q ∈ f.named, wrongQ s f.places q = none) ∧ missingQ s (s.mapIdx (giveQ s f.places f.named)) = [] := by
  have hb := bound_closed hs hf.nodup
  unfold accQ bindQ
  rw [hb]
  simp only [closedQ, decide_eq_true_eq, List.append_eq_nil_iff, List.filterMap_eq_nil_iff, and_assoc]
  have hm : manyQ s f.places = [] ↔ (placesQ s < f.places.length → s.any (kIs 2) = true) := by
    unfold manyQ
    split
    · rename_i h
      simp only [Bool.and_eq_true, decide_eq_true_eq, Bool.not_eq_true'] at h
      constructor
      · intro h0; cases h0
      · intro h0; rw [h0 h.1] at h; cases h.2
    · rename_i h
      simp only [true_iff]
      intro h0
      cases ha : s.any (kIs 2) with
      | true => rfl
      | false => exact absurd (by simp [h0, ha]) h
  rw [hm]

theorem give_given {s : Sig} {pl : List Int} {qs : List Pair} {i : Nat} {p : Param} (h : singleQ p = true) :
    (giveQ s pl qs i p).given = (byPl pl i p || (namedQ p && qs.any (nameIs p.name))) := by
  rw [single_kind] at h
  have hf : (qs.find? (nameIs p.name)).isSome = qs.any (nameIs p.name) := by
    cases ha : qs.any (nameIs p.name) with
    | true =>
      rw [List.find?_isSome]
      exact List.any_eq_true.1 ha
    | false =>
      cases hq : qs.find? (nameIs p.name) with
      | none => rfl
      | some q =>
        have h1 := List.mem_of_find?_eq_some hq
        have h2 := List.find?_some hq
        have : qs.any (nameIs p.name) = true := List.any_eq_true.2 ⟨q, h1, h2⟩
        rw [this] at ha; cases ha
  unfold giveQ
  rw [if_neg (by omega)]
  cases hb : byPl pl i p with
  | true =>
    simp only [Bool.not_true, Bool.and_false, Bool.true_or]
    unfold byPl at hb
    simp [place1, hb]
  | false =>
    cases hn : namedQ p with
    | true =>
      simp only [Bool.not_false, Bool.and_self, if_true, Bool.false_or, Bool.true_and]
      rw [← hf]
      cases qs.find? (nameIs p.name) <;> rfl
    | false =>
      simp only [Bool.false_and, Bool.false_or]
      unfold byPl at hb
      have h2 : (p.kind == 2) = false := by simp; omega
      simp [place1, hb, h2, zL]

/-- What is wrong with a name. -/
theorem wrong_iff {s : Sig} {pl : List Int} {q : Pair} : wrongQ s pl q = none ↔
    0 ≤ takesQ s q.name ∧ ∀ p, s[(takesQ s q.name).toNat]? = some p → p.kind ≠ 4 → byPl pl (takesQ s q.name).toNat p = false := by
  unfold wrongQ
  constructor
  · intro h
    split at h
    · cases h
    · rename_i h1
      refine ⟨by omega, fun p hp hk => ?_⟩
      rw [hp] at h
      simp only at h
      rw [if_neg hk] at h
      cases hb : byPl pl (takesQ s q.name).toNat p with
      | false => rfl
      | true => rw [if_pos hb] at h; cases h
  · rintro ⟨h1, h2⟩
    rw [if_neg (by omega)]
    cases hp : s[(takesQ s q.name).toNat]? with
    | none => rfl
    | some p =>
      simp only
      by_cases hk : p.kind = 4
      · rw [if_pos hk]
      · rw [if_neg hk, if_neg (by rw [h2 p hp hk]; simp)]

theorem name_inj {s : Sig} (hs : OkS s) {i j : Nat} {p q : Param} (hp : s[i]? = some p) (hq : s[j]? = some q) (h : p.name = q.name) : i = j := by
  refine (List.getElem?_inj (l := s.map Param.name) (by have := lt_of_some hp; simpa using this) hs.nodup).1 ?_
  rw [List.getElem?_map, List.getElem?_map, hp, hq]
  simp [h]

theorem any_names {qs : List Pair} {n : Str} : qs.any (nameIs n) = true ↔ n ∈ namesOf qs := by
  simp [namesOf, nameIs]

/-- Where a name goes. -/
def goesQ (s : Sig) (n : Str) : Prop := (∃ (i : Nat) (p : Param), s[i]? = some p ∧ namedQ p = true ∧ p.name = n) ∨ ∃ p ∈ s, p.kind = 4

theorem takes_goes {s : Sig} (hs : OkS s) {n : Str} : 0 ≤ takesQ s n ↔ goesQ s n := by
  constructor
  · intro h
    obtain ⟨p, hp, _, hk⟩ := takesQ_some (show ¬ takesQ s n < 0 by omega)
    rcases hk with ⟨h1, h2⟩ | h1
    · exact .inl ⟨_, p, hp, h1, h2⟩
    · exact .inr ⟨p, List.mem_of_getElem? hp, h1⟩
  · intro h
    by_cases hA : ∃ (i : Nat) (p : Param), s[i]? = some p ∧ namedQ p = true ∧ p.name = n
    · obtain ⟨i, p, hp, hn, rfl⟩ := hA
      rw [takes_named hs hp hn]; omega
    · rcases h with h | ⟨p, hp, hk⟩
      · exact absurd h hA
      · have h4 : takesQ s n = idxI (kIs 4) s 0 := by
          cases hf : s.find? (qIs n) with
          | none => simp [takesQ, hf]
          | some q =>
            cases hn : namedQ q with
            | false => simp [takesQ, hf, hn]
            | true =>
              have h1 := List.mem_of_find?_eq_some hf
              have h2 := List.find?_some hf
              obtain ⟨i, hi⟩ := List.getElem?_of_mem h1
              exact absurd ⟨i, q, hi, hn, by simpa [qIs] using h2⟩ hA
        rw [h4]
        exact idxI_ge.2 (List.any_eq_true.2 ⟨p, hp, by simpa [kIs] using hk⟩)

theorem wrong_iff2 {s : Sig} (hs : OkS s) {pl : List Int} {q : Pair} : wrongQ s pl q = none ↔
    goesQ s q.name ∧ ∀ (i : Nat) (p : Param), s[i]? = some p → namedQ p = true → p.name = q.name → byPl pl i p = false := by
  rw [wrong_iff, takes_goes hs]
  constructor
  · rintro ⟨h1, h2⟩
    refine ⟨h1, fun i p hp hn he => ?_⟩
    have ht := takes_named hs hp hn
    rw [he] at ht
    have := h2 p (by rw [ht]; simpa using hp) (by have := named_kind.1 hn; omega)
    rw [ht] at this
    simpa using this
  · rintro ⟨h1, h2⟩
    refine ⟨h1, fun p hp hk => ?_⟩
    obtain ⟨p', hp', _, hk'⟩ := takesQ_some (show ¬ takesQ s q.name < 0 by have := (takes_goes hs).2 h1; omega)
    rw [hp] at hp'
    cases hp'
    rcases hk' with ⟨h3, h4⟩ | h3
    · exact h2 _ p hp h3 h4
    · exact absurd h3 hk

theorem find_isSome {f : Flat} {n : Str} : (f.named.find? (nameIs n)).isSome = f.named.any (nameIs n) := by
  cases ha : f.named.any (nameIs n) with
  | true => rw [List.find?_isSome]; exact List.any_eq_true.1 ha
  | false =>
    cases hq : f.named.find? (nameIs n) with
    | none => rfl
    | some q =>
      have : f.named.any (nameIs n) = true := List.any_eq_true.2 ⟨q, List.mem_of_find?_eq_some hq, List.find?_some hq⟩
      rw [this] at ha; cases ha

theorem kindP_facts (b : Bool) (q : Param) : (kindP b q).name = q.name ∧ (kindP b q).kind = (if q.kind = 1 ∧ b = true then 3 else q.kind) ∧ (kindP b q).hasD = q.hasD ∧ namedQ (kindP b q) = namedQ q := by
  unfold kindP namedQ
  by_cases h1 : q.kind = 1
  · cases b <;> simp [h1]
  · simp [h1]

theorem giveP_facts (f : Flat) (q : Param) : (giveP f q).name = q.name ∧ (giveP f q).kind = q.kind ∧ (giveP f q).hasD = (q.hasD || (namedQ q && f.named.any (nameIs q.name))) := by
  unfold giveP
  rw [← find_isSome]
  cases hn : namedQ q with
  | false => simp
  | true =>
    simp only [if_true]
    cases f.named.find? (nameIs q.name) <;> simp

/-- What becomes of a parameter. -/
structure KeptQ (k : Int) (f : Flat) (i : Nat) (p p' : Param) : Prop where
  name : p'.name = p.name
  kind : p'.kind = if p.kind = 1 ∧ 0 ≤ k ∧ k ≤ i then 3 else p.kind
  hasD : p'.hasD = (p.hasD || (namedQ p && f.named.any (nameIs p.name)))
  place : ¬ (placedQ p = true ∧ i < f.places.length)
  rest : ¬ (p.kind = 2 ∧ 0 ≤ k)

theorem partParam_facts {k : Int} {f : Flat} {i : Nat} {p p' : Param} (h : partParam k f i p = some p') : KeptQ k f i p p' := by
  have hn := partParam_name h
  unfold partParam at h
  split at h
  · cases h
  · rename_i hs
    simp only [Option.some.injEq] at h
    obtain ⟨a1, a2, a3, a4⟩ := kindP_facts (decide (0 ≤ k) && decide (k ≤ i)) p
    obtain ⟨b1, b2, b3⟩ := giveP_facts f (kindP (decide (0 ≤ k) && decide (k ≤ i)) p)
    rw [h] at b1 b2 b3
    refine ⟨hn, ?_, ?_, ?_, ?_⟩
    · rw [b2, a2]; simp
    · rw [b3, a3, a4, a1]
    · rintro ⟨h1, h2⟩; exact hs (by simp [skipP, h1, h2])
    · rintro ⟨h1, h2⟩; exact hs (by simp [skipP, h1, h2])

theorem partParam_keep {k : Int} {f : Flat} {i : Nat} {p : Param} (h1 : ¬ (placedQ p = true ∧ i < f.places.length)) (h2 : ¬ (p.kind = 2 ∧ 0 ≤ k)) : ∃ p', partParam k f i p = some p' := by
  unfold partParam
  rw [if_neg]
  · exact ⟨_, rfl⟩
  · unfold skipP
    simp only [Bool.or_eq_true, Bool.and_eq_true, decide_eq_true_eq, beq_iff_eq]
    rintro (h | h)
    · exact h1 h
    · exact h2 h

theorem psL_split {k : Int} {f : Flat} {s : Sig} (i : Nat) : ∃ r, psL k f s = psL k f (s.take i) ++ r := by
  refine ⟨((s.drop i).zipIdx (0 + (s.take i).length)).filterMap (fun x => partParam k f x.2 x.1), ?_⟩
  conv => lhs; rw [← List.take_append_drop i s]
  unfold psL
  rw [List.zipIdx_append, List.filterMap_append]

/-- The facts of a partial call's signature. -/
structure PsFacts (s : Sig) (pf : Flat) : Prop where
  sig : OkS s
  flat : OkF pf
  out : OkS (psQ s pf)
  part : partQ s pf = true

theorem PsFacts.first {s : Sig} {pf : Flat} (h : PsFacts s pf) (h0 : 0 ≤ atQ s pf) : ∃ (n : Nat) (y : Param), atQ s pf = n ∧ s[n]? = some y ∧ y.kind = 1 ∧ pf.named.any (nameIs y.name) = true ∧ pf.places.length ≤ n := by
  obtain ⟨y, _, hy, hyp, hlt⟩ := idxI_find h0
  have hk := hyp
  simp only [atP, Bool.and_eq_true, beq_iff_eq] at hk
  refine ⟨(atQ s pf).toNat, y, by omega, hy, hk.1, hk.2, ?_⟩
  refine Classical.byContradiction fun hc => ?_
  have := np_at h.part hy (placed_kind.2 (.inr hk.1)) (by unfold atQ at hc; omega)
  rw [hyp] at this; cases this

theorem PsFacts.from {s : Sig} {pf : Flat} (h : PsFacts s pf) {i : Nat} {p : Param} (hp : s[i]? = some p) (hk : p.kind = 1) (hn : pf.named.any (nameIs p.name) = true) : 0 ≤ atQ s pf ∧ atQ s pf ≤ i := by
  have := idxI_le (k := 0) (pred := atP pf) hp (by simp [atP, hk, hn])
  unfold atQ; omega

theorem PsFacts.kinds {s : Sig} {pf : Flat} (h : PsFacts s pf) {i : Nat} {p : Param} (hp : s[i]? = some p) (h0 : 0 ≤ atQ s pf) (h1 : atQ s pf ≤ i) (hk : placedQ p = true) : p.kind = 1 := by
  obtain ⟨n, y, hn, hy, hyk, _, _⟩ := h.first h0
  have := h.sig.sorted (i - n) n y p hy (by rw [show n + (i - n) = i by omega]; exact hp)
  rw [placed_kind] at hk; omega

theorem KeptQ.placed {s : Sig} {pf : Flat} (h : PsFacts s pf) {i : Nat} {p p' : Param} (hp : s[i]? = some p) (hk : KeptQ (atQ s pf) pf i p p') : placedQ p' = true ↔ placedQ p = true ∧ ¬ (0 ≤ atQ s pf ∧ atQ s pf ≤ i) := by
  have h1 := hk.kind
  constructor
  · intro h2
    rw [placed_kind] at h2
    split at h1
    · omega
    · rename_i h3
      have hpp : placedQ p = true := placed_kind.2 (by omega)
      refine ⟨hpp, fun h4 => h3 ⟨h.kinds hp h4.1 h4.2 hpp, h4⟩⟩
  · rintro ⟨h2, h3⟩
    rw [placed_kind] at h2 ⊢
    rw [if_neg (fun h4 => h3 h4.2)] at h1
    omega

theorem KeptQ.named {k : Int} {pf : Flat} {i : Nat} {p p' : Param} (hk : KeptQ k pf i p p') : namedQ p' = namedQ p := by
  have h1 := hk.kind
  have : namedQ p' = true ↔ namedQ p = true := by
    rw [named_kind, named_kind]
    split at h1 <;> omega
  cases h : namedQ p with
  | true => exact this.2 h
  | false =>
    cases h' : namedQ p' with
    | false => rfl
    | true => rw [this.1 h'] at h; cases h

theorem PsFacts.len {s : Sig} {pf : Flat} (h : PsFacts s pf) : ∀ (i : Nat), i ≤ placesQ s → (psL (atQ s pf) pf (s.take i)).length = i - pf.places.length
  | 0, _ => by simp [psL]
  | i + 1, hi => by
    have hP := placesQ_le s
    obtain ⟨p, hp⟩ := at_some (xs := s) (i := i) (by omega)
    have hpl := (h.sig.placed_iff hp).2 (by omega)
    rw [psL_succ hp, List.length_append, PsFacts.len h i (by omega)]
    by_cases hia : i < pf.places.length
    · have : partParam (atQ s pf) pf i p = none := by simp [partParam, skipP, hpl, hia]
      rw [this]; simp; omega
    · obtain ⟨p', hp'⟩ := partParam_keep (k := atQ s pf) (f := pf) (i := i) (p := p) (by omega) (by rw [placed_kind] at hpl; omega)
      rw [hp']; simp; omega

/-- Where a parameter goes. -/
theorem PsFacts.to {s : Sig} {pf : Flat} (h : PsFacts s pf) {i : Nat} {p : Param} (hp : s[i]? = some p) (h1 : ¬ (placedQ p = true ∧ i < pf.places.length)) (h2 : ¬ (p.kind = 2 ∧ 0 ≤ atQ s pf)) :
    ∃ (j : Nat) (p' : Param), (psQ s pf)[j]? = some p' ∧ KeptQ (atQ s pf) pf i p p' ∧ (placedQ p' = true → j + pf.places.length = i) := by
  obtain ⟨p', hp'⟩ := partParam_keep (f := pf) h1 h2
  have hk := partParam_facts hp'
  obtain ⟨r, hr⟩ := psL_split (k := atQ s pf) (f := pf) (s := s) (i + 1)
  rw [psL_succ hp, hp'] at hr
  refine ⟨(psL (atQ s pf) pf (s.take i)).length, p', ?_, hk, fun hpl => ?_⟩
  · unfold psQ
    rw [hr, List.append_assoc, List.getElem?_append_right (by omega)]
    simp
  · have hpp := ((hk.placed h hp).1 hpl).1
    have hi := (h.sig.placed_iff hp).1 hpp
    rw [h.len i (by omega)]
    have := hk.place
    have : ¬ i < pf.places.length := fun h0 => this ⟨hpp, h0⟩
    omega

/-- Where a parameter comes from. -/
theorem PsFacts.of {s : Sig} {pf : Flat} (h : PsFacts s pf) {j : Nat} {p' : Param} (hp : (psQ s pf)[j]? = some p') :
    ∃ (i : Nat) (p : Param), s[i]? = some p ∧ KeptQ (atQ s pf) pf i p p' ∧ (placedQ p' = true → j + pf.places.length = i) := by
  have hm := List.mem_of_getElem? hp
  unfold psQ psL at hm
  rw [List.mem_filterMap] at hm
  obtain ⟨⟨p, i⟩, hq, hr⟩ := hm
  rw [List.mem_zipIdx_iff_getElem?] at hq
  have hk := partParam_facts hr
  obtain ⟨j', p2, hj', hk', hpos⟩ := h.to hq hk.place hk.rest
  have hjj := name_inj h.out hp hj' (by rw [hk.name, hk'.name])
  subst hjj
  rw [hp] at hj'
  cases hj'
  exact ⟨i, p, hq, hk, hpos⟩

section

variable {s : Sig} {pf f : Flat}

end

def stepN (xs : List Str) (i : Nat) : Bool := match xs[i]? with
  | some n => okName n && (i == 0 || (match xs[i - 1]? with
    | some m => ltS m n
    | none => false))
  | none => true

def okNs (xs : List Str) : Bool := (List.range xs.length).all (stepN xs)

def okX (x : Shp) : Bool := okNs x.names && inR x.count 0 8 && decide (x.names.length ≤ 8)

theorem okNs_all {xs : List Str} : okNs xs = true ↔ ∀ i, i < xs.length → stepN xs i = true := by
  simp [okNs, List.all_eq_true, List.mem_range]

theorem okNs_iff {xs : List Str} : okNs xs = true ↔ (∀ n ∈ xs, okName n = true) ∧ xs.Pairwise (fun a b => ltS a b = true) := by
  rw [okNs_all]
  constructor
  · intro h
    refine ⟨fun n hn => ?_, ?_⟩
    · obtain ⟨i, hi⟩ := List.getElem?_of_mem hn
      have := h i (lt_of_some hi)
      unfold stepN at this
      rw [hi] at this
      simp only [Bool.and_eq_true] at this
      exact this.1
    · rw [List.pairwise_iff_getElem]
      have key : ∀ (d i : Nat) (hi : i < xs.length) (hj : i + (d + 1) < xs.length), ltS xs[i] xs[i + (d + 1)] = true := by
        intro d
        induction d with
        | zero =>
          intro i hi hj
          have := h (i + 1) hj
          unfold stepN at this
          rw [List.getElem?_eq_getElem hj] at this
          simp only [Nat.add_sub_cancel, List.getElem?_eq_getElem hi, Bool.and_eq_true] at this
          simpa using this.2
        | succ d ih =>
          intro i hi hj
          have h1 := ih i hi (by omega)
          have := h (i + (d + 1) + 1) (by omega)
          unfold stepN at this
          rw [List.getElem?_eq_getElem (by omega)] at this
          simp only [Nat.add_sub_cancel, List.getElem?_eq_getElem (show i + (d + 1) < xs.length by omega), Bool.and_eq_true] at this
          have h2 := this.2
          simp only [Bool.or_eq_true, beq_iff_eq] at h2
          rcases h2 with h2 | h2
          · omega
          · exact ltS_trans h1 h2
      intro i j hi hj hij
      obtain ⟨d, rfl⟩ : ∃ d, j = i + (d + 1) := ⟨j - i - 1, by omega⟩
      exact key d i hi hj
  · rintro ⟨h1, h2⟩ i hi
    rw [List.pairwise_iff_getElem] at h2
    unfold stepN
    rw [List.getElem?_eq_getElem hi]
    simp only [Bool.and_eq_true]
    refine ⟨h1 _ (List.getElem_mem hi), ?_⟩
    cases i with
    | zero => rfl
    | succ i =>
      rw [Nat.add_sub_cancel, List.getElem?_eq_getElem (by omega)]
      simp only [Bool.or_eq_true]
      exact .inr (h2 i (i + 1) (by omega) hi (by omega))

theorem OkS.okName {s : Sig} (h : OkS s) {p : Param} (hp : p ∈ s) : okName p.name = true := by
  have := h.params p hp
  simp only [okQ, Bool.and_eq_true] at this
  exact this.1.1.1.1

def hd0 (xs : List Int) : Int := xs.headD 0

def stU (st : Flat × Bool) (px : Param × Slot) : Flat × Bool :=
  if px.1.kind = 2 then (⟨st.1.places ++ px.2.list, st.1.named⟩, st.2)
  else if px.1.kind = 4 then (⟨st.1.places, st.1.named ++ px.2.pairs⟩, st.2)
  else if px.2.given = false then (st.1, st.2 && !placedQ px.1)
  else if placedQ px.1 && st.2 then (⟨st.1.places ++ [hd0 px.2.list], st.1.named⟩, st.2)
  else (⟨st.1.places, st.1.named ++ [⟨px.1.name, hd0 px.2.list⟩]⟩, st.2)

def unbQ (s : Sig) (b : Bnds) : Flat := ((s.zip b).foldl stU (zF, true)).1

structure LenX (x : Shp) : Prop where
  len : x.names.length ≤ 1048576
  names : ∀ n ∈ x.names, n.length ≤ 9223372036854775807

theorem stepN_all {xs : List Str} {i : Nat} {n : Str} (hn : xs[i]? = some n) (hall : ∀ j, j < i → stepN xs j = true) (h : stepN xs i = true) : ∀ j, j < i + 1 → stepN xs j = true := fun j hj => by
  by_cases hji : j = i
  · subst hji; exact h
  · exact hall j (by omega)

theorem okX_no {x : Shp} {i : Nat} (hi : i < x.names.length) (h : stepN x.names i = false) : okX x = false := by
  have : okNs x.names = false := by
    cases ho : okNs x.names with
    | false => rfl
    | true => rw [okNs_all.1 ho i hi] at h; cases h
  simp [okX, this]

theorem ivalidShape_ct (x : Shp) (hx : LenX x) : ACalls pk 22 [.agg (eX x)] [] (fun r o => r = .one (.bool (okX x)) ∧ o = []) := by
  have hl := hx.len
  refine acalls_of_body Tryd.func22 rfl (by kernel_rfl) rfl ?_
  refine rn rfl ?_
  refine goal_loop_keep (fun m σ => ∃ (q L : Int) (i : Nat), q = i ∧ L = x.names.length ∧ i ≤ x.names.length ∧ m = x.names.length - i ∧ (∀ j, j < i → stepN x.names j = true) ∧
      σ = ⟨[(8, .one (.int .i64 q)), (7, .one (.int .i64 L)), (6, .one (.fs (x.names.map eS))), (1, .one (.op 0 0 0))], [some ⟨2, [eX x], false, false, true⟩], []⟩) x.names.length [8, 7, 6, 1] [0] rfl
    ⟨_, _, 0, rfl, by simp, by omega, by omega, fun j hj => by omega, rfl⟩ ?_
  rintro m σ ⟨q, L, i, rfl, rfl, hi, rfl, hall, rfl⟩
  refine rn rfl ?_
  refine goal_cond rfl (fun h => ?_) (fun h => ?_) <;> (try simp only [gt_iff_lt, ge_iff_le, bne_iff_ne, ne_eq, bne_eq_false_iff_eq, beq_iff_eq, beq_eq_false_iff_ne, Bool.not_eq_true', Bool.not_eq_false', decide_eq_true_eq, decide_eq_false_iff_not, List.length_map] at h)
  · obtain ⟨n, hn⟩ := at_some (xs := x.names) (i := i) (by omega)
    refine rn rfl ?_
    refine goal_did rfl rfl (dA_index (eS n) rfl rfl rfl rfl rfl rfl rfl (by omega) (by (try simp); omega) (map_at (by simpa using hn)) rfl) ?_
    refine rn rfl ?_
    refine goal_step (step_call [] rfl rfl rfl rfl rfl rfl (isName_ct n (hx.names n (List.mem_of_getElem? hn)))) ?_
    rintro σ2 ⟨r, o', ⟨rfl, rfl⟩, hσ⟩
    obtain rfl := Option.some.inj hσ
    clear hσ
    refine rn rfl ?_
    refine goal_guard rfl rfl rfl (fun h1 => ?_) (fun h1 => ?_) <;> (try simp only [gt_iff_lt, ge_iff_le, bne_iff_ne, ne_eq, bne_eq_false_iff_eq, beq_iff_eq, beq_eq_false_iff_ne, Bool.not_eq_true', Bool.not_eq_false', decide_eq_true_eq, decide_eq_false_iff_not, List.length_map] at h1)
    · refine rn rfl (round_ret (fin_is [] rfl ⟨?_, rfl⟩))
      rw [okX_no (lt_of_some hn)]
      simp [stepN, hn, h1]
    · refine rn rfl ?_
      refine goal_guard rfl rfl rfl (fun h2 => ?_) (fun h2 => ?_) <;> (try simp only [gt_iff_lt, ge_iff_le, bne_iff_ne, ne_eq, bne_eq_false_iff_eq, beq_iff_eq, beq_eq_false_iff_ne, Bool.not_eq_true', Bool.not_eq_false', decide_eq_true_eq, decide_eq_false_iff_not, List.length_map] at h2)
      · obtain ⟨k, rfl⟩ : ∃ k, i = k + 1 := ⟨i - 1, by omega⟩
        obtain ⟨l, hl'⟩ := at_some (xs := x.names) (i := k) (by omega)
        have hw : IntKind.i64.wrap (((k + 1 : Nat) : Int) - 1) = (k : Int) := by rw [wrap64 (by omega) (by omega)]; omega
        refine rn rfl ?_
        rw [hw]
        refine goal_did rfl rfl (dA_index (eS l) rfl rfl rfl rfl rfl rfl rfl (by omega) (by (try simp); omega) (map_at (by simpa using hl')) rfl) ?_
        refine rn rfl ?_
        refine goal_cond rfl (fun h3 => ?_) (fun h3 => ?_)
        · refine rn rfl (round_ret (fin_is [] rfl ⟨?_, rfl⟩))
          have h3' : ltS l n = false := by simpa [ltS] using h3
          rw [okX_no (lt_of_some hn)]
          simp [stepN, hn, hl', h3']
        · have h3' : ltS l n = true := by simpa [ltS] using h3
          refine rn rfl ?_
          refine round_keep (x.names.length - (k + 1 + 1)) [8, 7, 6, 1] [0] (by omega) rfl ⟨_, _, k + 1 + 1, wrap64 (by omega) (by omega), rfl, by omega, rfl, stepN_all hn hall (by simp [stepN, hn, hl', h1, h3']), rfl⟩
      · refine rn rfl ?_
        refine round_keep (x.names.length - (i + 1)) [8, 7, 6, 1] [0] (by omega) rfl ⟨_, _, i + 1, wrap64 (by omega) (by omega), rfl, by omega, rfl, stepN_all hn hall ?_, rfl⟩
        have : i = 0 := by omega
        subst this
        simp [stepN, hn, h1]
  · refine rn rfl (round_ext ?_)
    have hok : okNs x.names = true := okNs_all.2 fun j hj => hall j (by omega)
    refine rn rfl ?_
    refine goal_step (step_call [] rfl rfl rfl rfl rfl rfl (iin_ct x.count 0 8)) ?_
    rintro σ2 ⟨r, o', ⟨rfl, rfl⟩, hσ⟩
    obtain rfl := Option.some.inj hσ
    clear hσ
    refine rn rfl ?_
    refine goal_guard rfl rfl rfl (fun h1 => ?_) (fun h1 => ?_) <;> (try simp only [gt_iff_lt, ge_iff_le, bne_iff_ne, ne_eq, bne_eq_false_iff_eq, beq_iff_eq, beq_eq_false_iff_ne, Bool.not_eq_true', Bool.not_eq_false', decide_eq_true_eq, decide_eq_false_iff_not, List.length_map] at h1)
    · refine rn rfl (fin_is [] rfl ⟨?_, rfl⟩)
      simp [okX, hok, h1]; omega
    · refine rn rfl (fin_is [] rfl ⟨?_, rfl⟩)
      simp [okX, hok, h1]

def SS (xs : List Str) : Prop := xs.Pairwise (fun a b => ltS a b = true)

theorem SS.nodup {xs : List Str} (h : SS xs) : xs.Nodup := List.Pairwise.imp (fun hab he => by rw [he, ltS_irrefl] at hab; cases hab) h

theorem SS.ext {a b : List Str} (ha : SS a) (hb : SS b) (h : ∀ x, x ∈ a ↔ x ∈ b) : a = b := by
  refine List.Perm.eq_of_pairwise (le := fun x y => ltS x y = true) ?_ ha hb ((List.perm_ext_iff_of_nodup ha.nodup hb.nodup).2 h)
  intro x y _ _ h1 h2
  rw [ltS_asymm h1] at h2; cases h2

theorem growS_ct (n : Nat) (hn : n ≤ 4194304) : ACalls pk 75 [.one nilSl, .one (.int .i64 n)] [] (fun r o => ∃ rows kc, r = .one (.os 0 0 0 kc) ∧ o = [some ⟨1, rows, true, false, false⟩] ∧ (n = 0 → rows = [] ∧ kc = 0)) := by
  have hw : IntKind.i64.wrap ((n : Int) - IntKind.i64.wrap (0 - 0)) = n := by rw [show IntKind.i64.wrap (0 - 0) = 0 from rfl, wrap64] <;> omega
  refine acalls_of_body Tryd.func75 rfl (by kernel_rfl) rfl ?_
  refine rn rfl ?_
  refine goal_cond rfl (fun h => ?_) (fun h => ?_) <;> (try simp only [gt_iff_lt, ge_iff_le, bne_iff_ne, ne_eq, bne_eq_false_iff_eq, beq_iff_eq, beq_eq_false_iff_ne, Bool.not_eq_true', Bool.not_eq_false', decide_eq_true_eq, decide_eq_false_iff_not, List.length_map] at h)
  · omega
  · refine rn rfl ?_
    refine goal_did rfl rfl (dA_capNil rfl rfl rfl rfl rfl) ?_
    refine rn rfl ?_
    rw [hw]
    refine goal_cond rfl (fun h2 => ?_) (fun h2 => ?_) <;> (try simp only [gt_iff_lt, ge_iff_le, bne_iff_ne, ne_eq, bne_eq_false_iff_eq, beq_iff_eq, beq_eq_false_iff_ne, Bool.not_eq_true', Bool.not_eq_false', decide_eq_true_eq, decide_eq_false_iff_not, List.length_map] at h2)
    · refine rn rfl ?_
      refine goal_did rfl rfl (dA_capNil rfl rfl rfl rfl rfl) ?_
      refine rn rfl ?_
      refine goal_did rfl rfl (dA_sliceNil rfl rfl rfl rfl rfl rfl rfl) ?_
      refine rn rfl ?_
      refine goal_did rfl rfl (dA_growMake n (List.replicate n (eS ([] : Str))) rfl rfl rfl (by omega) rfl rfl rfl rfl rfl rfl rfl rfl (by show n * 16 ≤ _; omega) (by omega) rfl) ?_
      refine rn rfl ?_
      refine goal_did rfl rfl (dA_sliceOwn 0 0 n 0 0 n rfl rfl rfl rfl rfl rfl rfl Bnd.none_ (Bnd.some_ rfl rfl) (.inl ⟨rfl, rfl⟩) (by omega) (by omega) (by omega) (by simp) rfl rfl rfl rfl) ?_
      refine rn rfl ?_
      exact fin_is [0] rfl ⟨_, _, rfl, rfl, fun h0 => by omega⟩
    · refine rn rfl ?_
      exact fin_adopt 4 0 1 [0] rfl ⟨_, _, rfl, rfl, fun _ => ⟨rfl, rfl⟩⟩

theorem concatS_ct (xss : List (List Str)) (hn : xss.length ≤ 1000) (hl : xss.flatten.length ≤ 4194304) :
    ACalls pk 44 [.one (.fs (xss.map fun xs => [.fs (xs.map eS)]))] [] (fun r o => r = .one (.os 0 0 xss.flatten.length xss.flatten.length) ∧ o = [ownS xss.flatten]) := by
  have hpre : ∀ i, (xss.take i).flatten.length ≤ xss.flatten.length := fun i => by
    conv => rhs; rw [← List.take_append_drop i xss, List.flatten_append, List.length_append]
    omega
  have hsucc : ∀ (i : Nat) (xs : List Str), xss[i]? = some xs → (xss.take (i + 1)).flatten = (xss.take i).flatten ++ xs := fun i xs h => by
    rw [← take_snoc' h, List.flatten_append]; simp
  refine acalls_of_body Tryd.func44 rfl (by kernel_rfl) rfl ?_
  refine rn rfl ?_
  refine goal_loop_keep (fun m σ => ∃ (n L q : Int) (i : Nat), n = i ∧ L = xss.length ∧ i ≤ xss.length ∧ m = xss.length - i ∧ q = ((xss.take i).flatten.length : Nat) ∧
      σ = ⟨[(11, .one (.int .i64 n)), (10, .one (.int .i64 L)), (9, .one (.fs (xss.map fun xs => [.fs (xs.map eS)]))), (3, .one (.int .i64 q)), (0, .one (.fs (xss.map fun xs => [.fs (xs.map eS)])))], [], []⟩) xss.length [11, 10, 9, 3, 0] [] rfl
    ⟨_, _, _, 0, rfl, by simp, by omega, by omega, rfl, rfl⟩ ?_
  rintro m σ ⟨n, L, q, i, rfl, rfl, hi, rfl, rfl, rfl⟩
  refine rn rfl ?_
  refine goal_cond rfl (fun h => ?_) (fun h => ?_) <;> (try simp only [gt_iff_lt, ge_iff_le, bne_iff_ne, ne_eq, bne_eq_false_iff_eq, beq_iff_eq, beq_eq_false_iff_ne, Bool.not_eq_true', Bool.not_eq_false', decide_eq_true_eq, decide_eq_false_iff_not, List.length_map] at h)
  · obtain ⟨xs, hxs⟩ := at_some (xs := xss) (i := i) (by omega)
    have h1 := hpre (i + 1)
    have h2 := hsucc i xs hxs
    rw [h2, List.length_append] at h1
    have hw : IntKind.i64.wrap (((xss.take i).flatten.length : Nat) + (xs.length : Int)) = (((xss.take i).flatten ++ xs).length : Nat) := by rw [List.length_append, wrap64] <;> omega
    refine rn rfl ?_
    refine goal_did rfl rfl (dA_index [.fs (xs.map eS)] rfl rfl rfl rfl rfl rfl rfl (by omega) (by simp; omega) (map_at (enc := fun xs : List Str => [C.fs (xs.map eS)]) (by simpa using hxs)) rfl) ?_
    refine rn rfl ?_
    refine goal_cond rfl (fun h0 => ?_) (fun _ => ?_)
    · simp only [List.length_map, decide_eq_true_eq] at h0; rw [hw] at h0; omega
    · refine rn rfl ?_
      refine round_keep (xss.length - (i + 1)) [11, 10, 9, 3, 0] [] (by omega) rfl ⟨_, _, _, i + 1, wrap64 (by omega) (by omega), rfl, by omega, rfl, ?_, rfl⟩
      rw [List.length_map, hw, h2]
  · rw [show i = xss.length by omega, List.take_length]
    refine rn rfl ?_
    refine round_ext ?_
    refine rn rfl ?_
    refine goal_step (step_callRaw rfl rfl rfl rfl rfl rfl (growS_ct xss.flatten.length hl)) ?_
    rintro σ2 ⟨r, o', ⟨rows0, kc0, rfl, rfl, hz⟩, hσ⟩
    obtain rfl := Option.some.inj hσ
    clear hσ
    refine rn rfl ?_
    refine goal_loop_keep (fun m σ => ∃ (n L : Int) (i l kc : Nat) (rows : List (List C)), n = i ∧ L = xss.length ∧ i ≤ xss.length ∧ m = xss.length - i ∧ l = (xss.take i).flatten.length ∧ ((rows = (xss.take i).flatten.map eS ∧ kc = l) ∨ (i = 0 ∧ rows = rows0 ∧ kc = kc0)) ∧
        σ = ⟨[(27, .one (.int .i64 n)), (26, .one (.int .i64 L)), (25, .one (.fs (xss.map fun xs => [.fs (xs.map eS)]))), (6, .one (.os 0 0 l kc))], [some ⟨1, rows, true, false, false⟩], []⟩) xss.length [27, 26, 25, 6] [0] rfl
      ⟨_, ((xss.map fun xs => [C.fs (xs.map eS)]).length : Int), 0, 0, kc0, rows0, rfl, by simp, by omega, by omega, rfl, .inr ⟨rfl, rfl, rfl⟩, rfl⟩ ?_
    rintro m σ ⟨n, L, i, l, kc, rows, rfl, rfl, hi, rfl, rfl, hrows, rfl⟩
    have hold : (xss.take i).flatten.map eS = rows.take (xss.take i).flatten.length := by
      rcases hrows with ⟨rfl, _⟩ | ⟨rfl, _, _⟩
      · exact (List.take_of_length_le (by rw [List.length_map]; exact Nat.le_refl _)).symm
      · simp
    have hle : (xss.take i).flatten.length ≤ rows.length := by
      have := congrArg List.length hold
      simp only [List.length_map, List.length_take] at this; omega
    refine rn rfl ?_
    refine goal_cond rfl (fun h => ?_) (fun h => ?_) <;> (try simp only [gt_iff_lt, ge_iff_le, bne_iff_ne, ne_eq, bne_eq_false_iff_eq, beq_iff_eq, beq_eq_false_iff_ne, Bool.not_eq_true', Bool.not_eq_false', decide_eq_true_eq, decide_eq_false_iff_not, List.length_map] at h)
    · obtain ⟨xs, hxs⟩ := at_some (xs := xss) (i := i) (by omega)
      have h1 := hpre (i + 1)
      have h2 := hsucc i xs hxs
      rw [h2, List.length_append] at h1
      refine rn rfl ?_
      refine goal_did rfl rfl (dA_index [.fs (xs.map eS)] rfl rfl rfl rfl rfl rfl rfl (by omega) (by simp; omega) (map_at (enc := fun xs : List Str => [C.fs (xs.map eS)]) (by simpa using hxs)) rfl) ?_
      refine rn rfl ?_
      refine goal_did rfl rfl (dA_append (old := (xss.take i).flatten.map eS) (rows := xs.map eS) (((xss.take i).flatten ++ xs).map eS) (((xss.take i).flatten ++ xs).length) true (Dst.own rfl rfl rfl rfl rfl hle hold) (Src.fs rfl) rfl rfl rfl rfl rfl rfl rfl rfl (rows_len eS_len _) (rows_len eS_len _) (by simp only [List.length_map]; show _ * 16 ≤ _; omega) (by simp only [List.length_map]; omega) (by rw [List.map_append]) (by rw [List.length_map]) (fun _ => noOwnR_map _ eS_noOwn _)) ?_
      refine rn rfl ?_
      refine round_keep (xss.length - (i + 1)) [27, 26, 25, 6] [1] (by omega) rfl ⟨_, _, i + 1, ((xss.take i).flatten ++ xs).length, ((xss.take i).flatten ++ xs).length, ((xss.take i).flatten ++ xs).map eS, wrap64 (by omega) (by omega), rfl, by omega, rfl, by rw [h2], .inl ⟨by rw [h2], rfl⟩, rfl⟩
    · rw [show i = xss.length by omega, List.take_length] at hrows hold ⊢
      refine rn rfl ?_
      refine round_ext ?_
      have hfin : rows = xss.flatten.map eS ∧ kc = xss.flatten.length := by
        rcases hrows with hr | ⟨h0, hr, hk⟩
        · exact hr
        · have hx : xss = [] := List.eq_nil_of_length_eq_zero (by omega)
          subst hx
          obtain ⟨q1, q2⟩ := hz rfl
          exact ⟨by rw [hr, q1]; rfl, by rw [hk, q2]; rfl⟩
      obtain ⟨rfl, rfl⟩ := hfin
      exact rn rfl (fin_is [0] rfl ⟨rfl, rfl⟩)

theorem give_one {s : Sig} {pl : List Int} {qs : List Pair} {i : Nat} {p : Param} (h : singleQ p = true) : ((giveQ s pl qs i p).given = true → ∃ v, (giveQ s pl qs i p).list = [v]) ∧ ((giveQ s pl qs i p).given = false → (giveQ s pl qs i p).list = []) ∧
    (p.kind = 0 → (giveQ s pl qs i p).given = decide (i < pl.length)) := by
  rw [single_kind] at h
  unfold giveQ
  rw [if_neg (by omega)]
  split
  · rename_i hn
    simp only [Bool.and_eq_true] at hn
    have hk := named_kind.1 hn.1
    split
    · exact ⟨fun _ => ⟨_, rfl⟩, (fun h0 => by cases h0), (fun h0 => by omega)⟩
    · exact ⟨(fun h0 => by cases h0), (fun _ => rfl), (fun h0 => by omega)⟩
  · unfold place1
    by_cases hb : (placedQ p && decide (i < pl.length)) = true
    · rw [if_pos hb]
      simp only [Bool.and_eq_true] at hb
      exact ⟨fun _ => ⟨_, rfl⟩, (fun h0 => by cases h0), fun _ => hb.2.symm⟩
    · rw [if_neg hb]
      have h2 : (p.kind == 2) = false := by simp; omega
      simp only [h2]
      refine ⟨(fun h0 => by cases h0), (fun _ => rfl), fun h0 => ?_⟩
      have hp : placedQ p = true := placed_kind.2 (.inl h0)
      rw [hp] at hb
      show false = _
      simpa using hb

theorem bound_at {s : Sig} {f : Flat} (hs : OkS s) (hf : OkF f) {i : Nat} {p : Param} {x : Slot} (hp : s[i]? = some p) (hx : (boundQ s f).1[i]? = some x) : x = giveQ s f.places f.named i p := by
  rw [bound_closed hs hf.nodup] at hx
  simp only [closedQ, List.getElem?_mapIdx, hp, Option.map_some, Option.some.injEq] at hx
  exact hx.symm

/-- What a call that is accepted gives to one parameter. -/
structure Given (s : Sig) (f : Flat) (b : Bnds) : Prop where
  sig : OkS s
  flat : OkF f
  acc : accQ s f = true
  eq : b = (boundQ s f).1

section

variable {s : Sig} {f : Flat} {b : Bnds}

theorem Given.len (h : Given s f b) : b.length = s.length := by rw [h.eq, boundQ_len]

theorem Given.at (h : Given s f b) {i : Nat} {p : Param} {x : Slot} (hp : s[i]? = some p) (hx : b[i]? = some x) : x = giveQ s f.places f.named i p := by
  rw [h.eq] at hx
  exact bound_at h.sig h.flat hp hx

theorem Given.get (h : Given s f b) {i : Nat} {p : Param} (hp : s[i]? = some p) : b[i]? = some (giveQ s f.places f.named i p) := by
  obtain ⟨x, hx⟩ := at_some (xs := b) (i := i) (by rw [h.len]; exact lt_of_some hp)
  rw [hx, h.at hp hx]

/-- A parameter that is found by its place alone has got a value only by its place; then all ahead of it have. -/
theorem Given.before (h : Given s f b) {i j : Nat} {p q : Param} (hp : s[i]? = some p) (hq : s[j]? = some q) (hk : p.kind = 0) (hji : j < i) (hg : (giveQ s f.places f.named i p).given = true) : (giveQ s f.places f.named j q).given = true := by
  have h1 := (give_one (s := s) (pl := f.places) (qs := f.named) (i := i) (single_kind.2 (.inl hk))).2.2 hk
  rw [hg] at h1
  have hlt : i < f.places.length := by simpa using h1.symm
  have hP := (h.sig.placed_iff hp).1 (placed_kind.2 (.inl hk))
  have hpl := (h.sig.placed_iff hq).2 (by omega)
  have hs : singleQ q = true := by rw [single_kind]; rw [placed_kind] at hpl; omega
  rw [give_given hs]
  have : byPl f.places j q = true := by simp [byPl, hpl]; omega
  rw [this]; rfl

/-- The walk of 'unbind', prefix by prefix. -/
structure UnbAt (s : Sig) (b : Bnds) (i : Nat) (F : Flat) (op : Bool) (V R : List Int) (X Y : List Pair) : Prop where
  places : F.places = V ++ R
  named : F.named = X ++ Y
  vlen : V.length ≤ min i (placesQ s)
  vals : ∀ (j : Nat) (x : Slot), j < V.length → b[j]? = some x → x.given = true ∧ V[j]? = some (hd0 x.list)
  opn : op = true → V.length = min i (placesQ s)
  shut : op = false → V.length < placesQ s ∧ V.length < i ∧ ∀ x, b[V.length]? = some x → x.given = false
  rest : ∀ (j : Nat) (p : Param) (x : Slot), j < i → s[j]? = some p → b[j]? = some x → p.kind = 2 → R = x.list
  rest0 : (∀ (j : Nat) (p : Param), j < i → s[j]? = some p → p.kind ≠ 2) → R = []
  map : ∀ (j : Nat) (p : Param) (x : Slot), j < i → s[j]? = some p → b[j]? = some x → p.kind = 4 → Y = x.pairs
  map0 : (∀ (j : Nat) (p : Param), j < i → s[j]? = some p → p.kind ≠ 4) → Y = []
  mem : ∀ q : Pair, q ∈ X ↔ ∃ (j : Nat) (p : Param) (x : Slot), j < i ∧ s[j]? = some p ∧ b[j]? = some x ∧ x.given = true ∧ (p.kind = 3 ∨ (p.kind = 1 ∧ V.length < j)) ∧ q = ⟨p.name, hd0 x.list⟩
  nodup : (namesOf X).Nodup

theorem Given.unbAt (h : Given s f b) : ∀ i, i ≤ s.length → ∃ F op V R X Y, ((s.zip b).take i).foldl stU (zF, true) = (F, op) ∧ UnbAt s b i F op V R X Y
  | 0, _ => ⟨zF, true, [], [], [], [], by simp, ⟨rfl, rfl, by simp, fun j x hj => by simp at hj, fun _ => by simp, (fun h0 => by cases h0), fun j p x hj => by omega, fun _ => rfl, fun j p x hj => by omega, fun _ => rfl, fun q => by
      constructor
      · intro h0; simp at h0
      · rintro ⟨j, p, x, hj, _⟩; omega, by simp [namesOf]⟩⟩
  | i + 1, hi => by
    obtain ⟨F, op, V, R, X, Y, hfold, I⟩ := Given.unbAt h i (by omega)
    obtain ⟨p, hp⟩ := at_some (xs := s) (i := i) (by omega)
    have hx := h.get hp
    generalize hxe : giveQ s f.places f.named i p = x at hx
    have hz : (s.zip b)[i]? = some (p, x) := List.getElem?_zip_eq_some.2 ⟨hp, hx⟩
    have hst : ((s.zip b).take (i + 1)).foldl stU (zF, true) = stU (F, op) (p, x) := by rw [foldl_take_succ _ _ hz, hfold]
    rw [hst]
    have hP := h.sig.placed_iff hp
    have hkr := h.sig.kindRange (List.mem_of_getElem? hp)
    have upto : ∀ (j : Nat) (q : Param), j < i + 1 → s[j]? = some q → j < i ∨ (j = i ∧ q = p) := fun j q hj hq => by
      by_cases hji : j = i
      · subst hji; rw [hp] at hq; cases hq; exact .inr ⟨rfl, rfl⟩
      · exact .inl (by omega)
    have xat : ∀ (j : Nat) (y : Slot), j = i → b[j]? = some y → y = x := fun j y hj hy => by subst hj; rw [hx] at hy; cases hy; rfl
    have before : ∀ (j : Nat) (q : Param), j < i → s[j]? = some q → q.kind ≤ p.kind := fun j q hj hq => h.sig.sorted (i - j) j q p hq (by rw [show j + (i - j) = i by omega]; exact hp)
    have notin : ∀ q ∈ X, q.name ≠ p.name := fun q hq he => by
      obtain ⟨j, r, y, hj, hr, _, _, _, rfl⟩ := (I.mem q).1 hq
      have := name_inj h.sig hr hp he
      omega
    have memStay : (x.given = true → ¬ (p.kind = 3 ∨ (p.kind = 1 ∧ V.length < i))) → ∀ (V' : List Int), V.length ≤ V'.length → (∀ j q, j < i → s[j]? = some q → q.kind = 1 → V.length < j → V'.length < j) → ∀ q : Pair, q ∈ X ↔ ∃ (j : Nat) (p : Param) (x : Slot), j < i + 1 ∧ s[j]? = some p ∧ b[j]? = some x ∧ x.given = true ∧ (p.kind = 3 ∨ (p.kind = 1 ∧ V'.length < j)) ∧ q = ⟨p.name, hd0 x.list⟩ := fun hno V' hV hV' q => by
      rw [I.mem q]
      constructor
      · rintro ⟨j, r, y, hj, hr, hy, hg, hk, rfl⟩
        refine ⟨j, r, y, by omega, hr, hy, hg, ?_, rfl⟩
        rcases hk with hk | ⟨hk, hl⟩
        · exact .inl hk
        · exact .inr ⟨hk, hV' j r hj hr hk hl⟩
      · rintro ⟨j, r, y, hj, hr, hy, hg, hk, rfl⟩
        rcases upto j r hj hr with hji | ⟨rfl, rfl⟩
        · refine ⟨j, r, y, hji, hr, hy, hg, ?_, rfl⟩
          rcases hk with hk | ⟨hk, hl⟩
          · exact .inl hk
          · exact .inr ⟨hk, by omega⟩
        · exfalso
          have := xat j y rfl hy
          subst this
          refine hno hg ?_
          rcases hk with hk | ⟨hk, hl⟩
          · exact .inl hk
          · exact .inr ⟨hk, by omega⟩
    by_cases hk2 : p.kind = 2
    · have hR : R = [] := I.rest0 fun j q hj hq hk => by
        have := h.sig.one hq hp (by omega) (by simp [singleQ, placedQ, hk2]); omega
      have hnp : ¬ i < placesQ s := fun h0 => by have := hP.2 h0; rw [placed_kind] at this; omega
      have hs' : stU (F, op) (p, x) = (⟨F.places ++ x.list, F.named⟩, op) := by simp [stU, hk2]
      rw [hs']
      refine ⟨_, op, V, x.list, X, Y, rfl, ⟨by rw [I.places, hR, List.append_nil], I.named, by have := I.vlen; omega, I.vals, fun h0 => by rw [I.opn h0]; omega, fun h0 => ?_, fun j q y hj hq hy hk => ?_, fun h0 => absurd hk2 (h0 i p (by omega) hp), fun j q y hj hq hy hk => ?_, fun h0 => I.map0 fun j q hj hq => h0 j q (by omega) hq, memStay (fun _ h0 => by omega) V (Nat.le_refl _) (fun j q _ _ _ hl => hl), I.nodup⟩⟩
      · obtain ⟨a1, a2, a3⟩ := I.shut h0
        exact ⟨a1, by omega, a3⟩
      · rcases upto j q hj hq with hji | ⟨rfl, rfl⟩
        · have := h.sig.one hq hp (by omega) (by simp [singleQ, placedQ, hk2]); omega
        · rw [xat j y rfl hy]
      · rcases upto j q hj hq with hji | ⟨rfl, rfl⟩
        · exact I.map j q y hji hq hy hk
        · omega
    by_cases hk4 : p.kind = 4
    · have hY : Y = [] := I.map0 fun j q hj hq hk => by
        have := h.sig.one hq hp (by omega) (by simp [singleQ, placedQ, hk4]); omega
      have hnp : ¬ i < placesQ s := fun h0 => by have := hP.2 h0; rw [placed_kind] at this; omega
      have hs' : stU (F, op) (p, x) = (⟨F.places, F.named ++ x.pairs⟩, op) := by simp [stU, hk4]
      rw [hs']
      refine ⟨_, op, V, R, X, x.pairs, rfl, ⟨I.places, by rw [I.named, hY, List.append_nil], by have := I.vlen; omega, I.vals, fun h0 => by rw [I.opn h0]; omega, fun h0 => ?_, fun j q y hj hq hy hk => ?_, fun h0 => I.rest0 fun j q hj hq => h0 j q (by omega) hq, fun j q y hj hq hy hk => ?_, fun h0 => absurd hk4 (h0 i p (by omega) hp), memStay (fun _ h0 => by omega) V (Nat.le_refl _) (fun j q _ _ _ hl => hl), I.nodup⟩⟩
      · obtain ⟨a1, a2, a3⟩ := I.shut h0
        exact ⟨a1, by omega, a3⟩
      · rcases upto j q hj hq with hji | ⟨rfl, rfl⟩
        · exact I.rest j q y hji hq hy hk
        · omega
      · rcases upto j q hj hq with hji | ⟨rfl, rfl⟩
        · have := h.sig.one hq hp (by omega) (by simp [singleQ, placedQ, hk4]); omega
        · rw [xat j y rfl hy]
    have restStay : ∀ (j : Nat) (q : Param) (y : Slot), j < i + 1 → s[j]? = some q → b[j]? = some y → q.kind = 2 → R = y.list := fun j q y hj hq hy hk => by
      rcases upto j q hj hq with hji | ⟨rfl, rfl⟩
      · exact I.rest j q y hji hq hy hk
      · exact absurd hk hk2
    have rest0Stay : (∀ (j : Nat) (q : Param), j < i + 1 → s[j]? = some q → q.kind ≠ 2) → R = [] := fun h0 => I.rest0 fun j q hj hq => h0 j q (by omega) hq
    have mapStay : ∀ (j : Nat) (q : Param) (y : Slot), j < i + 1 → s[j]? = some q → b[j]? = some y → q.kind = 4 → Y = y.pairs := fun j q y hj hq hy hk => by
      rcases upto j q hj hq with hji | ⟨rfl, rfl⟩
      · exact I.map j q y hji hq hy hk
      · exact absurd hk hk4
    have map0Stay : (∀ (j : Nat) (q : Param), j < i + 1 → s[j]? = some q → q.kind ≠ 4) → Y = [] := fun h0 => I.map0 fun j q hj hq => h0 j q (by omega) hq
    have hsg : singleQ p = true := single_kind.2 (by omega)
    cases hg : x.given with
    | false =>
      have hs' : stU (F, op) (p, x) = (F, op && !placedQ p) := by simp [stU, hk2, hk4, hg]
      rw [hs']
      refine ⟨_, _, V, R, X, Y, rfl, ⟨I.places, I.named, by have := I.vlen; omega, I.vals, fun h0 => ?_, fun h0 => ?_, restStay, rest0Stay, mapStay, map0Stay, memStay (fun h0 => by rw [hg] at h0; cases h0) V (Nat.le_refl _) (fun j q _ _ _ hl => hl), I.nodup⟩⟩
      · simp only [Bool.and_eq_true, Bool.not_eq_true'] at h0
        have hnp : ¬ i < placesQ s := fun h1 => by rw [hP.2 h1] at h0; cases h0.2
        rw [I.opn h0.1]; omega
      · cases ho : op with
        | false =>
          obtain ⟨a1, a2, a3⟩ := I.shut ho
          exact ⟨a1, by omega, a3⟩
        | true =>
          rw [ho] at h0
          simp only [Bool.true_and, Bool.not_eq_false'] at h0
          have hip := hP.1 h0
          have hv := I.opn ho
          have hv' : V.length = i := by omega
          refine ⟨by omega, by omega, fun y hy => ?_⟩
          rw [hv'] at hy
          rw [xat i y rfl hy]; exact hg
    | true =>
      by_cases hpo : (placedQ p && op) = true
      · have hs' : stU (F, op) (p, x) = (⟨F.places ++ [hd0 x.list], F.named⟩, op) := by simp [stU, hk2, hk4, hg, hpo]
        rw [hs']
        simp only [Bool.and_eq_true] at hpo
        have hip := hP.1 hpo.1
        have hv := I.opn hpo.2
        have hv' : V.length = i := by omega
        have hR : R = [] := I.rest0 fun j q hj hq hk => by
          have := before j q hj hq
          have h9 := hpo.1
          rw [placed_kind] at h9; omega
        refine ⟨_, op, V ++ [hd0 x.list], R, X, Y, rfl, ⟨by rw [I.places, hR]; simp, I.named, by simp; omega, fun j y hj hy => ?_, fun _ => by simp; omega, fun h0 => (by rw [hpo.2] at h0; cases h0), restStay, rest0Stay, mapStay, map0Stay, ?_, I.nodup⟩⟩
        · simp only [List.length_append, List.length_cons, List.length_nil] at hj
          by_cases hjv : j < V.length
          · obtain ⟨a1, a2⟩ := I.vals j y hjv hy
            exact ⟨a1, by rw [List.getElem?_append_left hjv]; exact a2⟩
          · have hji : j = i := by omega
            have := xat j y hji hy
            subst this
            exact ⟨hg, by rw [List.getElem?_append_right (by omega)]; simp [hji, hv']⟩
        · refine memStay (fun _ h0 => ?_) (V ++ [hd0 x.list]) (by simp) (fun j q hj _ _ hl => by omega)
          have h9 := hpo.1
          rw [placed_kind] at h9
          omega
      · have hs' : stU (F, op) (p, x) = (⟨F.places, F.named ++ [⟨p.name, hd0 x.list⟩]⟩, op) := by simp [stU, hk2, hk4, hg, hpo]
        rw [hs']
        have hY : Y = [] := I.map0 fun j q hj hq hk => by
          have := before j q hj hq; omega
        have hkk : p.kind = 3 ∨ (p.kind = 1 ∧ V.length < i) := by
          by_cases hk3 : p.kind = 3
          · exact .inl hk3
          · have hpl : placedQ p = true := by rw [placed_kind]; rw [single_kind] at hsg; omega
            have ho : op = false := by
              cases ho : op with
              | false => rfl
              | true => rw [hpl, ho] at hpo; exact absurd rfl hpo
            obtain ⟨a1, a2, a3⟩ := I.shut ho
            refine .inr ⟨?_, a2⟩
            refine Classical.byContradiction fun hk1 => ?_
            have hk0 : p.kind = 0 := by rw [placed_kind] at hpl; omega
            obtain ⟨q, hq⟩ := at_some (xs := s) (i := V.length) (by omega)
            have hgq := h.before hp hq hk0 a2 (by rw [hxe]; exact hg)
            have := a3 _ (h.get hq)
            rw [hgq] at this; cases this
        refine ⟨_, op, V, R, X ++ [⟨p.name, hd0 x.list⟩], Y, rfl, ⟨I.places, by rw [I.named, hY]; simp, by have := I.vlen; omega, I.vals, fun h0 => ?_, fun h0 => ?_, restStay, rest0Stay, mapStay, map0Stay, fun q => ?_, ?_⟩⟩
        · have hnp : ¬ i < placesQ s := fun h1 => by rw [hP.2 h1, h0] at hpo; exact hpo rfl
          rw [I.opn h0]; omega
        · obtain ⟨a1, a2, a3⟩ := I.shut h0
          exact ⟨a1, by omega, a3⟩
        · rw [List.mem_append, List.mem_singleton, I.mem q]
          constructor
          · rintro (⟨j, r, y, hj, hr, hy, hgy, hk, rfl⟩ | rfl)
            · exact ⟨j, r, y, by omega, hr, hy, hgy, hk, rfl⟩
            · exact ⟨i, p, x, by omega, hp, hx, hg, hkk, rfl⟩
          · rintro ⟨j, r, y, hj, hr, hy, hgy, hk, rfl⟩
            rcases upto j r hj hr with hji | ⟨rfl, rfl⟩
            · exact .inl ⟨j, r, y, hji, hr, hy, hgy, hk, rfl⟩
            · right; rw [xat j y rfl hy]
        · unfold namesOf
          rw [List.map_append, List.map_cons, List.map_nil]
          refine List.nodup_append.2 ⟨I.nodup, by simp, fun a ha c hc => ?_⟩
          simp only [List.mem_singleton] at hc
          obtain ⟨q, hq, rfl⟩ := List.mem_map.1 ha
          rw [hc]
          exact notin q hq

end

theorem find_uniq {qs : List Pair} {q : Pair} (hnd : (namesOf qs).Nodup) (hq : q ∈ qs) : qs.find? (nameIs q.name) = some q := by
  cases h : qs.find? (nameIs q.name) with
  | none =>
    rw [List.find?_eq_none] at h
    exact absurd (by simp [nameIs]) (h q hq)
  | some r =>
    have h1 := List.mem_of_find?_eq_some h
    have h2 := List.find?_some h
    simp only [nameIs, beq_iff_eq] at h2
    obtain ⟨i, hi⟩ := List.getElem?_of_mem h1
    obtain ⟨j, hj⟩ := List.getElem?_of_mem hq
    have hij : i = j := by
      refine (List.getElem?_inj (l := namesOf qs) (by have := lt_of_some hi; simpa [namesOf] using this) hnd).1 ?_
      unfold namesOf
      rw [List.getElem?_map, List.getElem?_map, hi, hj]
      simp [h2]
    subst hij
    rw [hi] at hj
    exact hj

section

variable {s : Sig} {f g : Flat}

end

theorem sub_length {α : Type} [DecidableEq α] : ∀ (xs ys : List α), xs.Nodup → (∀ x ∈ xs, x ∈ ys) → xs.length ≤ ys.length
  | [], ys, _, _ => by simp
  | x :: xs, ys, hd, hm => by
    rw [List.nodup_cons] at hd
    have h1 := sub_length xs (ys.erase x) hd.2 fun y hy => by
      have hne : y ≠ x := fun h0 => hd.1 (h0 ▸ hy)
      exact (List.mem_erase_of_ne hne).2 (hm y (by simp [hy]))
    have h2 := List.length_erase_of_mem (hm x (by simp))
    have h3 : 0 < ys.length := List.length_pos_of_mem (hm x (by simp))
    simp only [List.length_cons]
    omega

theorem give_rest {s : Sig} {pl : List Int} {qs : List Pair} {i : Nat} {p : Param} (hk : p.kind = 2) : giveQ s pl qs i p = ⟨false, pl.drop (placesQ s), []⟩ := by
  unfold giveQ
  rw [if_neg (by omega)]
  have h1 : namedQ p = false := by simp [namedQ, hk]
  have h2 : placedQ p = false := by simp [placedQ, hk]
  rw [h1]
  simp [place1, h2, hk]

theorem give_single {s : Sig} {pl : List Int} {qs : List Pair} {i : Nat} {p : Param} (h : singleQ p = true) : giveQ s pl qs i p =
    if byPl pl i p then ⟨true, [pl.getD i 0], []⟩ else if namedQ p then (match qs.find? (nameIs p.name) with
      | some q => ⟨true, [q.value], []⟩
      | none => zL) else zL := by
  rw [single_kind] at h
  unfold giveQ
  rw [if_neg (by omega)]
  cases hb : byPl pl i p with
  | true =>
    have hb' := hb
    unfold byPl at hb'
    simp [place1, hb']
  | false =>
    cases hn : namedQ p with
    | true =>
      cases qs.find? (nameIs p.name) <;> simp
    | false =>
      have hb' := hb
      unfold byPl at hb'
      have h2 : (p.kind == 2) = false := by simp; omega
      simp [place1, hb', h2]

theorem give_shape {s : Sig} {pl : List Int} {qs : List Pair} {i : Nat} {p : Param} (h : singleQ p = true) :
    ((giveQ s pl qs i p).given = true → giveQ s pl qs i p = ⟨true, [hd0 (giveQ s pl qs i p).list], []⟩) ∧ ((giveQ s pl qs i p).given = false → giveQ s pl qs i p = zL) := by
  rw [give_single h]
  split
  · simp [hd0]
  · split
    · split
      · simp [hd0]
      · simp [zL]
    · simp [zL]

theorem give_vals {s : Sig} {f : Flat} (hf : OkF f) {i : Nat} {p : Param} : ∀ v ∈ (giveQ s f.places f.named i p).list, okVal v = true := by
  intro v hv
  unfold giveQ at hv
  split at hv
  · simp at hv
  · split at hv
    · split at hv
      · rename_i q hq
        simp only [List.mem_singleton] at hv
        subst hv
        have := hf.pairs q (List.mem_of_find?_eq_some hq)
        simp only [okPair, Bool.and_eq_true] at this
        exact this.2
      · simp [zL] at hv
    · unfold place1 at hv
      split at hv
      · rename_i h1
        simp only [Bool.and_eq_true, decide_eq_true_eq] at h1
        simp only [List.mem_singleton] at hv
        subst hv
        rw [List.getD_eq_getElem?_getD, List.getElem?_eq_getElem h1.2]
        exact hf.vals _ (List.getElem_mem h1.2)
      · split at hv
        · exact hf.vals v (List.mem_of_mem_drop hv)
        · simp [zL] at hv

section

variable {s : Sig} {f : Flat} {b : Bnds}

theorem Given.unb (h : Given s f b) : ∃ op V R X Y, UnbAt s b s.length (unbQ s b) op V R X Y := by
  obtain ⟨F, op, V, R, X, Y, hfold, I⟩ := h.unbAt s.length (Nat.le_refl _)
  refine ⟨op, V, R, X, Y, ?_⟩
  have : unbQ s b = F := by
    unfold unbQ
    rw [List.take_of_length_le (by simp [h.len])] at hfold
    rw [hfold]
  rw [this]; exact I

theorem Given.gap (h : Given s f b) {op : Bool} {V R : List Int} {X Y : List Pair} {F : Flat} (I : UnbAt s b s.length F op V R X Y) (hlt : V.length < placesQ s) :
    f.places.length ≤ V.length ∧ R = [] ∧ ∀ x, b[V.length]? = some x → x.given = false := by
  have hPl := placesQ_le s
  have ho : op = false := by
    cases ho : op with
    | false => rfl
    | true => have := I.opn ho; omega
  obtain ⟨a1, a2, a3⟩ := I.shut ho
  obtain ⟨q, hq⟩ := at_some (xs := s) (i := V.length) (by omega)
  have hpl := (h.sig.placed_iff hq).2 hlt
  have hg := a3 _ (h.get hq)
  rw [give_given (by rw [single_kind]; rw [placed_kind] at hpl; omega)] at hg
  simp only [Bool.or_eq_false_iff] at hg
  have hle : f.places.length ≤ V.length := by
    have := hg.1
    unfold byPl at this
    rw [hpl] at this
    simpa using this
  refine ⟨hle, ?_, a3⟩
  by_cases h2 : ∃ (j : Nat) (p : Param), s[j]? = some p ∧ p.kind = 2
  · obtain ⟨j, p, hp, hk⟩ := h2
    rw [I.rest j p _ (lt_of_some hp) hp (h.get hp) hk, give_rest hk]
    exact List.drop_eq_nil_of_le (by omega)
  · exact I.rest0 fun j p _ hp hk => h2 ⟨j, p, hp, hk⟩

theorem Given.mapOf (h : Given s f b) {op : Bool} {V R : List Int} {X Y : List Pair} {F : Flat} (I : UnbAt s b s.length F op V R X Y) {q : Pair} (hq : q ∈ Y) :
    ∃ (j : Nat) (p : Param), s[j]? = some p ∧ p.kind = 4 ∧ takesQ s q.name = (j : Int) ∧ q ∈ f.named := by
  by_cases h4 : ∃ (j : Nat) (p : Param), s[j]? = some p ∧ p.kind = 4
  · obtain ⟨j, p, hp, hk⟩ := h4
    have hY := I.map j p _ (lt_of_some hp) hp (h.get hp) hk
    unfold giveQ at hY
    rw [if_pos hk] at hY
    simp only at hY
    rw [hY, List.mem_filter] at hq
    exact ⟨j, p, hp, hk, by simpa using hq.2, hq.1⟩
  · have := I.map0 fun j p _ hp hk => h4 ⟨j, p, hp, hk⟩
    rw [this] at hq; cases hq

theorem Given.again (h : Given s f b) : Given s (unbQ s b) b := by
  obtain ⟨op, V, R, X, Y, I⟩ := h.unb
  have hPl := placesQ_le s
  have hsl := h.sig.len
  have hfp := h.flat.places
  have hfn := h.flat.named
  have hV : V.length ≤ placesQ s := by have := I.vlen; omega
  have gap := fun hlt => h.gap I hlt
  have xmem : ∀ q ∈ X, ∃ (j : Nat) (p : Param), s[j]? = some p ∧ namedQ p = true ∧ q.name = p.name ∧ (giveQ s f.places f.named j p).given = true ∧ (p.kind = 3 ∨ (p.kind = 1 ∧ V.length < j)) ∧ q.value = hd0 (giveQ s f.places f.named j p).list := fun q hq => by
    obtain ⟨j, p, x, _, hp, hx, hg, hk, rfl⟩ := (I.mem q).1 hq
    have := h.at hp hx
    subst this
    exact ⟨j, p, hp, named_kind.2 (by omega), rfl, hg, hk, rfl⟩
  have hRsub : ∀ v ∈ R, okVal v = true := fun v hv => by
    by_cases h2 : ∃ (j : Nat) (p : Param), s[j]? = some p ∧ p.kind = 2
    · obtain ⟨j, p, hp, hk⟩ := h2
      rw [I.rest j p _ (lt_of_some hp) hp (h.get hp) hk] at hv
      exact give_vals h.flat v hv
    · rw [I.rest0 fun j p _ hp hk => h2 ⟨j, p, hp, hk⟩] at hv; cases hv
  have hRlen : V.length + R.length ≤ 8 := by
    by_cases h2 : ∃ (j : Nat) (p : Param), s[j]? = some p ∧ p.kind = 2
    · obtain ⟨j, p, hp, hk⟩ := h2
      have hR := I.rest j p _ (lt_of_some hp) hp (h.get hp) hk
      rw [give_rest hk] at hR
      have : R.length = f.places.length - placesQ s := by rw [hR]; simp
      omega
    · rw [I.rest0 fun j p _ hp hk => h2 ⟨j, p, hp, hk⟩]; simp; omega
  have hdis : ∀ q ∈ X, ∀ r ∈ Y, q.name ≠ r.name := fun q hq r hr he => by
    obtain ⟨j, p, hp, hn, hqn, _⟩ := xmem q hq
    obtain ⟨k, p', hp', hk', ht, _⟩ := h.mapOf I hr
    have := takes_named h.sig hp hn
    rw [← hqn, he, ht] at this
    have hjk : k = j := by omega
    subst hjk
    rw [hp] at hp'; cases hp'
    rw [named_kind] at hn; omega
  have hYnd : (namesOf Y).Nodup := by
    by_cases h4 : ∃ (j : Nat) (p : Param), s[j]? = some p ∧ p.kind = 4
    · obtain ⟨j, p, hp, hk⟩ := h4
      have hY := I.map j p _ (lt_of_some hp) hp (h.get hp) hk
      unfold giveQ at hY
      rw [if_pos hk] at hY
      simp only at hY
      rw [hY]
      exact h.flat.nodup.sublist (List.filter_sublist.map _)
    · rw [I.map0 fun j p _ hp hk => h4 ⟨j, p, hp, hk⟩]; simp [namesOf]
  have hnd : (namesOf (X ++ Y)).Nodup := by
    unfold namesOf
    rw [List.map_append]
    refine List.nodup_append.2 ⟨I.nodup, hYnd, fun a ha c hc he => ?_⟩
    obtain ⟨q, hq, rfl⟩ := List.mem_map.1 ha
    obtain ⟨r, hr, rfl⟩ := List.mem_map.1 hc
    exact hdis q hq r hr he
  have xnamed : ∀ q ∈ X, q.name ∈ namesOf f.named := fun q hq => by
    obtain ⟨j, p, hp, hn, hqn, hg, hk, _⟩ := xmem q hq
    rw [give_given (single_kind.2 (by omega))] at hg
    simp only [Bool.or_eq_true, Bool.and_eq_true] at hg
    rcases hg with hg | hg
    · exfalso
      simp only [byPl, Bool.and_eq_true, decide_eq_true_eq] at hg
      have hjP := (h.sig.placed_iff hp).1 hg.1
      rcases hk with hk | ⟨hk, hl⟩
      · have := hg.1; rw [placed_kind] at this; omega
      · have := (gap (by omega)).1; omega
    · rw [hqn]; exact any_names.1 hg.2
  have hU : OkF (unbQ s b) := by
    refine ⟨fun q hq => ?_, by rw [I.named]; exact hnd, fun v hv => ?_, by rw [I.places, List.length_append]; exact hRlen, ?_⟩
    · rw [I.named] at hq
      rcases List.mem_append.1 hq with hq | hq
      · obtain ⟨j, p, hp, hn, hqn, hg, hk, hv⟩ := xmem q hq
        have h1 := h.sig.okName (List.mem_of_getElem? hp)
        have h2 := (give_shape (s := s) (pl := f.places) (qs := f.named) (i := j) (p := p) (single_kind.2 (by omega))).1 hg
        have h3 := give_vals (s := s) h.flat (i := j) (p := p) (hd0 (giveQ s f.places f.named j p).list) (by rw [h2]; simp [hd0])
        simp [okPair, hqn, h1, hv, h3]
      · obtain ⟨_, _, _, _, _, hm⟩ := h.mapOf I hq
        exact h.flat.pairs q hm
    · rw [I.places] at hv
      rcases List.mem_append.1 hv with hv | hv
      · obtain ⟨j, hj⟩ := List.getElem?_of_mem hv
        have hjl := lt_of_some hj
        obtain ⟨p, hp⟩ := at_some (xs := s) (i := j) (by omega)
        obtain ⟨a1, a2⟩ := I.vals j _ hjl (h.get hp)
        have hpl := (h.sig.placed_iff hp).2 (by omega)
        have hsg : singleQ p = true := by rw [single_kind]; rw [placed_kind] at hpl; omega
        have h2 := (give_shape (s := s) (pl := f.places) (qs := f.named) (i := j) (p := p) hsg).1 a1
        rw [hj] at a2
        cases a2
        exact give_vals (s := s) h.flat (i := j) (p := p) _ (by rw [h2]; simp [hd0])
      · exact hRsub v hv
    · rw [I.named]
      have := sub_length (namesOf (X ++ Y)) (namesOf f.named) hnd fun n hn => by
        unfold namesOf at hn
        rw [List.map_append] at hn
        rcases List.mem_append.1 hn with hn | hn
        · obtain ⟨q, hq, rfl⟩ := List.mem_map.1 hn
          exact xnamed q hq
        · obtain ⟨q, hq, rfl⟩ := List.mem_map.1 hn
          obtain ⟨_, _, _, _, _, hm⟩ := h.mapOf I hq
          exact List.mem_map_of_mem hm
      simp only [namesOf, List.length_map] at this
      omega
  have hplU : ∀ (i : Nat) (p : Param), s[i]? = some p → placedQ p = true → (i < (unbQ s b).places.length ↔ i < V.length) := fun i p hp hpl => by
    have hiP := (h.sig.placed_iff hp).1 hpl
    rw [I.places, List.length_append]
    constructor
    · intro hi
      refine Classical.byContradiction fun hc => ?_
      have := (gap (by omega)).2.1
      rw [this] at hi
      simp at hi; omega
    · omega
  have hB : ∀ (i : Nat) (p : Param), s[i]? = some p → giveQ s (unbQ s b).places (unbQ s b).named i p = giveQ s f.places f.named i p := fun i p hp => by
    have hkr := h.sig.kindRange (List.mem_of_getElem? hp)
    by_cases hk4 : p.kind = 4
    · have hY := I.map i p _ (lt_of_some hp) hp (h.get hp) hk4
      have e1 : ∀ qs pl, giveQ s pl qs i p = ⟨false, [], qs.filter fun q => takesQ s q.name == (i : Int)⟩ := fun qs pl => by unfold giveQ; rw [if_pos hk4]
      rw [e1] at hY
      simp only at hY
      rw [e1, e1, I.named, List.filter_append]
      have hX : X.filter (fun q => takesQ s q.name == (i : Int)) = [] := by
        rw [List.filter_eq_nil_iff]
        intro q hq ht
        obtain ⟨j, r, hr, hn, hqn, _⟩ := xmem q hq
        have := takes_named h.sig hr hn
        rw [← hqn] at this
        simp only [beq_iff_eq] at ht
        have hij : i = j := by omega
        subst hij
        rw [hp] at hr; cases hr
        rw [named_kind] at hn; omega
      rw [hX, List.nil_append, hY, List.filter_filter]
      simp
    by_cases hk2 : p.kind = 2
    · have hR := I.rest i p _ (lt_of_some hp) hp (h.get hp) hk2
      rw [give_rest hk2] at hR
      simp only at hR
      rw [give_rest hk2, give_rest hk2, I.places, ← hR]
      congr 1
      by_cases hlt : V.length < placesQ s
      · rw [(gap hlt).2.1, List.append_nil]; exact List.drop_eq_nil_of_le (by omega)
      · rw [show placesQ s = V.length by omega, List.drop_left]
    have hsg : singleQ p = true := single_kind.2 (by omega)
    have hsh := give_shape (s := s) (pl := f.places) (qs := f.named) (i := i) (p := p) hsg
    have hget := h.get hp
    generalize giveQ s f.places f.named i p = g at hsh hget ⊢
    rw [give_single hsg]
    by_cases hb : byPl (unbQ s b).places i p = true
    · rw [if_pos hb]
      simp only [byPl, Bool.and_eq_true, decide_eq_true_eq] at hb
      have hiV := (hplU i p hp hb.1).1 hb.2
      obtain ⟨a1, a2⟩ := I.vals i g hiV hget
      rw [hsh.1 a1]
      have : (unbQ s b).places.getD i 0 = hd0 g.list := by
        rw [List.getD_eq_getElem?_getD, I.places, List.getElem?_append_left hiV, a2]; rfl
      rw [this]
    · rw [if_neg hb]
      have hnV : placedQ p = true → V.length ≤ i := fun hpl => Nat.le_of_not_lt fun h0 => hb (by
        simp only [byPl, Bool.and_eq_true, decide_eq_true_eq]; exact ⟨hpl, (hplU i p hp hpl).2 h0⟩)
      have hgap : placedQ p = true → g.given = true → V.length < i := fun hpl hg => by
        have h1 := hnV hpl
        have hiP := (h.sig.placed_iff hp).1 hpl
        have h2 := (gap (by omega)).2.2
        refine Classical.byContradiction fun hc => ?_
        have : i = V.length := by omega
        have := h2 g (by rw [← this]; exact hget)
        rw [hg] at this; cases this
      cases hg : g.given with
      | true =>
        have hk : p.kind = 3 ∨ (p.kind = 1 ∧ V.length < i) := by
          by_cases hk3 : p.kind = 3
          · exact .inl hk3
          · have hpl : placedQ p = true := by rw [placed_kind]; rw [single_kind] at hsg; omega
            have hVi := hgap hpl hg
            refine .inr ⟨?_, hVi⟩
            refine Classical.byContradiction fun hk1 => ?_
            have hk0 : p.kind = 0 := by rw [placed_kind] at hpl; omega
            have hiP := (h.sig.placed_iff hp).1 hpl
            obtain ⟨q, hq⟩ := at_some (xs := s) (i := V.length) (by omega)
            have hgi : (giveQ s f.places f.named i p).given = true := by rw [← h.at hp hget]; exact hg
            have hgq := h.before hp hq hk0 hVi hgi
            have := (gap (by omega)).2.2 _ (h.get hq)
            rw [hgq] at this; cases this
        have hn : namedQ p = true := named_kind.2 (by omega)
        rw [if_pos hn]
        have hm : (⟨p.name, hd0 g.list⟩ : Pair) ∈ X := (I.mem _).2 ⟨i, p, g, lt_of_some hp, hp, hget, hg, hk, rfl⟩
        have hf := find_uniq (qs := (unbQ s b).named) (q := ⟨p.name, hd0 g.list⟩) hU.nodup (by rw [I.named]; exact List.mem_append_left _ hm)
        simp only at hf
        rw [hf]
        exact (hsh.1 hg).symm
      | false =>
        rw [hsh.2 hg]
        split
        · rename_i hn
          have : (unbQ s b).named.find? (nameIs p.name) = none := by
            rw [List.find?_eq_none]
            intro q hq hqn
            simp only [nameIs, beq_iff_eq] at hqn
            rw [I.named] at hq
            rcases List.mem_append.1 hq with hq | hq
            · obtain ⟨j, r, x, _, hr, hx, hgx, _, rfl⟩ := (I.mem q).1 hq
              have hji := name_inj h.sig hr hp hqn
              subst hji
              rw [hget] at hx; cases hx
              rw [hg] at hgx; cases hgx
            · obtain ⟨j, r, hr, hk, ht, _⟩ := h.mapOf I hq
              have := takes_named h.sig hp hn
              rw [← hqn, ht] at this
              have hji : j = i := by omega
              subst hji
              rw [hp] at hr; cases hr
              exact hk4 hk
          rw [this]
        · rfl
  have hacc : accQ s (unbQ s b) = true := by
    have hf3 := ((acc_iff h.sig h.flat).1 h.acc).2.2
    refine (acc_iff h.sig hU).2 ⟨fun hlt => ?_, fun q hq => ?_, ?_⟩
    · by_cases h2 : ∃ (j : Nat) (p : Param), s[j]? = some p ∧ p.kind = 2
      · obtain ⟨j, p, hp, hk⟩ := h2
        exact List.any_eq_true.2 ⟨p, List.mem_of_getElem? hp, by simp [kIs, hk]⟩
      · have hR := I.rest0 fun j p _ hp hk => h2 ⟨j, p, hp, hk⟩
        rw [I.places, hR] at hlt
        simp at hlt; omega
    · rw [wrong_iff2 h.sig]
      rw [I.named] at hq
      rcases List.mem_append.1 hq with hq | hq
      · obtain ⟨j, p, hp, hn, hqn, hg, hk, hv⟩ := xmem q hq
        refine ⟨.inl ⟨j, p, hp, hn, hqn.symm⟩, fun i r hr hrn hre => ?_⟩
        have hij := name_inj h.sig hr hp (by rw [hre, hqn])
        subst hij
        rw [hp] at hr; cases hr
        unfold byPl
        cases hpl : placedQ p with
        | false => rfl
        | true =>
          simp only [Bool.true_and, decide_eq_false_iff_not]
          rw [hplU i p hp hpl]
          rcases hk with hk | ⟨hk, hl⟩
          · rw [placed_kind] at hpl; omega
          · omega
      · obtain ⟨j, r, hr, hk, ht, _⟩ := h.mapOf I hq
        refine ⟨.inr ⟨r, List.mem_of_getElem? hr, hk⟩, fun i p hp hn he => ?_⟩
        have := takes_named h.sig hp hn
        rw [he, ht] at this
        have hji : j = i := by omega
        subst hji
        rw [hp] at hr; cases hr
        rw [named_kind] at hn; omega
    · have : s.mapIdx (giveQ s (unbQ s b).places (unbQ s b).named) = s.mapIdx (giveQ s f.places f.named) := by
        apply List.ext_getElem?
        intro i
        rw [List.getElem?_mapIdx, List.getElem?_mapIdx]
        cases hp : s[i]? with
        | none => rfl
        | some p => simp only [Option.map_some, hB i p hp]
      rw [this]; exact hf3
  refine ⟨h.sig, hU, hacc, ?_⟩
  rw [bound_closed h.sig hU.nodup]
  apply List.ext_getElem?
  intro i
  simp only [closedQ, List.getElem?_mapIdx]
  cases hp : s[i]? with
  | none =>
    have : s.length ≤ i := by rw [List.getElem?_eq_none_iff] at hp; exact hp
    rw [List.getElem?_eq_none (by rw [h.len]; exact this)]; rfl
  | some p => simp only [Option.map_some, hB i p hp, h.get hp]

end

theorem svalidShape_ct (x : Shp) (hx : LenX x) : ACalls pk 34 [.agg (eX x)] [] (fun r o => r = .one (.bool (okX x)) ∧ o = []) := by
  have hl := hx.len
  refine acalls_of_body Tryd.func34 rfl (by kernel_rfl) rfl ?_
  refine rn rfl ?_
  refine goal_loop_keep (fun m σ => ∃ (q : Int) (i : Nat), q = i ∧ i ≤ x.names.length ∧ m = x.names.length - i ∧ (∀ j, j < i → stepN x.names j = true) ∧
      σ = ⟨[(3, .one (.int .i64 q)), (1, .one (.op 0 0 0))], [some ⟨2, [eX x], false, false, true⟩], []⟩) x.names.length [3, 1] [0] rfl
    ⟨_, 0, rfl, by omega, by omega, fun j hj => by omega, rfl⟩ ?_
  rintro m σ ⟨q, i, rfl, hi, rfl, hall, rfl⟩
  refine rn rfl ?_
  refine goal_cond rfl (fun h => ?_) (fun h => ?_) <;> (try simp only [gt_iff_lt, ge_iff_le, bne_iff_ne, ne_eq, bne_eq_false_iff_eq, beq_iff_eq, beq_eq_false_iff_ne, Bool.not_eq_true', Bool.not_eq_false', decide_eq_true_eq, decide_eq_false_iff_not, List.length_map] at h)
  · obtain ⟨n, hn⟩ := at_some (xs := x.names) (i := i) (by omega)
    refine rn rfl ?_
    refine goal_draw' [0] 25 rfl ?_
    refine drn [0, 1, 2] (by kernel_rfl) (by kernel_rfl) rfl rfl ?_
    refine AH_did 3 rfl (by kernel_rfl) (by kernel_rfl) (by kernel_rfl) rfl rfl (dA_index (eS n) rfl rfl rfl rfl rfl rfl rfl (by omega) (by (try simp); omega) (map_at (by simpa using hn)) rfl) ?_
    refine drn [4] (by kernel_rfl) (by kernel_rfl) rfl rfl ?_
    refine AH_one (i := 5) (by kernel_rfl) (step_call [] rfl rfl rfl rfl rfl rfl (validName_ct n (hx.names n (List.mem_of_getElem? hn)))) (by simp) ?_
    rintro σ2 ⟨r, o', ⟨rfl, rfl⟩, hσ⟩
    obtain rfl := Option.some.inj hσ
    clear hσ
    refine drn [6, 7] (by kernel_rfl) (by kernel_rfl) rfl rfl ?_
    refine AH_guard (i := 8) rfl rfl rfl (fun h1 => ?_) (fun h1 => ?_) <;> (try simp only [gt_iff_lt, ge_iff_le, bne_iff_ne, ne_eq, bne_eq_false_iff_eq, beq_iff_eq, beq_eq_false_iff_ne, Bool.not_eq_true', Bool.not_eq_false', decide_eq_true_eq, decide_eq_false_iff_not, List.length_map] at h1)
    · refine drn [8, 9, 10, 11, 12, 13, 14, 15, 16, 17, 18, 19, 20, 21, 22, 23, 24] (by kernel_rfl) (by kernel_rfl) rfl rfl ?_
      refine AH_end (by kernel_rfl) ?_
      refine rn rfl ?_
      refine rn rfl (round_ret (fin_is [] rfl ⟨?_, rfl⟩))
      rw [okX_no (lt_of_some hn)]
      simp [stepN, hn, h1]
    · refine drn [8, 9, 10] (by kernel_rfl) (by kernel_rfl) rfl rfl ?_
      refine AH_guard (i := 11) rfl rfl rfl (fun h2 => ?_) (fun h2 => ?_) <;> (try simp only [gt_iff_lt, ge_iff_le, bne_iff_ne, ne_eq, bne_eq_false_iff_eq, beq_iff_eq, beq_eq_false_iff_ne, Bool.not_eq_true', Bool.not_eq_false', decide_eq_true_eq, decide_eq_false_iff_not, List.length_map] at h2)
      · obtain ⟨k, rfl⟩ : ∃ k, i = k + 1 := ⟨i - 1, by omega⟩
        obtain ⟨l, hl'⟩ := at_some (xs := x.names) (i := k) (by omega)
        have hw : IntKind.i64.wrap (((k + 1 : Nat) : Int) - 1) = (k : Int) := by rw [wrap64 (by omega) (by omega)]; omega
        refine drn [11, 12, 13, 16, 17, 18, 19] (by kernel_rfl) (by kernel_rfl) rfl rfl ?_
        refine AH_did 14 rfl (by kernel_rfl) (by kernel_rfl) (by kernel_rfl) rfl rfl (dA_index (eS n) rfl rfl rfl rfl rfl rfl rfl (by omega) (by (try simp); omega) (map_at (by simpa using hn)) rfl) ?_
        refine drn [15] (by kernel_rfl) (by kernel_rfl) rfl rfl ?_
        refine AH_did 20 rfl (by kernel_rfl) (by kernel_rfl) (by kernel_rfl) rfl rfl (dA_index (eS l) rfl rfl rfl rfl rfl rfl rfl (by rw [hw]; omega) (by rw [hw]; (try simp); omega) (map_at (by rw [hw]; simpa using hl')) rfl) ?_
        refine drn [21, 22, 23, 24] (by kernel_rfl) (by kernel_rfl) rfl rfl ?_
        refine AH_end (by kernel_rfl) ?_
        refine rn rfl ?_
        refine goal_cond rfl (fun h3 => ?_) (fun h3 => ?_)
        · refine rn rfl (round_ret (fin_is [] rfl ⟨?_, rfl⟩))
          have h3' : ltS l n = false := by
            have h4 : ltS n l = true ∨ n = l := by simpa [ltS] using h3
            rcases h4 with h4 | h4
            · exact ltS_asymm h4
            · rw [h4]; exact ltS_irrefl l
          rw [okX_no (lt_of_some hn)]
          simp [stepN, hn, hl', h3']
        · have h3' : ltS l n = true := by
            have h4 : ltS n l = false ∧ ¬ n = l := by simpa [ltS] using h3
            exact ltS_total h4.2 h4.1
          refine rn rfl ?_
          refine round_keep (x.names.length - (k + 1 + 1)) [3, 1] [0] (by omega) rfl ⟨_, k + 1 + 1, wrap64 (by omega) (by omega), by omega, rfl, stepN_all hn hall (by simp [stepN, hn, hl', h1, h3']), rfl⟩
      · refine drn [11, 12, 13, 14, 15, 16, 17, 18, 19, 20, 21, 22, 23, 24] (by kernel_rfl) (by kernel_rfl) rfl rfl ?_
        refine AH_end (by kernel_rfl) ?_
        refine rn rfl ?_
        refine rn rfl ?_
        refine round_keep (x.names.length - (i + 1)) [3, 1] [0] (by omega) rfl ⟨_, i + 1, wrap64 (by omega) (by omega), by omega, rfl, stepN_all hn hall ?_, rfl⟩
        have : i = 0 := by omega
        subst this
        simp [stepN, hn, h1]
  · refine rn rfl (round_ext ?_)
    have hok : okNs x.names = true := okNs_all.2 fun j hj => hall j (by omega)
    refine rn rfl ?_
    refine goal_step (step_call [] rfl rfl rfl rfl rfl rfl (sin_ct x.count 0 8)) ?_
    rintro σ2 ⟨r, o', ⟨rfl, rfl⟩, hσ⟩
    obtain rfl := Option.some.inj hσ
    clear hσ
    refine rn rfl ?_
    refine goal_guard rfl rfl rfl (fun h1 => ?_) (fun h1 => ?_) <;> (try simp only [gt_iff_lt, ge_iff_le, bne_iff_ne, ne_eq, bne_eq_false_iff_eq, beq_iff_eq, beq_eq_false_iff_ne, Bool.not_eq_true', Bool.not_eq_false', decide_eq_true_eq, decide_eq_false_iff_not, List.length_map] at h1)
    · refine rn rfl (fin_is [] rfl ⟨?_, rfl⟩)
      simp [okX, hok, h1]; omega
    · refine rn rfl (fin_is [] rfl ⟨?_, rfl⟩)
      simp [okX, hok, h1]

def piecesQ (c : UInt8) (s : Str) : List Str := if s = [] then [] else cutC c s

theorem splitAt_ct (s : Str) (c : UInt8) (hl : s.length ≤ 1048576) : ACalls pk 32 [.one (.str s), .one (.int .u8 c.toNat)] [] (fun r o => r = .one (.os 0 0 (piecesQ c s).length (piecesQ c s).length) ∧ o = [ownS (piecesQ c s)]) := by
  refine acalls_of_body Tryd.func32 rfl (by kernel_rfl) rfl ?_
  refine rn rfl ?_
  cases hs : (s == []) with
  | true =>
    have h0 : s = [] := by simpa using hs
    subst h0
    refine goal_cond rfl (fun _ => ?_) (fun h => by simp at h)
    refine rn rfl ?_
    exact fin_is [0] rfl ⟨rfl, rfl⟩
  | false =>
    have h0 : ¬ s = [] := by simpa using hs
    have hp : piecesQ c s = cutC c s := by unfold piecesQ; rw [if_neg h0]
    rw [hp]
    refine goal_cond rfl (fun h => by cases h) (fun _ => ?_)
    refine rn rfl ?_
    refine goal_loop_keep (fun m σ => ∃ (q f : Int) (i a n : Nat) (out : List Str), q = i ∧ f = a ∧ a ≤ i ∧ i ≤ s.length ∧ m = s.length - i ∧ n = out.length ∧ out.length ≤ i ∧ out ++ cutF c ((s.drop a).take (i - a)) (s.drop i) = cutC c s ∧
      σ = ⟨[(7, .one (.int .i64 q)), (6, .one (.int .i64 f)), (5, .one (.os 0 0 n n)), (1, .one (.int .u8 c.toNat)), (0, .one (.str s))], [ownS out], []⟩) s.length [7, 6, 5, 1, 0] [0] rfl
      ⟨_, 0, 0, 0, 0, [], rfl, rfl, by omega, by omega, by omega, rfl, by simp, by simp [cutC], rfl⟩ ?_
    rintro m σ ⟨q, f, i, a, n, out, rfl, rfl, hai, hi, rfl, rfl, hol, hcut, rfl⟩
    refine rn rfl ?_
    refine goal_cond rfl (fun h => ?_) (fun h => ?_) <;> (try simp only [gt_iff_lt, ge_iff_le, bne_iff_ne, ne_eq, bne_eq_false_iff_eq, beq_iff_eq, beq_eq_false_iff_ne, Bool.not_eq_true', Bool.not_eq_false', decide_eq_true_eq, decide_eq_false_iff_not, List.length_map] at h)
    · obtain ⟨x, hx⟩ := at_some (xs := s) (i := i) (by omega)
      rw [drop_at hx] at hcut
      refine rn rfl ?_
      refine goal_did rfl rfl (dA_strIndex x rfl rfl rfl rfl rfl rfl (by omega) (by simpa using hx)) ?_
      refine rn rfl ?_
      cases hxc : ((x.toNat : Int) == (c.toNat : Int)) with
      | true =>
        have hxe : x = c := by
          have := beq_iff_eq.1 hxc
          exact UInt8.toNat_inj.1 (by omega)
        subst hxe
        rw [cutF_eq] at hcut
        refine goal_cond rfl (fun _ => ?_) (fun h1 => by simp at h1)
        refine rn rfl ?_
        refine goal_did rfl rfl (dA_strSlice a i ((s.drop a).take (i - a)) rfl rfl rfl rfl (Bnd.some_ rfl rfl) (Bnd.some_ rfl rfl) hai hi rfl rfl) ?_
        refine rn rfl ?_
        refine goal_did rfl rfl (dA_append (old := (out).map eS) (rows := ([(s.drop a).take (i - a)] : List Str).map eS) (((out) ++ ([(s.drop a).take (i - a)] : List Str)).map eS) (out.length + 1) true (Dst.own rfl rfl rfl rfl rfl (by first | (simp; done) | (simp; omega)) (whole (by first | (simp; done) | (simp; omega)))) (Src.os rfl rfl (Nat.le_refl 1) rfl) rfl rfl rfl rfl rfl rfl rfl rfl (rows_len eS_len _) (rows_len eS_len _) (by (try simp only [List.length_map, List.length_append, List.length_cons, List.length_nil, List.length_take, List.length_drop]); show _ * 16 ≤ _; omega) (by first | (simp; done) | (simp; omega)) (by simp) (by first | (simp; done) | (simp; omega)) (fun _ => noOwnR_map _ eS_noOwn _)) ?_
        refine rn rfl ?_
        refine round_keep (s.length - (i + 1)) [7, 6, 5, 1, 0] [2] (by omega) rfl ⟨_, _, i + 1, i + 1, _, out ++ [(s.drop a).take (i - a)], wrap64 (by omega) (by omega), wrap64 (by omega) (by omega), by omega, by omega, rfl, by simp, by simp; omega, ?_, rfl⟩
        rw [← hcut, Nat.sub_self]; simp
      | false =>
        have hxe : x ≠ c := fun h1 => by subst h1; simp at hxc
        rw [cutF_ne hxe] at hcut
        refine goal_cond rfl (fun h1 => by simp at h1) (fun _ => ?_)
        refine rn rfl ?_
        refine round_keep (s.length - (i + 1)) [7, 6, 5, 1, 0] [0] (by omega) rfl ⟨_, _, i + 1, a, _, out, wrap64 (by omega) (by omega), rfl, by omega, by omega, rfl, rfl, by omega, ?_, rfl⟩
        rw [← hcut]
        congr 2
        have : (s.drop a)[i - a]? = some x := by rw [List.getElem?_drop]; rw [show a + (i - a) = i by omega]; exact hx
        rw [show i + 1 - a = (i - a) + 1 by omega, take_snoc this]
    · have hil : i = s.length := by omega
      subst hil
      rw [List.drop_length, cutF_nil] at hcut
      refine rn rfl ?_
      refine round_ext ?_
      refine rn rfl ?_
      refine goal_did rfl rfl (dA_strSlice a s.length ((s.drop a).take (s.length - a)) rfl rfl rfl rfl (Bnd.some_ rfl rfl) Bnd.none_ hai (Nat.le_refl _) rfl rfl) ?_
      refine rn rfl ?_
      refine goal_did rfl rfl (dA_append (old := (out).map eS) (rows := ([(s.drop a).take (s.length - a)] : List Str).map eS) (((out) ++ ([(s.drop a).take (s.length - a)] : List Str)).map eS) (out.length + 1) true (Dst.own rfl rfl rfl rfl rfl (by first | (simp; done) | (simp; omega)) (whole (by first | (simp; done) | (simp; omega)))) (Src.os rfl rfl (Nat.le_refl 1) rfl) rfl rfl rfl rfl rfl rfl rfl rfl (rows_len eS_len _) (rows_len eS_len _) (by (try simp only [List.length_map, List.length_append, List.length_cons, List.length_nil, List.length_take, List.length_drop]); show _ * 16 ≤ _; omega) (by first | (simp; done) | (simp; omega)) (by simp) (by first | (simp; done) | (simp; omega)) (fun _ => noOwnR_map _ eS_noOwn _)) ?_
      refine rn rfl ?_
      rw [← hcut]
      refine fin_is [2] rfl ⟨?_, rfl⟩
      rw [show (out ++ [(s.drop a).take (s.length - a)]).length = out.length + 1 by simp]

def ShT (x : Shp) : Str := Lib.join (Lib.itoa x.count :: x.names) [32]

def ShF (x : Shp) : Str := if okX x then ShT x else []

theorem joinTail_len : ∀ (r : List Str) (k : Nat), (∀ n ∈ r, n.length ≤ k) → (Lib.joinTail [32] r).length ≤ (k + 1) * r.length := by
  intro r k hr
  induction r with
  | nil => simp [Lib.joinTail]
  | cons y r ih =>
    have h1 := hr y (by simp)
    have h2 := ih (fun n hn => hr n (by simp [hn]))
    have e : Lib.joinTail [32] (y :: r) = [32] ++ y ++ Lib.joinTail [32] r := by simp [Lib.joinTail]
    rw [e, List.length_append, List.length_append, List.length_cons, List.length_nil, List.length_cons, Nat.mul_add]
    omega

theorem join_len (r : List Str) (x : Str) (k : Nat) (hx : x.length ≤ k) (hr : ∀ n ∈ r, n.length ≤ k) : (Lib.join (x :: r) [32]).length ≤ (k + 1) * (r.length + 1) := by
  rw [Lib.join_cons, List.length_append, Nat.mul_add]
  have := joinTail_len r k hr
  omega

theorem itoa_short {n : Int} (h0 : 0 ≤ n) (h1 : n ≤ 8) : Lib.itoa n = [UInt8.ofNat (48 + n.toNat)] := by
  have := itoa_nat n.toNat
  rw [show ((n.toNat : Nat) : Int) = n by omega] at this
  rw [this, Lib.decDigits_one (by omega)]

theorem okX_parts {x : Shp} (h : okX x = true) : okNs x.names = true ∧ 0 ≤ x.count ∧ x.count ≤ 8 ∧ x.names.length ≤ 8 ∧ ∀ n ∈ x.names, okName n = true := by
  unfold okX inR at h
  simp only [Bool.and_eq_true, decide_eq_true_eq] at h
  exact ⟨h.1.1, h.1.2.1, h.1.2.2, h.2, (okNs_iff.1 h.1.1).1⟩

theorem okName_len {n : Str} (h : okName n = true) : n.length ≤ 6 := by
  unfold okName inR at h
  simp only [Bool.and_eq_true, decide_eq_true_eq] at h
  omega

theorem iShapeText_ct (x : Shp) (hx : LenX x) : ACalls pk 18 [.agg (eX x)] [] (fun r o => r = .one (.str (ShF x)) ∧ o = []) := by
  refine acalls_of_body Tryd.func18 rfl (by kernel_rfl) rfl ?_
  refine rn rfl ?_
  refine goal_step (step_call [] rfl rfl rfl rfl rfl rfl (ivalidShape_ct x hx)) ?_
  rintro σ2 ⟨r, o', ⟨rfl, rfl⟩, hσ⟩
  obtain rfl := Option.some.inj hσ
  clear hσ
  refine rn rfl ?_
  cases hv : okX x with
  | false =>
    have e : ShF x = [] := by unfold ShF; rw [hv]; rfl
    rw [e]
    refine goal_cond rfl (fun _ => ?_) (fun h => by simp at h)
    exact rn rfl (fin_is [] rfl ⟨rfl, rfl⟩)
  | true =>
    have e : ShF x = ShT x := by unfold ShF; rw [hv]; rfl
    rw [e]
    refine goal_cond rfl (fun h => by simp at h) (fun _ => ?_)
    obtain ⟨k1, k2, k3, k4, k5⟩ := okX_parts hv
    have hfl : [[Lib.itoa x.count], x.names].flatten = Lib.itoa x.count :: x.names := by simp
    have hc := concatS_ct [[Lib.itoa x.count], x.names] (by simp) (by rw [hfl]; simp; omega)
    rw [hfl] at hc
    have hjl := join_len x.names (Lib.itoa x.count) 100 (by rw [itoa_short k2 k3]; simp) (fun n h => by have := okName_len (k5 n h); omega)
    have hj := join_ct (Lib.itoa x.count :: x.names) [32] (by simp; omega) (by
      have : (100 + 1) * (x.names.length + 1) ≤ 101 * 9 := Nat.mul_le_mul_left _ (by omega)
      omega)
    refine rn rfl ?_
    refine goal_draw' [0] 10 rfl ?_
    refine drn [0, 1, 4, 5] (by kernel_rfl) (by kernel_rfl) rfl rfl ?_
    refine AH_one (i := 2) (by kernel_rfl) (step_call [] rfl rfl rfl rfl rfl rfl (itoa_ct x.count (by omega) (by omega))) (by simp) ?_
    rintro σ2 ⟨r, o', ⟨rfl, rfl⟩, hσ⟩
    obtain rfl := Option.some.inj hσ
    clear hσ
    refine AH_oneDid 3 rfl (by kernel_rfl) rfl (dA_step rfl) (mdOk rfl) ?_
    refine AH_oneDid 6 rfl (by kernel_rfl) rfl (dA_step rfl) (mdOk rfl) ?_
    refine AH_one (i := 7) (by kernel_rfl) (step_call [] rfl rfl rfl rfl rfl rfl (hc)) (by simp) ?_
    rintro σ2 ⟨r, o', ⟨rfl, rfl⟩, hσ⟩
    obtain rfl := Option.some.inj hσ
    clear hσ
    refine AH_one (i := 8) (by kernel_rfl) (step_callE [] rfl rfl rfl rfl rfl rfl (congrArg (fun z => [T.one (C.fs z), T.one (C.str [32])]) (takeAll eS _ _ rfl)) (hj)) (by simp) ?_
    rintro σ2 ⟨r, o', ⟨rfl, rfl⟩, hσ⟩
    obtain rfl := Option.some.inj hσ
    clear hσ
    refine drn [9] (by kernel_rfl) (by kernel_rfl) rfl rfl ?_
    refine AH_end (by kernel_rfl) ?_
    refine rn rfl ?_
    exact rn rfl (fin_is [] rfl ⟨rfl, rfl⟩)

def digQ (d : Str) : Option Nat := (List.range 9).find? fun n => d == Lib.itoa (n : Int)

theorem digQ_some {d : Str} {n : Nat} (h : digQ d = some n) : n ≤ 8 ∧ d = Lib.itoa (n : Int) := by
  unfold digQ at h
  have h1 := List.mem_of_find?_eq_some h
  have h2 := List.find?_some h
  rw [List.mem_range] at h1
  exact ⟨by omega, by simpa using h2⟩

theorem itoa_inj {m n : Nat} (hm : m ≤ 8) (hn : n ≤ 8) (h : Lib.itoa (m : Int) = Lib.itoa (n : Int)) : m = n := by
  rw [itoa_short (by omega) (by omega), itoa_short (by omega) (by omega)] at h
  simp only [Int.toNat_natCast, List.cons.injEq, and_true] at h
  have := congrArg UInt8.toNat h
  rw [UInt8.toNat_ofNat', UInt8.toNat_ofNat'] at this
  omega

theorem digQ_of {d : Str} {n : Nat} (hn : n ≤ 8) (h : d = Lib.itoa (n : Int)) : digQ d = some n := by
  cases hd : digQ d with
  | some m =>
    obtain ⟨h1, h2⟩ := digQ_some hd
    rw [itoa_inj h1 hn (by rw [← h2, h])]
  | none =>
    exfalso
    unfold digQ at hd
    rw [List.find?_eq_none] at hd
    have := hd n (by rw [List.mem_range]; omega)
    simp [h] at this

def PShF (t : Str) : Shp × Bool := match cutC 32 t with
  | [] => (⟨0, []⟩, false)
  | d :: names => match digQ d with
    | some n => if okX ⟨(n : Int), names⟩ then (⟨(n : Int), names⟩, true) else (⟨0, []⟩, false)
    | none => (⟨0, []⟩, false)

theorem psh_yes {t d : Str} {names : List Str} {n : Int} (hc : cutC 32 t = d :: names) (hd : d = Lib.itoa n) (hv : okX ⟨n, names⟩ = true) : PShF t = (⟨n, names⟩, true) := by
  obtain ⟨_, h1, h2, _⟩ := okX_parts hv
  simp only at h1 h2
  have hn : ((n.toNat : Nat) : Int) = n := by omega
  have := digQ_of (d := d) (n := n.toNat) (by omega) (by rw [hn]; exact hd)
  unfold PShF
  rw [hc]
  simp only
  rw [this]
  simp only [hn]
  rw [if_pos hv]

theorem psh_no {t d : Str} {names : List Str} (hc : cutC 32 t = d :: names) (h : ∀ n : Int, d = Lib.itoa n → okX ⟨n, names⟩ = true → False) : PShF t = (⟨0, []⟩, false) := by
  unfold PShF
  rw [hc]
  simp only
  cases hd : digQ d with
  | none => rfl
  | some n =>
    obtain ⟨_, h2⟩ := digQ_some hd
    simp only
    rw [if_neg (fun h0 => h n h2 h0)]

theorem cut_ex (c : UInt8) (t : Str) : ∃ d names, cutC c t = d :: names ∧ names.length ≤ t.length ∧ d.length ≤ t.length ∧ ∀ n ∈ names, n.length ≤ t.length := by
  have h1 := cutF_ne_nil c t []
  obtain ⟨h2, h3⟩ := cutF_len c t []
  unfold cutC
  cases hc : cutF c [] t with
  | nil => exact absurd hc h1
  | cons d names =>
    rw [hc] at h2 h3
    refine ⟨d, names, rfl, by simpa using h2, ?_, fun n hn => ?_⟩
    · simpa using h3 d (by simp)
    · simpa using h3 n (by simp [hn])

theorem atoi_small {d : Str} {names : List Str} {m : Int} (hv : okX ⟨m, names⟩ = true) (hm : d = Lib.itoa m) : Lib.atoiAll d = .ok m := by
  obtain ⟨_, h1, h2, _⟩ := okX_parts hv
  simp only at h1 h2
  have := atoi_digit (n := m.toNat) (by omega)
  rw [show ((m.toNat : Nat) : Int) = m by omega] at this
  rw [hm]; exact this

theorem clonS_ct (xs : List Str) (hl : xs.length ≤ 16777216) :
    ACalls pk 37 [.one (.fs (xs.map eS))] [] (fun r o => r = .one (.os 0 0 xs.length xs.length) ∧ o = [ownS xs]) := by
  refine acalls_of_body Tryd.func37 rfl (by kernel_rfl) rfl ?_
  refine rn rfl ?_
  refine goal_step (step_call [] rfl rfl rfl rfl rfl rfl (cloneS_ct xs hl)) ?_
  rintro σ2 ⟨r, o', ⟨rfl, rfl⟩, hσ⟩
  obtain rfl := Option.some.inj hσ
  clear hσ
  refine rn rfl ?_
  refine goal_step (step_call [0] rfl rfl rfl rfl rfl rfl (clipS_ct xs xs.length (Nat.le_refl _))) ?_
  rintro σ2 ⟨r, o', ⟨rfl, rfl⟩, hσ⟩
  obtain rfl := Option.some.inj hσ
  clear hσ
  refine rn rfl ?_
  exact rn rfl (fin_is [0] rfl ⟨rfl, rfl⟩)

theorem iParseShape_ct (t : Str) (hl : t.length ≤ 1048576) : ACalls pk 13 [.one (.str t)] [] (fun r o => r = .tup [rX (PShF t).1, .one (.bool (PShF t).2)] ∧ o = oX (PShF t).1) := by
  obtain ⟨d, names, hc, hnl, hdl, hns⟩ := cut_ex 32 t
  have hsp := split_ct t [32] (by omega) (by simp)
  rw [split_cut, hc] at hsp
  refine acalls_of_body Tryd.func13 rfl (by kernel_rfl) rfl ?_
  refine rn rfl ?_
  refine goal_step (step_call [] rfl rfl rfl rfl rfl rfl (hsp)) ?_
  rintro σ2 ⟨r, o', ⟨rfl, rfl⟩, hσ⟩
  obtain rfl := Option.some.inj hσ
  clear hσ
  refine rn rfl ?_
  refine goal_did rfl rfl (dA_index (eS d) rfl rfl rfl rfl rfl rfl rfl (by omega) (by simp only [List.length_map, List.length_cons]; omega) rfl rfl) ?_
  refine rn rfl ?_
  refine goal_step (step_call [] rfl rfl rfl rfl rfl rfl (ird_ct d (by omega))) ?_
  rintro σ2 ⟨r, o', ⟨⟨n, ok, rfl, h1, h2, h3, h4⟩, rfl⟩, hσ⟩
  obtain rfl := Option.some.inj hσ
  clear hσ
  have lx : LenX ⟨n, names⟩ := ⟨by simp only; omega, fun m hm => by have := hns m hm; omega⟩
  refine rn rfl ?_
  refine goal_did rfl rfl (dA_slice 1 (names.length + 1) (names.map eS) rfl rfl rfl rfl rfl (Bnd.some_ rfl rfl) (by simp [Bnd]) (rows_len eS_len _) (by omega) (by simp) rfl (by simp [List.take_of_length_le])) ?_
  refine rn rfl ?_
  refine goal_step (step_call [] rfl rfl rfl rfl rfl rfl (clonS_ct names (by omega))) ?_
  rintro σ2 ⟨r, o', ⟨rfl, rfl⟩, hσ⟩
  obtain rfl := Option.some.inj hσ
  clear hσ
  refine rn rfl ?_
  cases ok with
  | false =>
    have e : PShF t = (⟨0, []⟩, false) := psh_no hc fun m hm hv => by
      have := (h2 m (atoi_small hv hm) hm.symm).1
      cases this
    rw [e]
    refine goal_guard rfl rfl rfl (fun _ => ?_) (fun h => by simp at h)
    refine rn rfl ?_
    exact fin_weak (Weak.adoptO 0 1 1) (fin_is [3] rfl ⟨rfl, rfl⟩)
  | true =>
    have hd : d = Lib.itoa n := h1 rfl
    refine goal_guard rfl rfl rfl (fun h => by simp at h) (fun _ => ?_)
    refine rn rfl ?_
    refine goal_step (step_lendE [] rfl rfl rfl rfl rfl rfl rfl (cons_eq (asX ⟨n, names⟩) rfl) (ivalidShape_ct ⟨n, names⟩ lx) (by rintro r o ⟨rfl, rfl⟩; exact ⟨rfl, rfl⟩)) ?_
    rintro σ2 ⟨r, o', ⟨rfl, rfl⟩, hσ⟩
    obtain rfl := Option.some.inj hσ
    clear hσ
    refine rn rfl ?_
    cases hv : okX ⟨n, names⟩ with
    | false =>
      have e : PShF t = (⟨0, []⟩, false) := psh_no hc fun m hm hv' => by
        have := (h2 m (atoi_small hv' hm) hm.symm).2
        rw [this, hv'] at hv; cases hv
      rw [e]
      refine goal_guard rfl rfl rfl (fun _ => ?_) (fun h => by simp at h)
      refine rn rfl ?_
      exact fin_weak (Weak.adoptO 0 1 1) (fin_is [3] rfl ⟨rfl, rfl⟩)
    | true =>
      have e := psh_yes hc hd hv
      rw [e]
      have ht : ShF ⟨n, names⟩ = t := by
        unfold ShF ShT
        rw [if_pos hv]
        simp only
        rw [← hd, ← hc]
        unfold cutC
        rw [join_cut]; simp
      refine goal_guard rfl rfl rfl (fun h => by simp at h) (fun _ => ?_)
      refine rn rfl ?_
      refine goal_step (step_lendE [] rfl rfl rfl rfl rfl rfl rfl (cons_eq (asX ⟨n, names⟩) rfl) (iShapeText_ct ⟨n, names⟩ lx) (by rintro r o ⟨rfl, rfl⟩; exact ⟨rfl, rfl⟩)) ?_
      rintro σ2 ⟨r, o', ⟨rfl, rfl⟩, hσ⟩
      obtain rfl := Option.some.inj hσ
      clear hσ
      refine rn rfl ?_
      rw [ht]
      refine goal_cond rfl (fun h => by simp at h) (fun _ => ?_)
      refine rn rfl ?_
      exact fin_is [1] rfl ⟨rfl, rfl⟩

theorem RdS_digit {m : Nat} (h : m ≤ 8) : RdS (Lib.itoa (m : Int)) = ((m : Int), true) := by
  have hi := itoa_short (n := (m : Int)) (by omega) (by omega)
  simp only [Int.toNat_natCast] at hi
  have hc : (UInt8.ofNat (48 + m)).toNat = 48 + m := by rw [UInt8.toNat_ofNat']; omega
  have ha : sgnAt [UInt8.ofNat (48 + m)] = 0 := by
    unfold sgnAt
    simp only [hc]
    rw [if_neg (by simp; omega)]
  have hs : stepD 0 (UInt8.ofNat (48 + m)) = some m := by
    unfold stepD
    rw [hc, if_neg (by omega), if_neg (by omega), if_neg (by omega)]
    congr 1; omega
  unfold RdS
  rw [hi, ha, List.drop_zero, foldD_cons, hs]
  simp only [Option.bind_some, foldD_nil]
  have hg : sgQ [UInt8.ofNat (48 + m)] m = (m : Int) := by unfold sgQ; rw [ha]; rfl
  rw [hg, hi]; simp

theorem splitAtD_ct (s : Str) (c : UInt8) (hl : s.length ≤ 1048576) : ACalls pk 32 [.one (.str s), .one (.int .u8 c.toNat)] [] (fun r o => r = .one (.fs ((piecesQ c s).map eS)) ∧ o = []) :=
  (splitAt_ct s c hl).told [] (by rintro r o ⟨rfl, rfl⟩; exact ⟨_, _, rfl, congrArg (fun x => T.one (C.fs x)) (takeAll eS _ _ rfl), rfl⟩)

theorem sParseShape_ct (t : Str) (hl : t.length ≤ 1048576) : ACalls pk 12 [.one (.str t)] [] (fun r o => r = .tup [.agg (eX (PShF t).1), .one (.bool (PShF t).2)] ∧ o = []) := by
  obtain ⟨d, names, hc, hnl, hdl, hns⟩ := cut_ex 32 t
  have hsp := splitAtD_ct t 32 hl
  unfold piecesQ at hsp
  by_cases h0 : t = []
  · have e : PShF t = (⟨0, []⟩, false) := by
      subst h0
      have : cutC 32 [] = [[]] := rfl
      refine psh_no this fun n hn hv => ?_
      obtain ⟨_, h1, h2, _⟩ := okX_parts hv
      rw [itoa_short h1 h2] at hn
      cases hn
    rw [if_pos h0] at hsp
    rw [e]
    refine acalls_of_body Tryd.func12 rfl (by kernel_rfl) rfl ?_
    refine rn rfl ?_
    refine goal_step (step_call [] rfl rfl rfl rfl rfl rfl (hsp)) ?_
    rintro σ2 ⟨r, o', ⟨rfl, rfl⟩, hσ⟩
    obtain rfl := Option.some.inj hσ
    clear hσ
    refine rn rfl ?_
    refine goal_cond rfl (fun _ => ?_) (fun h => by simp at h)
    exact rn rfl (fin_is [] rfl ⟨rfl, rfl⟩)
  rw [if_neg h0, hc] at hsp
  have hR := srd_ct d (by omega)
  have lx : LenX ⟨(RdS d).1, names⟩ := ⟨by simp only; omega, fun m hm => by have := hns m hm; omega⟩
  have hok : (RdS d).2 = true → d = Lib.itoa (RdS d).1 := fun h => by
    unfold RdS at h ⊢
    cases hf : foldD 0 (d.drop (sgnAt d)) with
    | none => rw [hf] at h; cases h
    | some n => rw [hf] at h; simpa using h
  have hof : ∀ m : Int, d = Lib.itoa m → okX ⟨m, names⟩ = true → RdS d = (m, true) := fun m hm hv => by
    obtain ⟨_, h1, h2, _⟩ := okX_parts hv
    simp only at h1 h2
    have := RdS_digit (m := m.toNat) (by omega)
    rw [show ((m.toNat : Nat) : Int) = m by omega] at this
    rw [hm]; exact this
  generalize RdS d = R at *
  obtain ⟨n, ok⟩ := R
  simp only at hR lx hok hof
  refine acalls_of_body Tryd.func12 rfl (by kernel_rfl) rfl ?_
  refine rn rfl ?_
  refine goal_step (step_call [] rfl rfl rfl rfl rfl rfl (hsp)) ?_
  rintro σ2 ⟨r, o', ⟨rfl, rfl⟩, hσ⟩
  obtain rfl := Option.some.inj hσ
  clear hσ
  refine rn rfl ?_
  refine goal_cond rfl (fun h => by simp at h; omega) (fun _ => ?_)
  refine rn rfl ?_
  refine goal_did rfl rfl (dA_index (eS d) rfl rfl rfl rfl rfl rfl rfl (by omega) (by simp only [List.length_map, List.length_cons]; omega) rfl rfl) ?_
  refine rn rfl ?_
  refine goal_step (step_call [] rfl rfl rfl rfl rfl rfl (hR)) ?_
  rintro σ2 ⟨r, o', ⟨rfl, rfl⟩, hσ⟩
  obtain rfl := Option.some.inj hσ
  clear hσ
  refine rn rfl ?_
  refine goal_did rfl rfl (dA_slice 1 (names.length + 1) (names.map eS) rfl rfl rfl rfl rfl (Bnd.some_ rfl rfl) (by simp [Bnd]) (rows_len eS_len _) (by omega) (by simp) rfl (by simp [List.take_of_length_le])) ?_
  refine rn rfl ?_
  cases ok with
  | false =>
    have e : PShF t = (⟨0, []⟩, false) := psh_no hc fun m hm hv => by
      have := hof m hm hv
      cases this
    rw [e]
    refine goal_guard rfl rfl rfl (fun _ => ?_) (fun h => by simp at h)
    exact rn rfl (fin_is [] rfl ⟨rfl, rfl⟩)
  | true =>
    refine goal_guard rfl rfl rfl (fun h => by simp at h) (fun _ => ?_)
    refine rn rfl ?_
    refine goal_step (step_call [] rfl rfl rfl rfl rfl rfl (svalidShape_ct ⟨n, names⟩ lx)) ?_
    rintro σ2 ⟨r, o', ⟨rfl, rfl⟩, hσ⟩
    obtain rfl := Option.some.inj hσ
    clear hσ
    refine rn rfl ?_
    cases hv : okX ⟨n, names⟩ with
    | false =>
      have e : PShF t = (⟨0, []⟩, false) := psh_no hc fun m hm hv' => by
        have := hof m hm hv'
        cases this
        rw [hv'] at hv; cases hv
      rw [e]
      refine goal_cond rfl (fun _ => ?_) (fun h => by simp at h)
      exact rn rfl (fin_is [] rfl ⟨rfl, rfl⟩)
    | true =>
      rw [psh_yes hc (hok rfl) hv]
      refine goal_cond rfl (fun h => by simp at h) (fun _ => ?_)
      exact rn rfl (fin_is [] rfl ⟨rfl, rfl⟩)

theorem psh_len (t : Str) : (PShF t).1.names.length ≤ 8 := by
  unfold PShF
  split
  · simp
  · split
    · split
      · rename_i h
        exact (okX_parts h).2.2.2.1
      · simp
    · simp

theorem fnExactParseShape_ct (t : Str) (hl : t.length ≤ 9223372036854775807) : ACalls pk 4 [.one (.str t)] [] (fun r o => r = .one (.bool true) ∧ o = []) := by
  refine acalls_of_body Tryd.func4 rfl (by kernel_rfl) rfl ?_
  refine rn rfl ?_
  refine goal_cond rfl (fun h => ?_) (fun h => ?_) <;> (try simp only [gt_iff_lt, ge_iff_le, bne_iff_ne, ne_eq, bne_eq_false_iff_eq, beq_iff_eq, beq_eq_false_iff_ne, Bool.not_eq_true', Bool.not_eq_false', decide_eq_true_eq, decide_eq_false_iff_not, List.length_map] at h)
  · exact rn rfl (fin_is [] rfl ⟨rfl, rfl⟩)
  have hi := iParseShape_ct t (by omega)
  have hsp := sParseShape_ct t (by omega)
  have g1 := psh_len t
  generalize (PShF t).1 = x at *
  generalize (PShF t).2 = b at *
  refine rn rfl ?_
  refine goal_step (step_call [] rfl rfl rfl rfl rfl rfl (hsp)) ?_
  rintro σ2 ⟨r, o', ⟨rfl, rfl⟩, hσ⟩
  obtain rfl := Option.some.inj hσ
  clear hσ
  refine rn rfl ?_
  refine rn rfl ?_
  refine goal_step (step_call [] rfl rfl rfl rfl rfl rfl (hi)) ?_
  rintro σ2 ⟨r, o', ⟨rfl, rfl⟩, hσ⟩
  obtain rfl := Option.some.inj hσ
  clear hσ
  refine rn rfl ?_
  refine goal_step (step_lendE [] rfl rfl rfl rfl rfl rfl rfl (congrArg (fun t => [t, T.agg (eX x)]) (asX x)) (eqShape_ct x (by omega)) (by rintro r o ⟨rfl, rfl⟩; exact ⟨rfl, rfl⟩)) ?_
  rintro σ2 ⟨r, o', ⟨rfl, rfl⟩, hσ⟩
  obtain rfl := Option.some.inj hσ
  clear hσ
  refine rn rfl ?_
  refine goal_guard rfl rfl rfl (fun h1 => by cases h1) (fun _ => ?_)
  refine rn rfl ?_
  refine goal_cond rfl (fun h => by simp at h) (fun _ => ?_)
  refine rn rfl ?_
  refine goal_step (step_call [1] rfl rfl rfl rfl rfl rfl (markShape_ct x 1 x.names.length (by omega) (by omega) (by omega))) ?_
  rintro σ2 ⟨r, o', ⟨rfl, rfl⟩, hσ⟩
  obtain rfl := Option.some.inj hσ
  clear hσ
  refine rn rfl ?_
  refine rn rfl ?_
  refine goal_step (step_lendE [] rfl rfl rfl rfl rfl rfl rfl (congrArg (fun t => [T.agg [C.int .i64 x.count, C.fs t], T.one (.int .i64 1)]) (takeAll eS _ _ (seqS_length _ _))) (heldShape_ct x.count x.names.length 1 (by omega) (by omega) (by omega)) (by rintro r o ⟨rfl, rfl⟩; exact ⟨rfl, rfl⟩)) ?_
  rintro σ2 ⟨r, o', ⟨rfl, rfl⟩, hσ⟩
  obtain rfl := Option.some.inj hσ
  clear hσ
  refine rn rfl ?_
  refine goal_cond rfl (fun h => ?_) (fun h => ?_) <;> simp only [decide_eq_true_eq, decide_eq_false_iff_not] at h
  · omega
  refine rn rfl ?_
  refine goal_cond rfl (fun h => by simp at h) (fun _ => ?_)
  refine rn rfl ?_
  refine goal_step (step_call [] rfl rfl rfl rfl rfl rfl (hi)) ?_
  rintro σ2 ⟨r, o', ⟨rfl, rfl⟩, hσ⟩
  obtain rfl := Option.some.inj hσ
  clear hσ
  refine rn rfl ?_
  refine goal_step (step_lendE [] rfl rfl rfl rfl rfl rfl rfl (congrArg (fun t => [t, T.agg (eX x)]) (asX x)) (eqShape_ct x (by omega)) (by rintro r o ⟨rfl, rfl⟩; exact ⟨rfl, rfl⟩)) ?_
  rintro σ2 ⟨r, o', ⟨rfl, rfl⟩, hσ⟩
  obtain rfl := Option.some.inj hσ
  clear hσ
  refine rn rfl ?_
  refine goal_guard rfl rfl rfl (fun h1 => by cases h1) (fun _ => ?_)
  refine rn rfl ?_
  refine goal_cond rfl (fun h => by simp at h) (fun _ => ?_)
  refine rn rfl ?_
  refine goal_step (step_lendE [] rfl rfl rfl rfl rfl rfl rfl (congrArg (fun t => [T.agg [C.int .i64 x.count, C.fs t], T.one (.int .i64 1)]) (takeAll eS _ _ (seqS_length _ _))) (heldShape_ct x.count x.names.length 1 (by omega) (by omega) (by omega)) (by rintro r o ⟨rfl, rfl⟩; exact ⟨rfl, rfl⟩)) ?_
  rintro σ2 ⟨r, o', ⟨rfl, rfl⟩, hσ⟩
  obtain rfl := Option.some.inj hσ
  clear hσ
  refine rn rfl ?_
  refine goal_cond rfl (fun h => ?_) (fun h => ?_) <;> simp only [decide_eq_true_eq, decide_eq_false_iff_not] at h
  · omega
  refine rn rfl ?_
  refine goal_cond rfl (fun h => by simp at h) (fun _ => ?_)
  exact rn rfl (fin_is [] rfl ⟨rfl, rfl⟩)

section
open Go Go.ChangeShapes Go.WideShapes Go.ChangeAt Go.RowKit
theorem var_heap {P : Program} {W : World} {name : String} {g : Nat} {cs : Array Value} (hn : P.globalNamed name = some g) (h : W.var? P name = some cs) : ∃ t fr, W.heap[g]? = some (.cells cs t fr) := by
  unfold World.var? at h
  rw [hn, Option.bind_some] at h
  split at h
  · rename_i cs' t fr hh
    cases h
    exact ⟨t, fr, hh⟩
  · cases h

theorem err_row (u : TypeId) (h : Tryd.prog.typeName? 3 u = some "*errors.errorString") : u = 172 := by
  have hs : "*" ++ "errors.errorString" = "*errors.errorString" := by decide
  exact typeName_ptr_named (nm := "errors.errorString") (by rw [hs]; kernel_rfl) (by kernel_rfl) (by decide) u (by rw [hs]; exact h)

theorem glob_entry {W : World} {a b d : String × DataW Unit} {r : List (String × DataW Unit)} (hsh : W.ShapedOpen Tryd.prog)
    (hL : laidMet Tryd.prog (a :: b :: ("internal/strconv.uint64pow10", Rows.laid_internal_strconv_uint64pow10) :: d :: ("strconv.ErrRange", Rows.laid_strconv_ErrRange) :: ("strconv.ErrSyntax", Rows.laid_strconv_ErrSyntax) :: r) W) : GlobOk W [] := by
  have hp : Lib.TabIs Tryd.prog W "internal/strconv.uint64pow10" .u64 Lib.pow10Tab := Lib.tabIs_of_head (g := 3) (t := 161) (e := 148) (n := 20) (by kernel_rfl) (by kernel_rfl) (by kernel_rfl) (by kernel_rfl) (by kernel_rfl) (by kernel_rfl) (show laidMet _ (("internal/strconv.uint64pow10", Lib.tabData .u64 Lib.pow10Tab) :: _) W from hL.tail.tail)
  obtain ⟨a1, s1, h1, -⟩ := laid_sentinel hL.tail.tail.tail.tail (show Tryd.prog.globalNamed "strconv.ErrRange" = some 2 by kernel_rfl) (show (Tryd.prog.globals[2]?).map (·.type) = some 60 by kernel_rfl) Tryd.underlying60 err_row Tryd.underlying172 Tryd.underlying174 rfl rfl Tryd.underlying9 (by kernel_rfl) (by kernel_rfl)
  obtain ⟨a2, s2, h2, -⟩ := laid_sentinel hL.tail.tail.tail.tail.tail (show Tryd.prog.globalNamed "strconv.ErrSyntax" = some 1 by kernel_rfl) (show (Tryd.prog.globals[1]?).map (·.type) = some 60 by kernel_rfl) Tryd.underlying60 err_row Tryd.underlying172 Tryd.underlying174 rfl rfl Tryd.underlying9 (by kernel_rfl) (by kernel_rfl)
  obtain ⟨m, hm⟩ := Go.Proofs.cell_of_shapedOpen_int (g := 0) (zero := #[.int .i64 0]) (t := 3) hsh (of_decide_eq_true (by kernel_rfl)) (by kernel_rfl) rfl (by kernel_rfl) (by kernel_rfl) Tryd.underlying3
  obtain ⟨t1, f1, e1⟩ := var_heap (by kernel_rfl) h1
  obtain ⟨t2, f2, e2⟩ := var_heap (by kernel_rfl) h2
  obtain ⟨t3, f3, e3⟩ := var_heap (g := 3) (by kernel_rfl) hp
  intro g hg
  refine ⟨by rintro ⟨id, ad, esz, cap, n, he, _⟩; simp at he, ?_⟩
  simp only [GL, List.mem_cons, List.not_mem_nil, or_false] at hg
  rcases hg with rfl | rfl | rfl | rfl
  · unfold World.cell? at hm
    split at hm
    · rename_i cs t fr hh
      split at hm
      · cases hm
      · exact ⟨_, hh, cs, t, fr, rfl, fun _ => ⟨m, by simpa using hm⟩, fun h => by omega, fun h => by omega⟩
    · cases hm
  · exact ⟨_, e2, _, _, _, rfl, fun h => by omega, fun _ => ⟨_, _, rfl⟩, fun h => by omega⟩
  · exact ⟨_, e1, _, _, _, rfl, fun h => by omega, fun _ => ⟨_, _, rfl⟩, fun h => by omega⟩
  · exact ⟨_, e3, _, _, _, rfl, fun h => by omega, fun h => by omega, fun _ => rfl⟩

/-- The wrap that keeps the world's shape and the listed variables. -/
theorem returnsInHanded_and_shaped {H : Type} {enc : TypeId × Value → H} {a : Assume} {C : Checked} {os : Os} {f : FuncId} {fn : Func} {s : ChangeSpec} {conds : List PathCond} {apart fresh handsOn again : Bool} {X : World → Array Value → Prop}
    (hX : ∀ (w w' : World) (args : Array Value), w.heap = w'.heap → X w args → X w' args)
    (own : ownKnob C.prog.godebug = none) (started : os.Started) (noInit : C.prog.inits.idxOf? f = none) (hfn : C.prog.funcs[f]? = some fn)
    (witness : ∃ (w : World) (tape : Tape) (i : Input), w.os = os ∧ (w.forCall tape i).Shaped C.prog ∧ i.vars = [] ∧ Input.okWide C.prog (w.forCall tape i) .any w.heap.size f i ∧
      ((s.pre enc C.prog fn conds apart (w.forCall tape i).memory i.args ∧ X (w.forCall tape i).memory i.args) ∧ sizedMet enc C.prog fn (OpenSpec.ofChange s) apart (w.forCall tape i).memory i.args) ∧ a.holds C.prog (lone (Frame.enter C.prog f i.args .normal) [] (w.forCall tape i)))
    (contract : ∀ (W : World) (base : Nat) (args : Array Value) (ds gs : List (DataW H)) (before : List MemPlace),
      (∀ (j : Nat) t v, fn.params[j]? = some t → args[j]? = some v → Value.okWide C.prog W .any base t v) →
      DataW.Whole enc C.prog fn.params.toList s.vars apart W args.toList ds gs before →
      X W args → W.ShapedOpen C.prog →
      Calls C.prog f args W fun e W' => ∃ v, e = .returned v ∧ s.post enc C.prog fn apart fresh handsOn again W args v W') :
    ReturnsInHanded a C os f .any (fun w args => (s.pre enc C.prog fn conds apart w args ∧ X w args) ∧ sizedMet enc C.prog fn (OpenSpec.ofChange s) apart w args) (s.post enc C.prog fn apart fresh handsOn again) := by
  refine returnsInHanded_of_calls own started noInit witness ?_
  intro w tape i _ hsh _ hok hpre hholds
  obtain ⟨_, _, _, fn', hfn', _, _, _, _, hval⟩ := hok
  have e : fn' = fn := Option.some.inj (hfn'.symm.trans hfn)
  subst e
  obtain ⟨⟨⟨ds, gs, before, hw, hc⟩, hx⟩, hz⟩ := hpre
  have hw' := DataW.Whole.of_heap (w' := w.forCall tape i) (by rfl) hw
  refine (contract (w.forCall tape i) w.heap.size i.args ds gs before hval hw' (hX _ _ _ (by rfl) hx) hsh).mono fun e W' ⟨v, he, hp⟩ => ?_
  subst he
  exact ChangeSpec.post_blind hp
end

end Go.Proofs.YtbenojnoepkgbaaDoor
