/- Part 3 of the proof: an abstract machine over the model; contracts of the functions that the law reaches. -/
import Derived.Test.YtodggffbepfemaaKShapeOf2
set_option linter.unusedVariables false
set_option linter.unusedSimpArgs false
namespace Go.Proofs.Ytodggffbepfemaa
open Go
set_option maxRecDepth 100000

theorem u8_lt_irrefl (a : UInt8) : ¬ a < a := by simp [UInt8.lt_iff_toNat_lt]

theorem ltS_irrefl : ∀ a : Str, ltS a a = false
  | [] => rfl
  | x :: a => by
    have := ltS_irrefl a
    simp only [ltS] at this ⊢
    simp only [Op.bytesLess, this, Bool.and_false, Bool.or_false, decide_eq_false_iff_not]
    exact u8_lt_irrefl x

theorem ltS_cons (x y : UInt8) (a b : Str) : ltS (x :: a) (y :: b) = true ↔ x.toNat < y.toNat ∨ (x = y ∧ ltS a b = true) := by
  simp [ltS, Op.bytesLess, UInt8.lt_iff_toNat_lt]

theorem ltS_nil (a : Str) : ltS a [] = false := by cases a <;> rfl

theorem ltS_trans : ∀ {a b c : Str}, ltS a b = true → ltS b c = true → ltS a c = true
  | a, [], c, h, _ => by rw [ltS_nil] at h; cases h
  | a, y :: b, [], _, h => by rw [ltS_nil] at h; cases h
  | [], y :: b, z :: c, _, _ => rfl
  | x :: a, y :: b, z :: c, h1, h2 => by
    rw [ltS_cons] at h1 h2 ⊢
    rcases h1 with h1 | ⟨rfl, h1⟩
    · rcases h2 with h2 | ⟨rfl, h2⟩
      · left; omega
      · left; exact h1
    · rcases h2 with h2 | ⟨rfl, h2⟩
      · left; exact h2
      · right; exact ⟨rfl, ltS_trans h1 h2⟩

theorem ltS_total : ∀ {a b : Str}, a ≠ b → ltS a b = false → ltS b a = true
  | [], [], h, _ => absurd rfl h
  | [], y :: b, _, h => by cases h
  | x :: a, [], _, _ => rfl
  | x :: a, y :: b, hne, h => by
    have h' : ¬ ltS (x :: a) (y :: b) = true := by rw [h]; simp
    rw [ltS_cons] at h'
    rw [ltS_cons]
    by_cases hxy : x = y
    · subst hxy
      right
      refine ⟨rfl, ltS_total (fun h0 => hne (by rw [h0])) ?_⟩
      cases hb : ltS a b with
      | false => rfl
      | true => exact absurd (.inr ⟨rfl, hb⟩) h'
    · left
      have : x.toNat ≠ y.toNat := fun h0 => hxy (UInt8.toNat_inj.1 h0)
      omega

theorem ltS_asymm {a b : Str} (h : ltS a b = true) : ltS b a = false := by
  cases hb : ltS b a with
  | false => rfl
  | true => have := ltS_trans h hb; rw [ltS_irrefl] at this; cases this

/-- Sorted, the nearest to the right the greatest. -/
def Sorted (S : List Pair) : Prop := S.Pairwise (fun a b => ltN a b = true)

theorem insL_cons_lt {p q : Pair} {S : List Pair} (h : ltN q p = true) : insL p (q :: S) = q :: insL p S := by simp [insL, h]

theorem insL_cons_ge {p q : Pair} {S : List Pair} (h : ltN q p = false) : insL p (q :: S) = p :: q :: S := by simp [insL, h]

theorem insL_mem {p x : Pair} : ∀ {S : List Pair}, x ∈ insL p S ↔ x = p ∨ x ∈ S
  | [] => by simp [insL]
  | q :: S => by
    cases h : ltN q p with
    | true =>
      rw [insL_cons_lt h, List.mem_cons, List.mem_cons, insL_mem (S := S)]
      constructor
      · rintro (h | h | h) <;> simp [h]
      · rintro (h | h | h) <;> simp [h]
    | false => rw [insL_cons_ge h]; simp

theorem insL_sorted {p : Pair} : ∀ {S : List Pair}, Sorted S → (∀ q ∈ S, q.name ≠ p.name) → Sorted (insL p S)
  | [], _, _ => by simp [insL, Sorted]
  | q :: S, hs, hne => by
    have hs' := List.pairwise_cons.1 hs
    cases h : ltN q p with
    | true =>
      rw [insL_cons_lt h]
      refine List.pairwise_cons.2 ⟨fun x hx => ?_, insL_sorted hs'.2 (fun x hx => hne x (by simp [hx]))⟩
      rcases insL_mem.1 hx with rfl | hx
      · exact h
      · exact hs'.1 x hx
    | false =>
      rw [insL_cons_ge h]
      have hpq : ltN p q = true := ltS_total (hne q (by simp)) h
      refine List.pairwise_cons.2 ⟨fun x hx => ?_, hs⟩
      rcases List.mem_cons.1 hx with rfl | hx
      · exact hpq
      · exact ltS_trans hpq (hs'.1 x hx)

/-- From the right or from the left: one place. -/
theorem insR_eq {p : Pair} : ∀ {S : List Pair}, Sorted S → (∀ q ∈ S, q.name ≠ p.name) → insR ltN p S = insL p S
  | [], _, _ => by simp [insR, sinkR, insL]
  | q :: S, hs, hne => by
    have hs' := List.pairwise_cons.1 hs
    have ih := insR_eq hs'.2 (fun x hx => hne x (by simp [hx]))
    -- what the first does to a sinking 'p'
    have key : ∀ (ra acc : List Pair), sinkR ltN p (ra ++ [q]) acc = if ra.all (fun x => ltN p x) && ltN p q then p :: q :: (ra.reverse ++ acc) else q :: sinkR ltN p ra acc := by
      intro ra
      induction ra with
      | nil =>
        intro acc
        simp only [List.nil_append, sinkR, List.all_nil, Bool.true_and, List.reverse_nil]
        split <;> simp
      | cons x ra ih2 =>
        intro acc
        simp only [List.cons_append, sinkR, List.all_cons]
        by_cases hx : ltN p x = true
        · simp only [hx, if_true, ih2, Bool.true_and, List.reverse_cons, List.append_assoc, List.cons_append, List.nil_append]
        · simp only [Bool.not_eq_true] at hx
          simp [hx]
    have h1 : insR ltN p (q :: S) = if S.reverse.all (fun x => ltN p x) && ltN p q then p :: q :: S else q :: insR ltN p S := by
      simp only [insR, List.reverse_cons, key, List.reverse_reverse, List.append_nil]
    rw [h1]
    cases h : ltN q p with
    | true =>
      have hpq : ltN p q = false := ltS_asymm h
      rw [insL_cons_lt h, ← ih]
      simp [hpq]
    | false =>
      have hpq : ltN p q = true := ltS_total (hne q (by simp)) h
      have hall : S.reverse.all (fun x => ltN p x) = true := by
        rw [List.all_eq_true]
        intro x hx
        exact ltS_trans hpq (hs'.1 x (by simpa using hx))
      rw [insL_cons_ge h, hall, hpq]
      simp

theorem sorts_eq (xs : List Pair) (h : (namesOf xs).Nodup) : isortL ltN xs = sortL xs := by
  have key : ∀ (xs S : List Pair), Sorted S → (namesOf xs).Nodup → (∀ p ∈ xs, ∀ q ∈ S, q.name ≠ p.name) → xs.foldl (fun S x => insR ltN x S) S = xs.foldl (fun out p => insL p out) S := by
    intro xs
    induction xs with
    | nil => intro S _ _ _; rfl
    | cons x xs ih =>
      intro S hs hnd hne
      have hnd' := List.nodup_cons.1 hnd
      have hx := hne x (by simp)
      simp only [List.foldl_cons]
      rw [insR_eq hs hx]
      refine ih _ (insL_sorted hs hx) hnd'.2 (fun p hp q hq => ?_)
      rcases insL_mem.1 hq with rfl | hq
      · intro h0
        exact hnd'.1 (by simp only [List.mem_map]; exact ⟨p, hp, h0.symm⟩)
      · exact hne p (by simp [hp]) q hq
  exact key xs [] (by simp [Sorted]) h (by simp)

theorem noFzR_map {α : Type} (enc : α → List C) (h : ∀ x, noFzL (enc x) = true) : ∀ xs : List α, noFzR (xs.map enc) = true
  | [] => rfl
  | x :: xs => by simp [noFzR, h x, noFzR_map enc h xs]

theorem szLen_ok {n : Nat} {k : Int} (h : ¬ szLen n k < 0) : (n : Int) ≤ k := by
  unfold szLen at h
  split at h <;> omega

theorem fits_of_sz {f : Flat} (h : ¬ szFlat f 1048576 < 0) : f.places.length ≤ 1048576 ∧ f.named.length ≤ 1048576 := by
  unfold szFlat at h
  split at h
  · omega
  · rename_i h1
    split at h
    · omega
    · rename_i h2
      have hk := szLen_le f.places.length 1048576 (by omega)
      have e1 := szLen_ok h1
      unfold szPairS at h2
      split at h2
      · omega
      · rename_i h3
        have e2 := szLen_ok h3
        omega

theorem sortL_length (xs : List Pair) : (sortL xs).length = xs.length := by
  have : ∀ (xs S : List Pair), (xs.foldl (fun out p => insL p out) S).length = S.length + xs.length := by
    intro xs
    induction xs with
    | nil => intro S; simp
    | cons x xs ih => intro S; simp only [List.foldl_cons, ih, insL_length, List.length_cons]; omega
  simpa [sortL] using this xs []

theorem asF (f : Flat) : [T.agg [C.fs (List.take f.places.length (List.drop 0 (f.places.map eI))), C.fs (List.take f.named.length (List.drop 0 (f.named.map eP)))]] = [T.agg (eF f)] := by
  simp [eF, List.take_of_length_le]

theorem asFF (f g : Flat) : [T.agg [C.fs (List.take f.places.length (List.drop 0 (f.places.map eI))), C.fs (List.take f.named.length (List.drop 0 (f.named.map eP)))],
    T.agg [C.fs (List.take g.places.length (List.drop 0 (g.places.map eI))), C.fs (List.take g.named.length (List.drop 0 (g.named.map eP)))]] = [T.agg (eF f), T.agg (eF g)] := by
  simp [eF, List.take_of_length_le]

def putP (ps : List Pair) (n : Str) (v : Int) : List Pair :=
  if ps.any (nameIs n) then ps.modify (ps.findIdx (nameIs n)) (fun p => ⟨p.name, v⟩) else ps ++ [⟨n, v⟩]

theorem putP_length (ps : List Pair) (n : Str) (v : Int) : (putP ps n v).length ≤ ps.length + 1 := by
  unfold putP; split <;> simp

theorem putP_mem {ps : List Pair} {n : Str} {v : Int} {p : Pair} (h : p ∈ putP ps n v) : p.name = n ∨ ∃ q ∈ ps, p.name = q.name := by
  unfold putP at h
  split at h
  · rename_i hy
    obtain ⟨j, hj⟩ := List.getElem?_of_mem h
    rw [List.getElem?_modify] at hj
    cases hq : ps[j]? with
    | none => rw [hq] at hj; simp at hj
    | some q =>
      rw [hq] at hj
      right
      refine ⟨q, List.mem_of_getElem? hq, ?_⟩
      simp at hj
      split at hj <;> (subst hj; rfl)
  · rcases List.mem_append.1 h with h | h
    · exact .inr ⟨p, h, rfl⟩
    · simp at h; subst h; exact .inl rfl

def eS (s : Str) : List C := [.str s]

theorem takeAll {α : Type} (enc : α → List C) (xs : List α) (n : Nat) (h : xs.length = n) : List.take n (List.drop 0 (xs.map enc)) = xs.map enc := by
  subst h; simp [List.take_of_length_le]

structure OkF (f : Flat) : Prop where
  pairs : ∀ p ∈ f.named, okPair p = true
  nodup : (namesOf f.named).Nodup
  vals : ∀ n ∈ f.places, okVal n = true
  places : f.places.length ≤ 8
  named : f.named.length ≤ 8

structure Param where
  name : Str
  kind : Int
  hasD : Bool
  dflt : Int
deriving DecidableEq

abbrev Sig := List Param

theorem eS_len (p : Str) : (eS p).length = 1 := rfl

theorem eS_noOwn (p : Str) : noOwnL (eS p) = true := rfl

def ownS (xs : List Str) : Option AObj := some ⟨1, xs.map eS, true, false, false⟩

def placedQ (p : Param) : Bool := p.kind == 0 || p.kind == 1

def singleQ (p : Param) : Bool := placedQ p || p.kind == 3

def okQ (p : Param) : Bool := okName p.name && inR p.kind 0 4 && okVal p.dflt && (p.hasD || p.dflt == 0) && (singleQ p || !p.hasD)

def nextQ (l p : Param) : Bool := decide (l.kind ≤ p.kind) && (p.kind != l.kind || singleQ p) && (!placedQ p || !l.hasD || p.hasD)

theorem take_snoc {α : Type} {xs : List α} {i : Nat} {x : α} (h : xs[i]? = some x) : xs.take i ++ [x] = xs.take (i + 1) := by
  rw [List.take_add_one, h]; rfl

theorem clipS_ct (xs : List Str) (kc : Nat) (hk : xs.length ≤ kc) :
    ACalls pk 93 [.one (.os 0 0 xs.length kc)] [ownS xs] (fun r o => r = .one (.os 0 0 xs.length xs.length) ∧ o = [ownS xs]) := by
  refine acalls_of_body Try.func93 rfl (by kernel_rfl) rfl ?_
  refine rn rfl ?_
  refine goal_did rfl rfl (dA_sliceOwn 0 xs.length xs.length 0 xs.length xs.length rfl rfl rfl rfl rfl rfl rfl Bnd.none_ (Bnd.some_ rfl rfl) (.inr ⟨by simp, by simp, Bnd.some_ rfl rfl⟩) (by omega) (by omega) hk (by simp) rfl rfl rfl rfl) ?_
  exact rn rfl (fin_is [] rfl ⟨rfl, rfl⟩)

structure OkS (s : Sig) : Prop where
  params : ∀ p ∈ s, okQ p = true
  nodup : (s.map Param.name).Nodup
  next : ∀ (i : Nat) (l p : Param), s[i]? = some l → s[i + 1]? = some p → nextQ l p = true
  len : s.length ≤ 8

theorem nextQ_kind {l p : Param} (h : nextQ l p = true) : l.kind ≤ p.kind ∧ (singleQ p = false → l.kind < p.kind) ∧ (placedQ p = true → l.hasD = true → p.hasD = true) := by
  simp only [nextQ, Bool.and_eq_true, decide_eq_true_eq, Bool.or_eq_true, bne_iff_ne, ne_eq, Bool.not_eq_true'] at h
  refine ⟨h.1.1, fun hs => ?_, fun h1 h2 => ?_⟩
  · rcases h.1.2 with h3 | h3
    · omega
    · rw [hs] at h3; cases h3
  · rcases h.2 with (h3 | h3) | h3
    · rw [h1] at h3; cases h3
    · rw [h2] at h3; cases h3
    · exact h3

theorem OkS.sorted {s : Sig} (h : OkS s) : ∀ (d i : Nat) (l p : Param), s[i]? = some l → s[i + d]? = some p → l.kind ≤ p.kind
  | 0, i, l, p, hl, hp => by rw [Nat.add_zero, hl] at hp; cases hp; exact Int.le_refl _
  | d + 1, i, l, p, hl, hp => by
    obtain ⟨q, hq⟩ := at_some (xs := s) (i := i + d) (by have := lt_of_some hp; omega)
    have h1 := OkS.sorted h d i l q hl hq
    have h2 := (nextQ_kind (h.next (i + d) q p hq hp)).1
    omega

theorem OkS.sortedLt {s : Sig} (h : OkS s) {i j : Nat} {l p : Param} (hij : i < j) (hl : s[i]? = some l) (hp : s[j]? = some p) (hs : singleQ p = false) : l.kind < p.kind := by
  obtain ⟨q, hq⟩ := at_some (xs := s) (i := j - 1) (by have := lt_of_some hp; omega)
  have h1 := h.sorted (j - 1 - i) i l q hl (by rw [show i + (j - 1 - i) = j - 1 by omega]; exact hq)
  have h2 := (nextQ_kind (h.next (j - 1) q p hq (by rw [show j - 1 + 1 = j by omega]; exact hp))).2.1 hs
  omega

theorem single_kind {p : Param} : singleQ p = true ↔ p.kind = 0 ∨ p.kind = 1 ∨ p.kind = 3 := by
  simp only [singleQ, placedQ, Bool.or_eq_true, beq_iff_eq]; omega

/-- Of the kinds of which there is one parameter at most. -/
theorem OkS.one {s : Sig} (h : OkS s) {i j : Nat} {l p : Param} (hl : s[i]? = some l) (hp : s[j]? = some p) (hk : l.kind = p.kind) (hs : singleQ p = false) : i = j := by
  have hs' : singleQ l = false := by
    cases hx : singleQ l with
    | false => rfl
    | true => rw [single_kind, hk, ← single_kind, hs] at hx; cases hx
  rcases Nat.lt_trichotomy i j with h1 | h1 | h1
  · have := h.sortedLt h1 hl hp hs; omega
  · exact h1
  · have := h.sortedLt h1 hp hl hs'; omega

structure Slot where
  given : Bool
  list : List Int
  pairs : List Pair
deriving DecidableEq

abbrev Bnds := List Slot

variable {N np : Nat} {σ : State}

theorem single_four {p : Param} (h : p.kind = 4) : singleQ p = false := by
  cases hz : singleQ p with
  | false => rfl
  | true => rw [single_kind] at hz; omega

/-- What the map has got. -/
def MapHas (s : Sig) (b : Bnds) (ps : List Pair) : Prop := ∀ (i : Nat) (p : Param) (x : Slot), s[i]? = some p → b[i]? = some x → p.kind = 4 → x.pairs = ps

theorem MapHas.set {s : Sig} {b : Bnds} {ps : List Pair} (h : MapHas s b ps) {i : Nat} {p : Param} {y : Slot} (hp : s[i]? = some p) (hk : p.kind ≠ 4) : MapHas s (b.set i y) ps := by
  intro j q x hq hx hqk
  rw [List.getElem?_set] at hx
  by_cases hij : i = j
  · subst hij; rw [hp] at hq; cases hq; exact absurd hqk hk
  · rw [if_neg hij] at hx; exact h j q x hq hx hqk

theorem MapHas.put {s : Sig} (hs : OkS s) {b : Bnds} {ps : List Pair} {i : Nat} {p : Param} {y : Slot} (hp : s[i]? = some p) (hk : p.kind = 4) (hy : y.pairs = ps) : MapHas s (b.set i y) ps := by
  intro j q x hq hx hqk
  have hij : i = j := hs.one hp hq (by omega) (single_four hqk)
  subst hij
  rw [List.getElem?_set] at hx
  split at hx
  · split at hx
    · cases hx; exact hy
    · cases hx
  · rename_i h0; exact absurd rfl h0

structure LenF (f : Flat) : Prop where
  places : f.places.length ≤ 1048576
  named : f.named.length ≤ 1048576
  names : ∀ p ∈ f.named, p.name.length ≤ 9223372036854775807

theorem OkF.len {f : Flat} (h : OkF f) : LenF f := ⟨by have := h.places; omega, by have := h.named; omega, fun p hp => by
  have := h.pairs p hp
  simp only [okPair, okName, inR, Bool.and_eq_true, decide_eq_true_eq] at this
  omega⟩

def overN (ps qs : List Pair) : List Pair := qs.foldl (fun ps p => putP ps p.name p.value) ps

def overQ (f g : Flat) : Flat := ⟨f.places ++ g.places, overN f.named g.named⟩

theorem overN_len : ∀ (qs ps : List Pair), (overN ps qs).length ≤ ps.length + qs.length
  | [], ps => by simp [overN]
  | q :: qs, ps => by
    have h1 := overN_len qs (putP ps q.name q.value)
    have h2 := putP_length ps q.name q.value
    simp only [overN, List.foldl_cons, List.length_cons] at h1 ⊢
    omega

theorem overN_mem : ∀ {qs ps : List Pair} {p : Pair}, p ∈ overN ps qs → (∃ q ∈ ps, p.name = q.name) ∨ ∃ q ∈ qs, p.name = q.name
  | [], ps, p, h => .inl ⟨p, h, rfl⟩
  | q :: qs, ps, p, h => by
    rcases overN_mem (qs := qs) (ps := putP ps q.name q.value) h with ⟨r, hr, hn⟩ | ⟨r, hr, hn⟩
    · rcases putP_mem hr with h1 | ⟨r', hr', h1⟩
      · exact .inr ⟨q, by simp, by rw [hn, h1]⟩
      · exact .inl ⟨r', hr', by rw [hn, h1]⟩
    · exact .inr ⟨r, by simp [hr], hn⟩

theorem LenF.over {f g : Flat} (hf : LenF f) (hg : LenF g) : (overQ f g).places.length ≤ 2097152 ∧ (overQ f g).named.length ≤ 2097152 ∧ ∀ p ∈ (overQ f g).named, p.name.length ≤ 9223372036854775807 := by
  refine ⟨by have := hf.places; have := hg.places; simp [overQ]; omega, by have h := overN_len g.named f.named; have := hf.named; have := hg.named; simp only [overQ]; omega, fun p hp => ?_⟩
  rcases overN_mem hp with ⟨q, hq, hn⟩ | ⟨q, hq, hn⟩
  · rw [hn]; exact hf.names q hq
  · rw [hn]; exact hg.names q hq

theorem eqStringS_ct (xs ys : List Str) (hx : xs.length ≤ 9223372036854775807) :
    ACalls pk 48 [.one (.fs (xs.map eS)), .one (.fs (ys.map eS))] [] (fun r o => r = .one (.bool (decide (xs = ys))) ∧ o = []) := by
  refine acalls_of_body Try.func48 rfl (by kernel_rfl) rfl ?_
  refine rn rfl ?_
  refine goal_cond rfl (fun h => ?_) (fun h => ?_) <;> (try simp only [gt_iff_lt, ge_iff_le, bne_iff_ne, ne_eq, bne_eq_false_iff_eq, beq_iff_eq, beq_eq_false_iff_ne, Bool.not_eq_true', Bool.not_eq_false', decide_eq_true_eq, decide_eq_false_iff_not, List.length_map] at h)
  · refine rn rfl (fin_is [] rfl ⟨?_, rfl⟩)
    have : xs ≠ ys := fun h0 => h (by rw [h0])
    simp [this]
  · have hlen : xs.length = ys.length := by omega
    refine rn rfl ?_
    refine goal_loop_keep (fun m σ => ∃ (n : Int) (i : Nat), n = i ∧ i ≤ xs.length ∧ m = xs.length - i ∧ xs.take i = ys.take i ∧
        σ = ⟨[(5, .one (.int .i64 n)), (1, .one (.fs (ys.map eS))), (0, .one (.fs (xs.map eS)))], [], []⟩) xs.length [5, 1, 0] [] rfl
      ⟨_, 0, rfl, by omega, by omega, rfl, rfl⟩ ?_
    rintro m σ ⟨n, i, rfl, hi, rfl, hpre, rfl⟩
    refine rn rfl ?_
    refine goal_cond rfl (fun h => ?_) (fun h => ?_) <;> (try simp only [gt_iff_lt, ge_iff_le, bne_iff_ne, ne_eq, bne_eq_false_iff_eq, beq_iff_eq, beq_eq_false_iff_ne, Bool.not_eq_true', Bool.not_eq_false', decide_eq_true_eq, decide_eq_false_iff_not, List.length_map] at h)
    · obtain ⟨x, hxi⟩ := at_some (xs := xs) (i := i) (by omega)
      obtain ⟨y, hyi⟩ := at_some (xs := ys) (i := i) (by omega)
      refine rn rfl ?_
      refine goal_draw' [] 9 rfl ?_
      refine drn [0, 1, 4, 5] (by kernel_rfl) (by kernel_rfl) rfl rfl ?_
      refine AH_did 2 rfl (by kernel_rfl) (by kernel_rfl) (by kernel_rfl) rfl rfl (dA_index (eS x) rfl rfl rfl rfl rfl rfl rfl (by omega) (by (try simp); omega) (map_at (by simpa using hxi)) rfl) ?_
      refine AH_did 6 rfl (by kernel_rfl) (by kernel_rfl) (by kernel_rfl) rfl rfl (dA_index (eS y) rfl rfl rfl rfl rfl rfl rfl (by omega) (by (try simp); omega) (map_at (by simpa using hyi)) rfl) ?_
      refine drn [3, 7, 8] (by kernel_rfl) (by kernel_rfl) rfl rfl ?_
      refine AH_end (by kernel_rfl) ?_
      refine rn rfl ?_
      have hstep := take_eq_step hpre hxi hyi
      refine goal_cond rfl (fun h2 => ?_) (fun h2 => ?_) <;> simp only [bne_iff_ne, ne_eq, bne_eq_false_iff_eq, Bool.not_eq_true', Bool.not_eq_false', decide_eq_true_eq, decide_eq_false_iff_not, beq_iff_eq, beq_eq_false_iff_ne] at h2
      · refine rn rfl ?_
        refine round_ret (fin_is [] rfl ⟨?_, rfl⟩)
        have : xs ≠ ys := fun h0 => h2 (hstep.1 (by rw [h0]))
        simp [this]
      · refine rn rfl ?_
        refine round_keep (xs.length - (i + 1)) [5, 1, 0] [] (by omega) rfl ⟨_, i + 1, ?_, by omega, rfl, hstep.2 h2, rfl⟩
        exact wrap64 (by omega) (by omega)
    · refine rn rfl ?_
      refine round_ext ?_
      refine rn rfl (fin_is [] rfl ⟨?_, rfl⟩)
      rw [show i = xs.length by omega, List.take_length, hlen, List.take_length] at hpre
      simp [hpre]

def seqS (k : Int) : Nat → List Str
  | 0 => []
  | n + 1 => markText k :: seqS (k + 1) n

theorem seqS_length : ∀ (n : Nat) (k : Int), (seqS k n).length = n
  | 0, k => rfl
  | n + 1, k => by simp [seqS, seqS_length n]

theorem seqS_at : ∀ (n : Nat) (k : Int) (i : Nat), i < n → (seqS k n)[i]? = some (markText (k + i))
  | n + 1, k, 0, _ => by simp [seqS]
  | n + 1, k, i + 1, h => by
    have e1 : k + 1 + (i : Int) = k + ((i + 1 : Nat) : Int) := by omega
    simp only [seqS, List.getElem?_cons_succ, seqS_at n (k + 1) i (by omega), e1]

theorem markStringS_ct (xs : List Str) (k : Int) (kc : Nat) (hl : xs.length ≤ 2097152) (hk : 0 ≤ k) (hk' : k ≤ 16777216) :
    ACalls pk 49 [.one (.os 0 0 xs.length kc), .one (.int .i64 k)] [ownS xs] (fun r o => r = .one (.int .i64 (k + xs.length)) ∧ o = [ownS (seqS k xs.length)]) := by
  refine acalls_of_body Try.func49 rfl (by kernel_rfl) rfl ?_
  refine rn rfl ?_
  refine goal_loop_keep (fun m σ => ∃ (n q : Int) (i : Nat) (ys : List Str), n = i ∧ q = k + i ∧ i ≤ xs.length ∧ m = xs.length - i ∧ ys.length = xs.length ∧ ys.take i = (seqS k xs.length).take i ∧
      σ = ⟨[(5, .one (.int .i64 n)), (1, .one (.int .i64 q)), (0, .one (.os 0 0 xs.length kc))], [ownS ys], []⟩) xs.length [5, 1, 0] [] rfl
    ⟨_, _, 0, xs, rfl, by simp, by omega, by omega, rfl, rfl, rfl⟩ ?_
  rintro m σ ⟨n, q, i, ys, rfl, rfl, hi, rfl, hys, hpre, rfl⟩
  refine rn rfl ?_
  refine goal_cond rfl (fun h => ?_) (fun h => ?_) <;> (try simp only [gt_iff_lt, ge_iff_le, bne_iff_ne, ne_eq, bne_eq_false_iff_eq, beq_iff_eq, beq_eq_false_iff_ne, Bool.not_eq_true', Bool.not_eq_false', decide_eq_true_eq, decide_eq_false_iff_not, List.length_map] at h)
  · obtain ⟨y, hy⟩ := at_some (xs := ys) (i := i) (by omega)
    refine rn rfl ?_
    refine goal_step (step_call [] rfl rfl rfl rfl rfl rfl (markText_ct (k + i) (by omega))) ?_
    rintro σ2 ⟨r, o', ⟨rfl, rfl⟩, hσ⟩
    obtain rfl := Option.some.inj hσ
    clear hσ
    refine rn rfl ?_
    refine goal_did rfl rfl (dA_indexOwn rfl rfl rfl rfl rfl rfl rfl rfl rfl (by omega) (by omega)) ?_
    refine goal_did rfl rfl (dA_storeEl (eS y) ((ys.set i (markText (k + i))).map eS) true rfl rfl rfl rfl rfl (map_at (by simpa using hy)) rfl rfl (by simp [eS]) (by rw [map_set]; simp [patch, eS]) (fun _ => noOwnR_map _ eS_noOwn _)) ?_
    refine rn rfl ?_
    refine round_keep (xs.length - (i + 1)) [5, 1, 0] [] (by omega) rfl ⟨_, _, i + 1, ys.set i _, wrap64 (by omega) (by omega), ?_, by omega, rfl, by simp [hys], take_set_step _ ys i _ (seqS_at _ _ _ (by omega)) (by rw [seqS_length]; exact hys) hpre, rfl⟩
    rw [wrap64 (by omega) (by omega)]; omega
  · refine rn rfl ?_
    refine round_ext ?_
    refine rn rfl (fin_is [] rfl ⟨?_, ?_⟩)
    · rw [show i = xs.length by omega]
    · rw [show i = xs.length by omega] at hpre
      have h1 : ys = seqS k xs.length := by
        have := hpre
        rwa [← hys, List.take_length, hys, List.take_of_length_le (by rw [seqS_length]; exact Nat.le_refl _)] at this
      rw [← h1]; rfl

theorem heldStringS_ct (n0 : Nat) (k : Int) (hl : n0 ≤ 2097152) (hk : 0 ≤ k) (hk' : k ≤ 16777216) :
    ACalls pk 50 [.one (.fs ((seqS k n0).map eS)), .one (.int .i64 k)] [] (fun r o => r = .one (.int .i64 (k + n0)) ∧ o = []) := by
  refine acalls_of_body Try.func50 rfl (by kernel_rfl) rfl ?_
  refine rn rfl ?_
  have hlen := seqS_length n0 k
  refine goal_loop_keep (fun m σ => ∃ (n q : Int) (i : Nat), n = i ∧ q = k + i ∧ i ≤ n0 ∧ m = n0 - i ∧
      σ = ⟨[(5, .one (.int .i64 n)), (1, .one (.int .i64 q)), (0, .one (.fs ((seqS k n0).map eS)))], [], []⟩) n0 [5, 1, 0] [] rfl
    ⟨_, _, 0, rfl, by simp, by omega, by omega, rfl⟩ ?_
  rintro m σ ⟨n, q, i, rfl, rfl, hi, rfl, rfl⟩
  refine rn rfl ?_
  refine goal_cond rfl (fun h => ?_) (fun h => ?_) <;> simp only [decide_eq_true_eq, decide_eq_false_iff_not, List.length_map, hlen] at h
  · have hx := seqS_at n0 k i (by omega)
    refine rn rfl ?_
    refine goal_draw' [] 7 rfl ?_
    refine drn [0, 1, 4] (by kernel_rfl) (by kernel_rfl) rfl rfl ?_
    refine AH_did 2 rfl (by kernel_rfl) (by kernel_rfl) (by kernel_rfl) rfl rfl (dA_index (eS (markText (k + i))) rfl rfl rfl rfl rfl rfl rfl (by omega) (by simp [hlen]; omega) (map_at (by simpa using hx)) rfl) ?_
    refine drn [3] (by kernel_rfl) (by kernel_rfl) rfl rfl ?_
    refine AH_one (i := 5) (by kernel_rfl) (step_call [] rfl rfl rfl rfl rfl rfl (markText_ct (k + i) (by omega))) (by simp) ?_
    rintro σ2 ⟨r, o', ⟨rfl, rfl⟩, hσ⟩
    obtain rfl := Option.some.inj hσ
    clear hσ
    refine drn [6] (by kernel_rfl) (by kernel_rfl) rfl rfl ?_
    refine AH_end (by kernel_rfl) ?_
    refine rn rfl ?_
    refine goal_cond rfl (fun h2 => by simp at h2) (fun _ => ?_)
    refine rn rfl ?_
    refine round_keep (n0 - (i + 1)) [5, 1, 0] [] (by omega) rfl ⟨_, _, i + 1, wrap64 (by omega) (by omega), ?_, by omega, rfl, rfl⟩
    rw [wrap64 (by omega) (by omega)]; omega
  · refine rn rfl ?_
    refine round_ext ?_
    refine rn rfl (fin_is [] rfl ⟨?_, rfl⟩)
    rw [show i = n0 by omega]

structure Shp where
  count : Int
  names : List Str

def eX (x : Shp) : List C := [.int .i64 x.count, .fs (x.names.map eS)]

def rX (x : Shp) : T := .agg [.int .i64 x.count, .os 0 0 x.names.length x.names.length]

def oX (x : Shp) : List (Option AObj) := [ownS x.names]

def shapeF (f : Flat) : Shp := if okFlat f then ⟨f.places.length, namesOf (sortL f.named)⟩ else ⟨0, []⟩

theorem eqShape_ct (x : Shp) (hx : x.names.length ≤ 2097152) : ACalls pk 39 [.agg (eX x), .agg (eX x)] [] (fun r o => r = .one (.bool true) ∧ o = []) := by
  refine acalls_of_body Try.func39 rfl (by kernel_rfl) rfl ?_
  refine rn rfl ?_
  refine goal_cond rfl (fun h2 => by simp at h2) (fun _ => ?_)
  refine rn rfl ?_
  refine goal_step (step_call [] rfl rfl rfl rfl rfl rfl (eqStringS_ct x.names x.names (by omega))) ?_
  rintro σ2 ⟨r, o', ⟨rfl, rfl⟩, hσ⟩
  obtain rfl := Option.some.inj hσ
  clear hσ
  refine rn rfl ?_
  refine goal_cond rfl (fun h2 => by simp at h2) (fun _ => ?_)
  exact rn rfl (fin_is [] rfl ⟨rfl, rfl⟩)

theorem markShape_ct (x : Shp) (k : Int) (kc : Nat) (hx : x.names.length ≤ 2097152) (hk : 0 ≤ k) (hk' : k ≤ 16777216) :
    ACalls pk 42 [.agg [.int .i64 x.count, .os 0 0 x.names.length kc], .one (.int .i64 k)] (oX x) (fun r o => r = .one (.int .i64 (k + x.names.length)) ∧ o = [ownS (seqS k x.names.length)]) := by
  refine acalls_of_body Try.func42 rfl (by kernel_rfl) rfl ?_
  refine rn rfl ?_
  refine goal_step (step_call [0] rfl rfl rfl rfl rfl rfl (markStringS_ct x.names k kc hx hk hk')) ?_
  rintro σ2 ⟨r, o', ⟨rfl, rfl⟩, hσ⟩
  obtain rfl := Option.some.inj hσ
  clear hσ
  refine rn rfl ?_
  exact rn rfl (fin_is [] rfl ⟨rfl, rfl⟩)

theorem heldShape_ct (c : Int) (n0 : Nat) (k : Int) (hx : n0 ≤ 2097152) (hk : 0 ≤ k) (hk' : k ≤ 16777216) :
    ACalls pk 43 [.agg (eX ⟨c, seqS k n0⟩), .one (.int .i64 k)] [] (fun r o => r = .one (.int .i64 (k + n0)) ∧ o = []) := by
  refine acalls_of_body Try.func43 rfl (by kernel_rfl) rfl ?_
  refine rn rfl ?_
  refine goal_step (step_call [] rfl rfl rfl rfl rfl rfl (heldStringS_ct n0 k hx hk hk')) ?_
  rintro σ2 ⟨r, o', ⟨rfl, rfl⟩, hσ⟩
  obtain rfl := Option.some.inj hσ
  clear hσ
  refine rn rfl ?_
  refine goal_cond rfl (fun h => ?_) (fun h => ?_) <;> simp only [decide_eq_true_eq, decide_eq_false_iff_not] at h
  · omega
  exact rn rfl (fin_is [] rfl ⟨rfl, rfl⟩)

theorem byNameD_ct (xs : List Pair) (hl : xs.length ≤ 12) : ACalls pk 85 [.one (.fs (xs.map eP))] [] (fun r o => r = .one (.fs ((isortL ltN xs).map eP)) ∧ o = []) :=
  (byName_ct xs hl).told [] (by rintro r o ⟨rfl, rfl⟩; exact ⟨_, _, rfl, congrArg (fun x => T.one (C.fs x)) (takeAll eP _ _ (isortL_length _ _)), rfl⟩)

theorem sortedPairsD_ct (xs : List Pair) (hl : xs.length ≤ 1048576) : ACalls pk 157 [.one (.fs (xs.map eP))] [] (fun r o => r = .one (.fs ((sortL xs).map eP)) ∧ o = []) :=
  (sortedPairs_ct xs hl).told [] (by rintro r o ⟨rfl, rfl⟩; exact ⟨_, _, rfl, congrArg (fun x => T.one (C.fs x)) (takeAll eP _ _ (sortL_length _)), rfl⟩)

theorem namesOf_take_succ {xs : List Pair} {i : Nat} {x : Pair} (h : xs[i]? = some x) : namesOf (xs.take (i + 1)) = namesOf (xs.take i) ++ [x.name] := by
  rw [← take_snoc h]; simp [namesOf]

theorem ishape_ct (f : Flat) (h1 : f.places.length ≤ 1048576) (h2 : f.named.length ≤ 1048576) (hn : ∀ p ∈ f.named, p.name.length ≤ 9223372036854775807) :
    ACalls pk 34 [.agg (eF f)] [] (fun r o => r = rX (shapeF f) ∧ o = oX (shapeF f)) := by
  refine acalls_of_body Try.func34 rfl (by kernel_rfl) rfl ?_
  refine rn rfl ?_
  refine goal_step (step_call [] rfl rfl rfl rfl rfl rfl (ivalidFlat_ct f (by omega) (by omega) hn)) ?_
  rintro σ2 ⟨r, o', ⟨rfl, rfl⟩, hσ⟩
  obtain rfl := Option.some.inj hσ
  clear hσ
  refine rn rfl ?_
  refine goal_cond rfl (fun h => ?_) (fun h => ?_) <;> (try simp only [gt_iff_lt, ge_iff_le, bne_iff_ne, ne_eq, bne_eq_false_iff_eq, beq_iff_eq, beq_eq_false_iff_ne, Bool.not_eq_true', Bool.not_eq_false', decide_eq_true_eq, decide_eq_false_iff_not, List.length_map] at h)
  · refine rn rfl ?_
    refine fin_weak (Weak.adoptO 1 1 1) (fin_is [2] rfl ⟨?_, ?_⟩)
    · simp [shapeF, h]; rfl
    · simp [shapeF, h]; rfl
  · have hle : f.named.length ≤ 8 := by simp [okFlat] at h; omega
    have hnd : (namesOf f.named).Nodup := by simp [okFlat] at h; exact h.1.1.1.2
    have hsl := sortL_length f.named
    refine rn rfl ?_
    refine goal_step (step_call [] rfl rfl rfl rfl rfl rfl (byNameD_ct f.named (by omega))) ?_
    rintro σ2 ⟨r, o', ⟨rfl, rfl⟩, hσ⟩
    obtain rfl := Option.some.inj hσ
    clear hσ
    refine rn rfl ?_
    rw [sorts_eq _ hnd]
    refine rn rfl ?_
    refine goal_weakCod (Weak.adopt 3 0 1) ?_
    have hsh : shapeF f = ⟨f.places.length, namesOf (sortL f.named)⟩ := by simp [shapeF, h]
    rw [hsh]
    generalize sortL f.named = S at hsl ⊢
    refine goal_loop_keep (fun m σ => ∃ (n : Int) (i l : Nat) (acc : List Str), n = i ∧ i ≤ S.length ∧ m = S.length - i ∧ l = acc.length ∧ acc = namesOf (S.take i) ∧
      σ = ⟨[(14, .one (.int .i64 n)), (13, .one (.int .i64 (S.map eP).length)), (12, .one (.fs (S.map eP))), (3, .one (.os 2 0 l l)), (2, .one (.op 1 0 0)), (1, .one (.op 0 0 0))],
        [some ⟨2, [eF f], false, false, true⟩, some ⟨2, [[.int .i64 0, .fs []]], false, false, true⟩, ownS acc], []⟩) S.length [14, 13, 12, 3, 2, 1] [0, 1, 2] rfl
      ⟨_, 0, 0, [], rfl, by omega, by omega, rfl, rfl, rfl⟩ ?_
    rintro m σ ⟨n, i, l, acc, rfl, hi, rfl, rfl, hacc, rfl⟩
    have hlen : acc.length = i := by rw [hacc]; simp [namesOf]; omega
    refine rn rfl ?_
    refine goal_cond rfl (fun h3 => ?_) (fun h3 => ?_) <;> (try simp only [gt_iff_lt, ge_iff_le, bne_iff_ne, ne_eq, bne_eq_false_iff_eq, beq_iff_eq, beq_eq_false_iff_ne, Bool.not_eq_true', Bool.not_eq_false', decide_eq_true_eq, decide_eq_false_iff_not, List.length_map] at h3)
    · obtain ⟨p, hp⟩ := at_some (xs := S) (i := i) (by omega)
      refine rn rfl ?_
      refine goal_did rfl rfl (dA_index (eP p) rfl rfl rfl rfl rfl rfl rfl (by omega) (by (try simp); omega) (map_at (by simpa using hp)) rfl) ?_
      refine rn rfl ?_
      refine goal_did rfl rfl (dA_append (old := (acc).map eS) (rows := ([p.name] : List Str).map eS) (((acc) ++ ([p.name] : List Str)).map eS) (acc.length + 1) true (Dst.own rfl rfl rfl rfl rfl (by first | (simp; done) | (simp; omega)) (whole (by first | (simp; done) | (simp; omega)))) (Src.os rfl rfl (Nat.le_refl 1) rfl) rfl rfl rfl rfl rfl rfl rfl rfl (rows_len eS_len _) (rows_len eS_len _) (by (try simp only [List.length_map, List.length_append, List.length_cons, List.length_nil, List.length_take, List.length_drop]); show _ * 16 ≤ _; omega) (by first | (simp; done) | (simp; omega)) (by simp) (by first | (simp; done) | (simp; omega)) (fun _ => noOwnR_map _ eS_noOwn _)) ?_
      refine rn rfl ?_
      refine round_keep (S.length - (i + 1)) [14, 13, 12, 3, 2, 1] [0, 1, 5] (by omega) rfl ⟨_, i + 1, acc.length + 1, acc ++ [p.name], wrap64 (by omega) (by omega), by omega, rfl, by simp, by rw [namesOf_take_succ hp, hacc], rfl⟩
    · refine rn rfl ?_
      refine round_ext ?_
      refine rn rfl ?_
      have hi' : i = S.length := by omega
      have hacc' : acc = namesOf S := by rw [hacc, hi', List.take_length]
      rw [← hacc']
      refine goal_draw' [0] 7 rfl ?_
      refine drn [0, 1, 2, 3] (by kernel_rfl) (by kernel_rfl) rfl rfl ?_
      refine AH_one (i := 4) (by kernel_rfl) (step_call [2] rfl rfl rfl rfl rfl rfl (clipS_ct acc _ (by omega))) (by simp) ?_
      rintro σ2 ⟨r, o', ⟨rfl, rfl⟩, hσ⟩
      obtain rfl := Option.some.inj hσ
      clear hσ
      refine drn [5] (by kernel_rfl) (by kernel_rfl) rfl rfl ?_
      refine AH_oneDid 6 rfl (by kernel_rfl) rfl (dA_step rfl) (mdOk rfl) ?_
      refine AH_end (by kernel_rfl) ?_
      refine rn rfl ?_
      exact rn rfl (fin_is [2] rfl ⟨by simp [rX], rfl⟩)

theorem shapeOf_ct (f : Flat) (h2 : f.named.length ≤ 1048576) :
    ACalls pk 96 [.agg (eF f)] [] (fun r o => r = .agg (eX ⟨f.places.length, namesOf (sortL f.named)⟩) ∧ o = []) := by
  have hsl := sortL_length f.named
  refine acalls_of_body Try.func96 rfl (by kernel_rfl) rfl ?_
  refine rn rfl ?_
  refine goal_step (step_call [] rfl rfl rfl rfl rfl rfl (sortedPairsD_ct f.named (by omega))) ?_
  rintro σ2 ⟨r, o', ⟨rfl, rfl⟩, hσ⟩
  obtain rfl := Option.some.inj hσ
  clear hσ
  refine rn rfl ?_
  generalize sortL f.named = S at hsl ⊢
  refine rn rfl ?_
  refine goal_loop_keep (fun m σ => ∃ (n : Int) (i l : Nat) (acc : List Str), n = i ∧ i ≤ S.length ∧ m = S.length - i ∧ l = acc.length ∧ acc = namesOf (S.take i) ∧
      σ = ⟨[(5, .one (.int .i64 n)), (4, .one (.fs (S.map eP))), (3, .one (.op 1 0 0)), (2, .one (.op 0 0 0))],
        [some ⟨2, [[.int .i64 0, .fs []]], false, false, true⟩, some ⟨2, [[.int .i64 (f.places.map eI).length, .os 2 0 l l]], false, false, true⟩, ownS acc], []⟩) S.length [5, 4, 3, 2] [1, 3, 2] rfl
      ⟨_, 0, 0, [], rfl, by omega, by omega, rfl, rfl, rfl⟩ ?_
  rintro m σ ⟨n, i, l, acc, rfl, hi, rfl, rfl, hacc, rfl⟩
  have hlen : acc.length = i := by rw [hacc]; simp [namesOf]; omega
  refine rn rfl ?_
  refine goal_cond rfl (fun h3 => ?_) (fun h3 => ?_) <;> (try simp only [gt_iff_lt, ge_iff_le, bne_iff_ne, ne_eq, bne_eq_false_iff_eq, beq_iff_eq, beq_eq_false_iff_ne, Bool.not_eq_true', Bool.not_eq_false', decide_eq_true_eq, decide_eq_false_iff_not, List.length_map] at h3)
  · obtain ⟨p, hp⟩ := at_some (xs := S) (i := i) (by omega)
    refine rn rfl ?_
    refine goal_drawL [1] [10] 11 rfl ?_
    refine drnL [0, 1, 2, 3] (by kernel_rfl) (by kernel_rfl) rfl rfl ?_
    refine AHL_did 4 rfl (by kernel_rfl) (by kernel_rfl) (by kernel_rfl) (by kernel_rfl) rfl rfl (dA_index (eP p) rfl rfl rfl rfl rfl rfl rfl (by omega) (by (try simp); omega) (map_at (by simpa using hp)) rfl) ?_
    refine drnL [5, 6] (by kernel_rfl) (by kernel_rfl) rfl rfl ?_
    refine AHL_oneDid 7 rfl (by kernel_rfl) rfl rfl (dA_step rfl) (mdOk rfl) ?_
    refine AHL_oneDid 8 rfl (by kernel_rfl) rfl rfl (dA_append (old := (acc).map eS) (rows := ([p.name] : List Str).map eS) (((acc) ++ ([p.name] : List Str)).map eS) (acc.length + 1) true (Dst.own rfl rfl rfl rfl rfl (by first | (simp; done) | (simp; omega)) (whole (by first | (simp; done) | (simp; omega)))) (Src.os rfl rfl (Nat.le_refl 1) rfl) rfl rfl rfl rfl rfl rfl rfl rfl (rows_len eS_len _) (rows_len eS_len _) (by (try simp only [List.length_map, List.length_append, List.length_cons, List.length_nil, List.length_take, List.length_drop]); show _ * 16 ≤ _; omega) (by first | (simp; done) | (simp; omega)) (by simp) (by first | (simp; done) | (simp; omega)) (fun _ => noOwnR_map _ eS_noOwn _)) (mdOk rfl) ?_
    refine drnL [9] (by kernel_rfl) (by kernel_rfl) rfl rfl ?_
    refine AHL_lateDid 10 rfl (by kernel_rfl) rfl rfl (dA_step rfl) ?_
    refine AH_end (by kernel_rfl) ?_
    refine rn rfl ?_
    refine round_keep (S.length - (i + 1)) [5, 4, 3, 2] [0, 1, 4] (by omega) rfl ⟨_, i + 1, acc.length + 1, acc ++ [p.name], wrap64 (by omega) (by omega), by omega, rfl, by simp, by rw [namesOf_take_succ hp, hacc], rfl⟩
  · refine rn rfl ?_
    refine round_ext ?_
    have hi' : i = S.length := by omega
    have hacc' : acc = namesOf S := by rw [hacc, hi', List.take_length]
    rw [← hacc']
    refine rn rfl (fin_is [] rfl ⟨?_, rfl⟩)
    simp only [eX, takeAll eS _ _ rfl, List.length_map]

theorem sshape_ct (f : Flat) (h1 : f.places.length ≤ 1048576) (h2 : f.named.length ≤ 1048576) (hn : ∀ p ∈ f.named, p.name.length ≤ 9223372036854775807) :
    ACalls pk 37 [.agg (eF f)] [] (fun r o => r = .agg (eX (shapeF f)) ∧ o = []) := by
  refine acalls_of_body Try.func37 rfl (by kernel_rfl) rfl ?_
  refine rn rfl ?_
  refine goal_step (step_call [] rfl rfl rfl rfl rfl rfl (svalidFlat_ct f (by omega) (by omega) hn)) ?_
  rintro σ2 ⟨r, o', ⟨rfl, rfl⟩, hσ⟩
  obtain rfl := Option.some.inj hσ
  clear hσ
  refine rn rfl ?_
  refine goal_cond rfl (fun h => ?_) (fun h => ?_) <;> (try simp only [gt_iff_lt, ge_iff_le, bne_iff_ne, ne_eq, bne_eq_false_iff_eq, beq_iff_eq, beq_eq_false_iff_ne, Bool.not_eq_true', Bool.not_eq_false', decide_eq_true_eq, decide_eq_false_iff_not, List.length_map] at h)
  · refine rn rfl (fin_is [] rfl ⟨?_, rfl⟩)
    simp [shapeF, h]; rfl
  · refine rn rfl ?_
    refine goal_step (step_call [] rfl rfl rfl rfl rfl rfl (shapeOf_ct f h2)) ?_
    rintro σ2 ⟨r, o', ⟨rfl, rfl⟩, hσ⟩
    obtain rfl := Option.some.inj hσ
    clear hσ
    refine rn rfl ?_
    refine rn rfl (fin_is [] rfl ⟨?_, rfl⟩)
    simp only [shapeF, h, if_true]; rfl

theorem asX (x : Shp) : T.agg [C.int .i64 x.count, C.fs (List.take x.names.length (List.drop 0 (x.names.map eS)))] = T.agg (eX x) := by rw [takeAll eS _ _ rfl]; rfl

theorem shape_len (f : Flat) (h2 : f.named.length ≤ 1048576) : (shapeF f).names.length ≤ 1048576 := by
  unfold shapeF
  split
  · simpa [namesOf, sortL_length] using h2
  · simp

theorem fnExactShapeOf_ct (f : Flat) (hf : Fits f) : ACalls pk 7 [.agg (eF f)] [] (fun r o => r = .one (.bool true) ∧ o = []) := by
  refine acalls_of_body Try.func7 rfl (by kernel_rfl) rfl ?_
  refine rn rfl ?_
  refine goal_step (step_call [] rfl rfl rfl rfl rfl rfl (szFlat_ct f 1048576 (by omega) (by omega) hf)) ?_
  rintro σ2 ⟨r, o', ⟨rfl, rfl⟩, hσ⟩
  obtain rfl := Option.some.inj hσ
  clear hσ
  refine rn rfl ?_
  refine goal_cond rfl (fun h => ?_) (fun h => ?_) <;> (try simp only [gt_iff_lt, ge_iff_le, bne_iff_ne, ne_eq, bne_eq_false_iff_eq, beq_iff_eq, beq_eq_false_iff_ne, Bool.not_eq_true', Bool.not_eq_false', decide_eq_true_eq, decide_eq_false_iff_not, List.length_map] at h)
  · exact rn rfl (fin_is [] rfl ⟨rfl, rfl⟩)
  obtain ⟨h1, h2⟩ := fits_of_sz h
  have hn := hf.names
  have hl := shape_len f h2
  generalize hX : shapeF f = x at hl
  have his := hX ▸ ishape_ct f h1 h2 hn
  have hss := hX ▸ sshape_ct f h1 h2 hn
  refine rn rfl ?_
  refine goal_step (step_call [] rfl rfl rfl rfl rfl rfl (toFlat_ct f (by omega) (by omega))) ?_
  rintro σ2 ⟨r, o', ⟨rfl, rfl⟩, hσ⟩
  obtain rfl := Option.some.inj hσ
  clear hσ
  refine rn rfl ?_
  refine goal_step (step_callE [] rfl rfl rfl rfl rfl rfl (asF f) (hss)) ?_
  rintro σ2 ⟨r, o', ⟨rfl, rfl⟩, hσ⟩
  obtain rfl := Option.some.inj hσ
  clear hσ
  refine rn rfl ?_
  refine rn rfl ?_
  refine goal_step (step_call [] rfl rfl rfl rfl rfl rfl (toFlat_ct f (by omega) (by omega))) ?_
  rintro σ2 ⟨r, o', ⟨rfl, rfl⟩, hσ⟩
  obtain rfl := Option.some.inj hσ
  clear hσ
  refine rn rfl ?_
  refine goal_step (step_lendE [] rfl rfl rfl rfl rfl rfl rfl (asF f) (his) (by rintro r o ⟨rfl, rfl⟩; exact ⟨rfl, by simp [oX, ownS, noFzO, noFzR_map eS (fun _ => rfl)]⟩)) ?_
  rintro σ2 ⟨r, o', ⟨rfl, rfl⟩, hσ⟩
  obtain rfl := Option.some.inj hσ
  clear hσ
  refine rn rfl ?_
  refine goal_step (step_lendE [] rfl rfl rfl rfl rfl rfl rfl (congrArg (fun t => [t, T.agg (eX x)]) (asX x)) (eqShape_ct x (by omega)) (by rintro r o ⟨rfl, rfl⟩; exact ⟨rfl, rfl⟩)) ?_
  rintro σ2 ⟨r, o', ⟨rfl, rfl⟩, hσ⟩
  obtain rfl := Option.some.inj hσ
  clear hσ
  refine rn rfl ?_
  refine goal_cond rfl (fun h => by simp at h) (fun _ => ?_)
  refine rn rfl ?_
  refine goal_draw' [0, 6] 5 rfl ?_
  refine drn [0, 1] (by kernel_rfl) (by kernel_rfl) rfl rfl ?_
  refine AH_one (i := 2) (by kernel_rfl) (step_call [] rfl rfl rfl rfl rfl rfl (toFlat_ct f (by omega) (by omega))) (by simp) ?_
  rintro σ2 ⟨r, o', ⟨rfl, rfl⟩, hσ⟩
  obtain rfl := Option.some.inj hσ
  clear hσ
  refine AH_one (i := 3) (by kernel_rfl) (step_lendE [] rfl rfl rfl rfl rfl rfl rfl (asFF _ _) (eqFlat_ct f f (by omega) (by omega)) (by rintro r o ⟨rfl, rfl⟩; exact ⟨rfl, rfl⟩)) (by simp) ?_
  rintro σ2 ⟨r, o', ⟨rfl, rfl⟩, hσ⟩
  obtain rfl := Option.some.inj hσ
  clear hσ
  refine drn [4] (by kernel_rfl) (by kernel_rfl) rfl rfl ?_
  refine AH_end (by kernel_rfl) ?_
  refine rn rfl ?_
  refine goal_cond rfl (fun h => by simp at h) (fun _ => ?_)
  refine rn rfl ?_
  refine goal_step (step_call [4, 5] rfl rfl rfl rfl rfl rfl (markFlat_ct f _ _ (by omega) (by omega))) ?_
  rintro σ2 ⟨r, o', ⟨rfl, rfl⟩, hσ⟩
  obtain rfl := Option.some.inj hσ
  clear hσ
  refine rn rfl ?_
  refine goal_guard rfl rfl rfl (fun h => ?_) (fun h => ?_) <;> (try simp only [gt_iff_lt, ge_iff_le, bne_iff_ne, ne_eq, bne_eq_false_iff_eq, beq_iff_eq, beq_eq_false_iff_ne, Bool.not_eq_true', Bool.not_eq_false', decide_eq_true_eq, decide_eq_false_iff_not, List.length_map] at h)
  · omega
  refine rn rfl ?_
  refine goal_step (step_lendE [] rfl rfl rfl rfl rfl rfl rfl (congrArg (fun t => [t, T.agg (eX x)]) (asX x)) (eqShape_ct x (by omega)) (by rintro r o ⟨rfl, rfl⟩; exact ⟨rfl, rfl⟩)) ?_
  rintro σ2 ⟨r, o', ⟨rfl, rfl⟩, hσ⟩
  obtain rfl := Option.some.inj hσ
  clear hσ
  refine rn rfl ?_
  refine goal_cond rfl (fun h => by simp at h) (fun _ => ?_)
  refine rn rfl ?_
  refine goal_step (step_call [7] rfl rfl rfl rfl rfl rfl (markShape_ct x 1 x.names.length (by omega) (by omega) (by omega))) ?_
  rintro σ2 ⟨r, o', ⟨rfl, rfl⟩, hσ⟩
  obtain rfl := Option.some.inj hσ
  clear hσ
  refine rn rfl ?_
  refine rn rfl ?_
  refine goal_step (step_lendE [] rfl rfl rfl rfl rfl rfl rfl (congrArg (fun t => [T.agg [C.int .i64 x.count, C.fs t], T.one (.int .i64 1)]) (takeAll eS _ _ (seqS_length _ _))) (heldShape_ct x.count x.names.length 1 (by omega) (by omega) (by omega)) (by rintro r o ⟨rfl, rfl⟩; exact ⟨rfl, rfl⟩)) ?_
  rintro σ2 ⟨r, o', ⟨rfl, rfl⟩, hσ⟩
  obtain rfl := Option.some.inj hσ
  clear hσ
  refine rn rfl ?_
  refine goal_cond rfl (fun h => ?_) (fun h => ?_) <;> simp only [decide_eq_true_eq, decide_eq_false_iff_not] at h
  · omega
  refine rn rfl ?_
  refine goal_cond rfl (fun h => by simp at h) (fun _ => ?_)
  refine rn rfl ?_
  refine goal_step (step_call [] rfl rfl rfl rfl rfl rfl (toFlat_ct f (by omega) (by omega))) ?_
  rintro σ2 ⟨r, o', ⟨rfl, rfl⟩, hσ⟩
  obtain rfl := Option.some.inj hσ
  clear hσ
  refine rn rfl ?_
  refine goal_step (step_callE [] rfl rfl rfl rfl rfl rfl (asF f) (his)) ?_
  rintro σ2 ⟨r, o', ⟨rfl, rfl⟩, hσ⟩
  obtain rfl := Option.some.inj hσ
  clear hσ
  refine rn rfl ?_
  refine goal_step (step_lendE [] rfl rfl rfl rfl rfl rfl rfl (congrArg (fun t => [t, T.agg (eX x)]) (asX x)) (eqShape_ct x (by omega)) (by rintro r o ⟨rfl, rfl⟩; exact ⟨rfl, rfl⟩)) ?_
  rintro σ2 ⟨r, o', ⟨rfl, rfl⟩, hσ⟩
  obtain rfl := Option.some.inj hσ
  clear hσ
  refine rn rfl ?_
  refine goal_cond rfl (fun h => by simp at h) (fun _ => ?_)
  refine rn rfl ?_
  refine goal_step (step_lendE [] rfl rfl rfl rfl rfl rfl rfl (congrArg (fun t => [T.agg [C.int .i64 x.count, C.fs t], T.one (.int .i64 1)]) (takeAll eS _ _ (seqS_length _ _))) (heldShape_ct x.count x.names.length 1 (by omega) (by omega) (by omega)) (by rintro r o ⟨rfl, rfl⟩; exact ⟨rfl, rfl⟩)) ?_
  rintro σ2 ⟨r, o', ⟨rfl, rfl⟩, hσ⟩
  obtain rfl := Option.some.inj hσ
  clear hσ
  refine rn rfl ?_
  refine goal_cond rfl (fun h => ?_) (fun h => ?_) <;> simp only [decide_eq_true_eq, decide_eq_false_iff_not] at h
  · omega
  refine rn rfl ?_
  refine goal_cond rfl (fun h => by simp at h) (fun _ => ?_)
  exact rn rfl (fin_is [] rfl ⟨rfl, rfl⟩)

/-- All of the memory, as data. -/
def allD (w : World) (b : Nat) : Prop := b < w.heap.size

/-- A value of type 't' that can be read is some 'a', its cells told by 'enc'. -/
def Opens (P : Program) (t : TypeId) {α : Type} (enc : α → List C) (ok : α → Prop) : Prop :=
  ∀ (H : Type) (en : TypeId × Value → H) (w : World) (fuel : Nat) (cs : List Value) (x : DataW H × List MemPlace), DataW.trod en P w 0 (fun _ => true) true fuel t cs = some x →
    ∃ a : α, ok a ∧ CRp (allD w) w.heap [] (enc a) cs ∧ cs.length = (enc a).length

theorem opens_int {P : Program} {t : TypeId} (ht : P.underlying t = some (.int .i64)) : Opens P t (fun n : Int => [.int .i64 n]) (fun _ => True) := by
  intro H en w fuel cs x h
  obtain ⟨n, rfl, _, _⟩ := DataW.trod_int ht h
  exact ⟨n, trivial, by simp [CRp, CR], rfl⟩

theorem opens_str {P : Program} {t : TypeId} (ht : P.underlying t = some .string) : Opens P t (fun s : Str => [.str s]) (fun s => s.length ≤ 9223372036854775807) := by
  intro H en w fuel cs x h
  obtain ⟨s, rfl, _, hl⟩ := DataW.trod_string ht h
  refine ⟨s.data.toList, ?_, ?_, rfl⟩
  · have h1 : s.size = s.data.toList.length := (Array.length_toList).symm
    show s.data.toList.length ≤ _
    rw [← h1]
    exact Nat.le_trans hl (by decide)
  · simp only [CRp, CR, and_true]

theorem opens_slice {P : Program} {t e : TypeId} {α : Type} {enc : α → List C} {ok : α → Prop} {sz : Nat} (ht : P.underlying t = some (.slice e)) (hc : P.cellsOf e = sz) (h0 : 0 < sz) (hl : ∀ a, (enc a).length = sz) (he : Opens P e enc ok) :
    Opens P t (fun xs : List α => [.fs (xs.map enc)]) (fun xs => xs.length ≤ 9223372036854775807 ∧ ∀ x ∈ xs, ok x) := by
  intro H en w fuel cs x h
  rcases DataW.trod_slice ht h with ⟨rfl, _⟩ | ⟨a, len, cap, elems, rest, n, _, rfl, _, _, hlc, hm, hlen, hel, _, _⟩
  · refine ⟨[], by simp, ?_, rfl⟩
    simp only [CRp, CR, List.map_nil, List.length_nil, and_true]
    exact ⟨none, 0, rfl, Nat.le_refl _, .inl trivial⟩
  · have each : ∀ i, i < len → ∃ cs' : List Value, w.cells? 0 (a.add (i * sz)) sz = some cs' ∧ ∃ b : α, ok b ∧ CRp (allD w) w.heap [] (enc b) cs' ∧ cs'.length = (enc b).length := by
      intro i hi
      have := hel i hi
      rw [hc] at this
      obtain ⟨y, hy⟩ : ∃ y, elems[i]? = some y := ⟨elems[i], by simp [hlen, hi]⟩
      rw [hy, Option.bind_eq_some_iff] at this
      obtain ⟨cs', h1, h2⟩ := this
      obtain ⟨b, hb⟩ := he H en w n cs' y h2
      exact ⟨cs', h1, b, hb⟩
    have hxs : ∀ k, k ≤ len → ∃ xs : List α, xs.length = k ∧ (∀ x ∈ xs, ok x) ∧ ∀ (i : Nat) (b : α), xs[i]? = some b → ∃ cs', w.cells? 0 (a.add (i * sz)) sz = some cs' ∧ CRp (allD w) w.heap [] (enc b) cs' := by
      intro k
      induction k with
      | zero => intro _; exact ⟨[], rfl, by simp, by simp⟩
      | succ k ih =>
        intro hk
        obtain ⟨xs, q1, q2, q3⟩ := ih (by omega)
        obtain ⟨cs', h1, b, hb1, hb2, _⟩ := each k (by omega)
        refine ⟨xs ++ [b], by simp [q1], ?_, ?_⟩
        · intro x hx
          rcases List.mem_append.1 hx with hx | hx
          · exact q2 x hx
          · simp at hx; subst hx; exact hb1
        · intro i b' hi
          rw [getElem?_app_one] at hi
          split at hi
          · exact q3 i b' hi
          · split at hi
            · rename_i heq
              simp at hi
              subst hi
              rw [heq, q1]
              exact ⟨cs', h1, hb2⟩
            · cases hi
    obtain ⟨xs, q1, q2, q3⟩ := hxs len (Nat.le_refl _)
    refine ⟨xs, ⟨?_, q2⟩, ?_, rfl⟩
    · rw [q1]; exact Nat.le_trans (Nat.le_trans hlc hm) (by decide)
    · simp only [CRp, CR, and_true]
      refine ⟨some a, cap, by simp [q1], by simpa [q1] using hlc, ?_⟩
      rcases Nat.eq_zero_or_pos len with hz | hz
      · left
        have : xs = [] := List.eq_nil_of_length_eq_zero (by omega)
        simp [this]
      · right
        obtain ⟨b0, hb0⟩ : ∃ b, xs[0]? = some b := ⟨xs[0], by simp [q1, hz]⟩
        obtain ⟨cs0, hc0, _⟩ := q3 0 b0 hb0
        have hcell0 := (World.cells?_some hc0).2.2 0 (by omega)
        have hl0 := (World.cells?_some hc0).1
        -- where the row lies
        obtain ⟨cells, tt, fr, hh, hs⟩ : ∃ cells tt fr, w.heap[a.block]? = some (.cells cells tt fr) ∧ a.spot = none := by
          have hv : ∃ v, w.cell? a = some v := by
            have h2 : a.add (0 * sz) = a := by simp [Addr.add]
            rw [h2] at hcell0
            have h3 : a.add 0 = a := by simp [Addr.add]
            rw [h3] at hcell0
            have : cs0[0]? ≠ none := by
              have h4 : cs0.length = sz := by
                have := World.cells?_some hc0
                first | exact this.1 | exact this.2.1
              rw [List.getElem?_eq_getElem (by omega)]; simp
            exact ⟨cs0[0]?.get (by cases hx : cs0[0]? with | none => exact absurd hx this | some v => rfl), by rw [hcell0]; simp⟩
          obtain ⟨v, hv⟩ := hv
          unfold World.cell? at hv
          split at hv
          · rename_i cells tt fr hh
            split at hv
            · cases hv
            · rename_i hsp
              exact ⟨cells, tt, fr, hh, by cases hq : a.spot with | none => rfl | some _ => rw [hq] at hsp; simp at hsp⟩
          · cases hv
        refine ⟨a, cells, tt, fr, sz, rfl, hs, (Array.getElem?_eq_some_iff.1 hh).1, hh, ?_⟩
        rw [CRr_iff]
        intro i r hi
        rw [List.getElem?_map] at hi
        cases hxi : xs[i]? with
        | none => rw [hxi] at hi; simp at hi
        | some b =>
          rw [hxi] at hi
          simp at hi
          subst hi
          obtain ⟨cs', hc', hr'⟩ := q3 i b hxi
          refine ⟨hl b, CRp.congr (fun j hj => ?_) hr'⟩
          rw [hl b] at hj
          have := (World.cells?_some hc').2.2 j hj
          rw [← this]
          have ha : (a.add (i * sz)).add j = ⟨a.block, a.off + i * sz + j, none⟩ := by rw [add_eq a _ hs, add_eq _ _ rfl]
          rw [ha, List.getElem?_drop]
          simp [World.cell?, hh, Nat.add_assoc]

/-- The fields of a struct, one by one. -/
def OpensF (P : Program) (fs : List (Nat × TypeId)) (off : Nat) {α : Type} (enc : α → List C) (ok : α → Prop) : Prop :=
  ∀ (H : Type) (en : TypeId × Value → H) (w : World) (fuel : Nat) (cs : List Value), (∀ f ∈ fs, ∃ x : DataW H × List MemPlace, DataW.trod en P w 0 (fun _ => true) true fuel f.2 ((cs.drop f.1).take (P.cellsOf f.2)) = some x) →
    ∃ a : α, ok a ∧ CRp (allD w) w.heap [] (enc a) (cs.drop off)

theorem opensF_nil {P : Program} {off : Nat} : OpensF P [] off (fun _ : Unit => []) (fun _ => True) := by
  intro H en w fuel cs _
  exact ⟨(), trivial, by simp [CRp]⟩

theorem opensF_cons {P : Program} {t : TypeId} {fs : List (Nat × TypeId)} {off off' : Nat} {α β : Type} {enc : α → List C} {enc' : β → List C} {ok : α → Prop} {ok' : β → Prop}
    (h1 : Opens P t enc ok) (hl : ∀ a, (enc a).length = off' - off) (hle : off ≤ off') (h2 : OpensF P fs off' enc' ok') : OpensF P ((off, t) :: fs) off (fun ab : α × β => enc ab.1 ++ enc' ab.2) (fun ab => ok ab.1 ∧ ok' ab.2) := by
  intro H en w fuel cs hf
  obtain ⟨x, hx⟩ := hf (off, t) (by simp)
  obtain ⟨a, ha, hr, hlen⟩ := h1 H en w fuel _ x hx
  obtain ⟨b, hb, hr'⟩ := h2 H en w fuel cs (fun f hf' => hf f (by simp [hf']))
  refine ⟨(a, b), ⟨ha, hb⟩, ?_⟩
  rw [CRp.app, hl a]
  refine ⟨?_, by rw [List.drop_drop, show off + (off' - off) = off' by omega]; exact hr'⟩
  have := CRp.more (r := (cs.drop off).drop (P.cellsOf t)) hr
  rwa [List.take_append_drop] at this

theorem opens_struct {P : Program} {t : TypeId} {fs : Array Field} {α : Type} {enc : α → List C} {ok : α → Prop} {sz : Nat} (ht : P.underlying t = some (.struct fs)) (hc : P.cellsOf t = sz) (hl : ∀ a, (enc a).length = sz)
    (h : OpensF P (fs.toList.map fun f => (f.offset, f.type)) 0 enc ok) : Opens P t enc ok := by
  intro H en w fuel cs x hx
  obtain ⟨xs, n, _, _, h1, h2, h3⟩ := DataW.trod_struct ht hx
  obtain ⟨a, ha, hr⟩ := h H en w n cs (fun f hf => by
    obtain ⟨g, hg, rfl⟩ := List.mem_map.1 hf
    obtain ⟨i, hi⟩ := List.getElem?_of_mem hg
    have hi' : fs[i]? = some g := by simpa using hi
    have := h3 i g hi'
    have hlt : i < xs.length := by rw [h2]; exact (Array.getElem?_eq_some_iff.1 hi').1
    exact ⟨xs[i], by rw [this]; simp [hlt]⟩)
  exact ⟨a, ha, by simpa using hr, by rw [h1, hc, hl a]⟩

section
open Go Go.ChangeShapes Go.WideShapes Go.ChangeAt Go.RowKit
theorem TIok.cellsOf {P : Program} {t : Nat} {ti : TI} (H : TIok P t ti) : P.cellsOf t = ti.size := by
  obtain ⟨i, z, hi, hs, _⟩ := H.info
  simp [Program.cellsOf, hi, hs]

section

variable {X : Pk} {t : Nat} {ti te : TI}

theorem xo_int (h : findTI X.L t = some ti) (hk : ti.kind = 4) (hik : ti.ik = .i64) : Opens X.P t (fun n : Int => [.int .i64 n]) (fun _ => True) := by
  have := (X.tiok h).int hk
  rw [hik] at this
  exact opens_int this

theorem xo_str (h : findTI X.L t = some ti) (hk : ti.kind = 1) : Opens X.P t (fun s : Str => [.str s]) (fun s => s.length ≤ 9223372036854775807) := opens_str ((X.tiok h).string hk)

theorem xo_slice {α : Type} {enc : α → List C} {ok : α → Prop} (h : findTI X.L t = some ti) (hk : ti.kind = 2) (he : findTI X.L ti.elem = some te) (h0 : Nat.blt 0 te.size = true) (hl : ∀ a, (enc a).length = te.size) (hE : Opens X.P ti.elem enc ok) :
    Opens X.P t (fun xs : List α => [.fs (xs.map enc)]) (fun xs => xs.length ≤ 9223372036854775807 ∧ ∀ x ∈ xs, ok x) :=
  opens_slice ((X.tiok h).slice hk) (X.tiok he).cellsOf (by simpa [Nat.blt_eq] using h0) hl hE

theorem xo_struct {α : Type} {enc : α → List C} {ok : α → Prop} (h : findTI X.L t = some ti) (hk : ti.kind = 3) (hl : ∀ a, (enc a).length = ti.size) (hF : OpensF X.P ti.fields 0 enc ok) : Opens X.P t enc ok := by
  obtain ⟨fs, hu, hfs⟩ := (X.tiok h).struct hk
  exact opens_struct hu (X.tiok h).cellsOf hl (by rw [hfs]; exact hF)

end

theorem Opens.map {P : Program} {t : TypeId} {α β : Type} {enc : α → List C} {ok : α → Prop} {enc' : β → List C} {ok' : β → Prop} (h : Opens P t enc ok) (g : α → β) (he : ∀ a, enc' (g a) = enc a) (ho : ∀ a, ok a → ok' (g a)) : Opens P t enc' ok' := by
  intro H en w fuel cs x hx
  obtain ⟨a, h1, h2, h3⟩ := h H en w fuel cs x hx
  exact ⟨g a, ho a h1, by rw [he]; exact h2, by rw [he]; exact h3⟩

/-- A law's contract, as a call from any memory. -/
theorem law_calls {X : Pk} {f : FuncId} {args : List T} {vals : Array Value} {w : World} (h : ACalls X f args [] (fun r o => r = .one (.bool true) ∧ o = [])) (ha : TRs (allD w) w.heap [] args vals.toList) :
    Calls X.P f vals w fun e w' => e = .returned (.bool true) ∧ Below w.heap.size w w' := by
  have hsr : SR (allD w) w.heap [] [] := ⟨rfl, by simp, by simp, by simp, fun b hb => hb⟩
  refine (h.2 (allD w) [] w vals.toList hsr ha (by simp)).mono ?_
  rintro en w' ⟨v, r, o', D', e', rfl, ⟨rfl, rfl⟩, htr, _, hext, _⟩
  simp only [TR, CR] at htr
  subst htr
  refine ⟨rfl, hext.os, hext.tape, hext.output, hext.size, fun k hk => hext.block k hk ?_⟩
  rintro ⟨id, a, esz, cap, n, he, _⟩
  simp at he
end

section
open Go Go.ChangeShapes
theorem agg_of_okWide {P : Program} {W : World} {r : Reach} {base : Nat} {t : TypeId} {v : Value} {fs : Array Field} (hu : P.underlying t = some (.struct fs)) (h : Value.okWide P W r base t v) : ∃ cs, v = .agg cs := by
  unfold Value.okWide at h
  rw [hu] at h
  obtain ⟨cs, h2, _⟩ := h
  exact ⟨cs, h2⟩
end

section
open Go Go.ChangeShapes
def PairOk (p : Pair) : Prop := p.name.length ≤ 9223372036854775807

theorem openPair : Opens pk.P 171 eP PairOk :=
  Opens.map (xo_struct (α := Str × Int × Unit) rfl rfl (fun _ => rfl) (opensF_cons (off' := 1) (xo_str rfl rfl) (fun _ => rfl) (by omega) (opensF_cons (off' := 2) (xo_int rfl rfl rfl) (fun _ => rfl) (by omega) opensF_nil)))
    (fun x => ⟨x.1, x.2.1⟩) (fun _ => rfl) (fun _ h => h.1)

theorem openFlat : Opens pk.P 56 eF Fits :=
  Opens.map (xo_struct (α := List Int × List Pair × Unit) rfl rfl (fun _ => rfl) (opensF_cons (off' := 1) (xo_slice (enc := eI) rfl rfl rfl rfl (fun _ => rfl) (xo_int rfl rfl rfl)) (fun _ => rfl) (by omega)
      (opensF_cons (off' := 2) (xo_slice rfl rfl rfl rfl (fun _ => rfl) openPair) (fun _ => rfl) (by omega) opensF_nil)))
    (fun x => ⟨x.1, x.2.1⟩) (fun _ => rfl) (fun _ h => ⟨h.1.1, h.2.1.1, h.2.1.2⟩)
end

end Go.Proofs.Ytodggffbepfemaa
