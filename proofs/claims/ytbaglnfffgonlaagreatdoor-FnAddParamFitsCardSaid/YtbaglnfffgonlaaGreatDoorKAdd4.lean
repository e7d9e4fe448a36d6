/- Part 4 of the proof: an abstract machine over the model; contracts of the functions that the law reaches. -/
import Derived.Test.YtbaglnfffgonlaaGreatDoorKAdd3
set_option linter.unusedVariables false
set_option linter.unusedSimpArgs false
namespace Go.Proofs.YtbaglnfffgonlaaGreatDoor
open Go
set_option maxRecDepth 100000
set_option maxHeartbeats 1000000

def insS (n : Str) (S : List Str) : List Str := S.takeWhile (fun x => ltS x n) ++ n :: S.dropWhile (fun x => ltS x n)

def sortS (xs : List Str) : List Str := xs.foldl (fun out n => insS n out) []

def mkN (n : Str) : Pair := ⟨n, 0⟩

theorem insS_map (n : Str) : ∀ S : List Str, (insS n S).map mkN = insL (mkN n) (S.map mkN)
  | [] => rfl
  | x :: S => by
    have ih := insS_map n S
    cases h : ltS x n with
    | true =>
      have h' : ltN (mkN x) (mkN n) = true := h
      rw [List.map_cons, insL_cons_lt h', ← ih]
      simp [insS, h]
    | false =>
      have h' : ltN (mkN x) (mkN n) = false := h
      rw [List.map_cons, insL_cons_ge h']
      simp [insS, h]

theorem sortS_map (xs : List Str) : (sortS xs).map mkN = sortL (xs.map mkN) := by
  have key : ∀ (xs S : List Str), (xs.foldl (fun out n => insS n out) S).map mkN = (xs.map mkN).foldl (fun out p => insL p out) (S.map mkN) := by
    intro xs
    induction xs with
    | nil => intro S; rfl
    | cons x xs ih => intro S; rw [List.foldl_cons, ih, List.map_cons, List.foldl_cons, insS_map]
  exact key xs []

theorem sinkR_map (p : Str) : ∀ (ra acc : List Str), (sinkR ltS p ra acc).map mkN = sinkR ltN (mkN p) (ra.map mkN) (acc.map mkN)
  | [], acc => rfl
  | x :: ra, acc => by
    have h0 : ltN (mkN p) (mkN x) = ltS p x := rfl
    simp only [sinkR, List.map_cons, h0]
    split
    · rw [sinkR_map p ra]; rfl
    · simp [sinkR]

theorem isortS_map (xs : List Str) : (isortL ltS xs).map mkN = isortL ltN (xs.map mkN) := by
  have key : ∀ (xs S : List Str), (xs.foldl (fun S x => insR ltS x S) S).map mkN = (xs.map mkN).foldl (fun S x => insR ltN x S) (S.map mkN) := by
    intro xs
    induction xs with
    | nil => intro S; rfl
    | cons x xs ih =>
      intro S
      rw [List.foldl_cons, ih, List.map_cons, List.foldl_cons]
      congr 1
      unfold insR
      rw [sinkR_map, List.map_reverse]; rfl
  exact key xs []

theorem names_mk (xs : List Str) : namesOf (xs.map mkN) = xs := by
  simp only [namesOf, List.map_map]
  have : (Pair.name ∘ mkN) = id := rfl
  rw [this, List.map_id]

theorem sortS_eq (xs : List Str) (h : xs.Nodup) : isortL ltS xs = sortS xs := by
  have h1 := isortS_map xs
  rw [sorts_eq _ (by rw [names_mk]; exact h), ← sortS_map] at h1
  have := congrArg namesOf h1
  rwa [names_mk, names_mk] at this

theorem sortS_mem (xs : List Str) (x : Str) : x ∈ sortS xs ↔ x ∈ xs := by
  have key : ∀ (xs S : List Str), x ∈ xs.foldl (fun out n => insS n out) S ↔ x ∈ S ∨ x ∈ xs := by
    intro xs
    induction xs with
    | nil => intro S; simp
    | cons y xs ih =>
      intro S
      rw [List.foldl_cons, ih]
      have : x ∈ insS y S ↔ x = y ∨ x ∈ S := by
        have h1 := List.takeWhile_append_dropWhile (p := fun x => ltS x y) (l := S)
        constructor
        · intro h
          simp only [insS, List.mem_append, List.mem_cons] at h
          rw [← h1]
          simp only [List.mem_append]
          rcases h with h | h | h <;> simp [h]
        · intro h
          rw [← h1] at h
          simp only [insS, List.mem_append, List.mem_cons] at h ⊢
          rcases h with h | h | h <;> simp [h]
      rw [this, List.mem_cons]
      constructor
      · rintro ((h | h) | h) <;> simp [h]
      · rintro (h | h | h) <;> simp [h]
  simpa [sortS] using key xs []

theorem sortS_length (xs : List Str) : (sortS xs).length = xs.length := by
  have := congrArg List.length (sortS_map xs)
  simpa [sortL_length] using this

def bareQ (p : Param) : Bool := p.kind == 0 && !p.hasD

def openQ (q : Param) (i : Nat) (n : Nat) : Bool := q.kind == 3 || (q.kind == 1 && decide (n ≤ i))

def nedQ (n : Nat) (x : Param × Nat) : Bool := openQ x.1 x.2 n && !x.1.hasD

def needNs (s : Sig) (n : Nat) : List Str := (s.zipIdx.filter (nedQ n)).map (fun x => x.1.name)

def takesC (s : Sig) (n : Nat) : Bool := !(decide (placesQ s < n) && !s.any (kIs 2)) && (s.drop n).all (fun p => !bareQ p)

theorem needNs_succ {s : Sig} {n i : Nat} {q : Param} (hq : s[i]? = some q) : needNs (s.take (i + 1)) n = needNs (s.take i) n ++ (if nedQ n (q, i) then [q.name] else []) := by
  have hl : (s.take i).length = i := by have := lt_of_some hq; simp; omega
  unfold needNs
  rw [← take_snoc hq, List.zipIdx_append, List.filter_append, List.map_append, hl]
  congr 1
  simp only [List.zipIdx_cons, List.zipIdx_nil, Nat.zero_add, List.filter_cons, List.filter_nil]
  split <;> rfl

theorem needNs_sub (s : Sig) (n : Nat) : List.Sublist (needNs s n) (s.map Param.name) := by
  have h1 : s.map Param.name = s.zipIdx.map (fun x => x.1.name) := by
    have : (s.zipIdx.map Prod.fst) = s := by simp
    conv => lhs; rw [← this, List.map_map]
    rfl
  rw [h1]
  exact List.filter_sublist.map _

theorem needNs_len (s : Sig) (n : Nat) : (needNs s n).length ≤ s.length := by
  have := (needNs_sub s n).length_le
  simpa using this

theorem takes_iff {s : Sig} {n : Nat} : (s.drop n).all (fun p => !bareQ p) = true ↔ ∀ j p, s[j]? = some p → n ≤ j → bareQ p = false := by
  rw [List.all_eq_true]
  constructor
  · intro h j p hp hj
    have : p ∈ s.drop n := by
      have h2 : (s.drop n)[j - n]? = some p := by rw [List.getElem?_drop, show n + (j - n) = j by omega]; exact hp
      exact List.mem_of_getElem? h2
    simpa using h p this
  · intro h p hp
    obtain ⟨k, hk⟩ := List.getElem?_of_mem hp
    rw [List.getElem?_drop] at hk
    simpa using h _ p hk (by omega)

def allowQ (s : Sig) (n : Nat) (m : Str) : Prop := goesQ s m ∧ ∀ (i : Nat) (p : Param), s[i]? = some p → namedQ p = true → p.name = m → p.kind = 1 → n ≤ i

theorem wrong_allow {s : Sig} (hs : OkS s) {pl : List Int} {q : Pair} : wrongQ s pl q = none ↔ allowQ s pl.length q.name := by
  rw [wrong_iff2 hs]
  unfold allowQ
  refine and_congr_right fun _ => ?_
  constructor
  · intro h i p hp hn he hk
    have := h i p hp hn he
    unfold byPl at this
    rw [placed_kind.2 (.inr hk)] at this
    simpa using this
  · intro h i p hp hn he
    unfold byPl
    cases hpl : placedQ p with
    | false => rfl
    | true =>
      have := h i p hp hn he (by rw [placed_kind] at hpl; rw [named_kind] at hn; omega)
      simp; omega

theorem need_mem {s : Sig} {n : Nat} {m : Str} : m ∈ needNs s n ↔ ∃ (i : Nat) (p : Param), s[i]? = some p ∧ openQ p i n = true ∧ p.hasD = false ∧ p.name = m := by
  unfold needNs nedQ
  simp only [List.mem_map, List.mem_filter, Bool.and_eq_true, Bool.not_eq_true', Prod.exists]
  constructor
  · rintro ⟨p, i, ⟨h1, h2, h3⟩, h4⟩
    exact ⟨i, p, List.mem_zipIdx_iff_getElem?.1 h1, h2, h3, h4⟩
  · rintro ⟨i, p, h1, h2, h3, h4⟩
    exact ⟨p, i, ⟨List.mem_zipIdx_iff_getElem?.2 h1, h2, h3⟩, h4⟩

theorem open_kind {p : Param} {i n : Nat} : openQ p i n = true ↔ p.kind = 3 ∨ (p.kind = 1 ∧ n ≤ i) := by
  simp [openQ]

theorem takesC_iff {s : Sig} {n : Nat} : takesC s n = true ↔ (placesQ s < n → s.any (kIs 2) = true) ∧ ∀ (j : Nat) (p : Param), s[j]? = some p → n ≤ j → bareQ p = false := by
  unfold takesC
  rw [Bool.and_eq_true, takes_iff]
  refine and_congr_left fun _ => ?_
  simp only [Bool.not_eq_true', Bool.and_eq_false_iff, decide_eq_false_iff_not, Bool.not_eq_false']
  constructor
  · rintro (h | h) h1
    · exact absurd h1 h
    · exact h
  · intro h
    by_cases h1 : placesQ s < n
    · exact .inr (h h1)
    · exact .inl h1

theorem acc_law {s : Sig} {f : Flat} (hs : OkS s) (hf : OkF f) : accQ s f = true ↔
    takesC s f.places.length = true ∧ (∀ m ∈ needNs s f.places.length, m ∈ namesOf f.named) ∧ ∀ m ∈ namesOf f.named, allowQ s f.places.length m := by
  rw [acc_iff hs hf, lack_iff, takesC_iff]
  have hw : (∀ q ∈ f.named, wrongQ s f.places q = none) ↔ ∀ m ∈ namesOf f.named, allowQ s f.places.length m := by
    constructor
    · intro h m hm
      obtain ⟨q, hq, rfl⟩ := List.mem_map.1 hm
      exact (wrong_allow hs).1 (h q hq)
    · intro h q hq
      exact (wrong_allow hs).2 (h _ (List.mem_map_of_mem hq))
  rw [hw]
  constructor
  · rintro ⟨h1, h2, h3⟩
    refine ⟨⟨h1, fun j p hp hj => ?_⟩, fun m hm => ?_, h2⟩
    · unfold bareQ
      cases hk : p.kind == 0 with
      | false => rfl
      | true =>
        simp only [beq_iff_eq] at hk
        rcases h3 j p hp (single_kind.2 (.inl hk)) with h | h | ⟨h, _⟩
        · simp [h]
        · simp only [byPl, Bool.and_eq_true, decide_eq_true_eq] at h; omega
        · rw [named_kind] at h; omega
    · obtain ⟨i, p, hp, ho, hd, rfl⟩ := need_mem.1 hm
      rw [open_kind] at ho
      rcases h3 i p hp (single_kind.2 (by omega)) with h | h | ⟨_, h⟩
      · rw [hd] at h; cases h
      · simp only [byPl, Bool.and_eq_true, decide_eq_true_eq, placed_kind] at h; omega
      · exact any_names.1 h
  · rintro ⟨⟨h1, h3⟩, h4, h2⟩
    refine ⟨h1, h2, fun i p hp hsg => ?_⟩
    cases hd : p.hasD with
    | true => exact .inl rfl
    | false =>
      right
      rw [single_kind] at hsg
      by_cases hi : placedQ p = true ∧ i < f.places.length
      · left; simp [byPl, hi]
      · right
        have hne : p.kind ≠ 0 := fun h0 => by
          have := h3 i p hp (Nat.le_of_not_lt fun h5 => hi ⟨placed_kind.2 (.inl h0), h5⟩)
          simp [bareQ, h0, hd] at this
        refine ⟨named_kind.2 (by omega), any_names.2 (h4 _ (need_mem.2 ⟨i, p, hp, open_kind.2 ?_, hd, rfl⟩))⟩
        rcases hsg with h | h | h
        · exact absurd h hne
        · exact .inr ⟨h, Nat.le_of_not_lt fun h5 => hi ⟨placed_kind.2 (.inr h), h5⟩⟩
        · exact .inl h

theorem need_allow {s : Sig} (hs : OkS s) {n : Nat} {m : Str} (h : m ∈ needNs s n) : allowQ s n m := by
  obtain ⟨i, p, hp, ho, hd, rfl⟩ := need_mem.1 h
  rw [open_kind] at ho
  refine ⟨.inl ⟨i, p, hp, named_kind.2 (by omega), rfl⟩, fun j q hq hn he hk => ?_⟩
  obtain rfl := name_inj hs hq hp he
  rw [hp] at hq; cases hq
  omega

theorem need_skip {n i : Nat} {p : Param} (h : singleQ p = false ∨ p.hasD = true ∨ (placedQ p = true ∧ i < n)) : nedQ n (p, i) = false := by
  unfold nedQ openQ
  simp only
  rcases h with h | h | ⟨h, hi⟩
  · have : p.kind ≠ 1 ∧ p.kind ≠ 3 := by
      constructor <;> intro h0 <;> simp [singleQ, placedQ, h0] at h
    simp [this.1, this.2]
  · simp [h]
  · rw [placed_kind] at h
    have : ¬ n ≤ i := by omega
    have h3 : p.kind ≠ 3 := by omega
    simp [this, h3]

theorem need_take {n i : Nat} {p : Param} (hs : singleQ p = true) (hd : p.hasD = false) (hp : placedQ p = false ∨ n ≤ i) (hk : ¬ p.kind = 0) : nedQ n (p, i) = true := by
  unfold nedQ openQ
  simp only [hd, Bool.not_false, Bool.and_true]
  rw [single_kind] at hs
  rcases hs with h | h | h
  · exact absurd h hk
  · have : n ≤ i := by
      rcases hp with hp | hp
      · simp [placedQ, h] at hp
      · exact hp
    simp [h, this]
  · simp [h]

def needsF (s : Sig) (n : Int) : List Str × Bool := if inR n 0 8 && takesC s n.toNat then (sortS (needNs s n.toNat), true) else ([], false)

theorem ineeds_ct (s : Sig) (n : Int) (hs : OkS s) : ACalls pk 74 [.agg (eG s), .one (.int .i64 n)] [] (fun r o => r = .tup [.one (.os 0 0 (needsF s n).1.length (needsF s n).1.length), .one (.bool (needsF s n).2)] ∧ o = [ownS (needsF s n).1]) := by
  have hl := hs.len
  have hP := placesQ_le s
  refine acalls_of_body Tryz.func74 rfl (by kernel_rfl) rfl ?_
  refine rt 1 rfl ?_
  refine goal_cutR (fun σ' => (inR n 0 8 = true ∧ (decide (placesQ s < n.toNat) && !s.any (kIs 2)) = false) ∧ σ' = ⟨[(2, .one (.op 0 0 0)), (1, .one (.int .i64 n))], [some ⟨1, [eG s], false, false, true⟩], []⟩) ?_ ?_
  · refine rn rfl ?_
    refine goal_step (step_call [] rfl rfl rfl rfl rfl rfl (iin_ct n 0 8)) ?_
    rintro σ2 ⟨r, o', ⟨rfl, rfl⟩, hσ⟩
    obtain rfl := Option.some.inj hσ
    clear hσ
    refine rn rfl ?_
    refine goal_guard rfl rfl rfl (fun h1 => ?_) (fun h1 => ?_) <;> (try simp only [gt_iff_lt, ge_iff_le, bne_iff_ne, ne_eq, bne_eq_false_iff_eq, beq_iff_eq, beq_eq_false_iff_ne, Bool.not_eq_true', Bool.not_eq_false', decide_eq_true_eq, decide_eq_false_iff_not, List.length_map] at h1)
    · have hz : needsF s n = ([], false) := by simp [needsF, h1]
      rw [hz]
      refine rn rfl ?_
      refine cut_ret ?_
      exact fin_weak (Weak.adopt 4 0 1) (fin_is [1] rfl ⟨rfl, rfl⟩)
    · have hr : 0 ≤ n ∧ n ≤ 8 := by simp [inR] at h1; omega
      refine rn rfl ?_
      refine goal_step (step_call [] rfl rfl rfl rfl rfl rfl (iplaces_ct s (by omega))) ?_
      rintro σ2 ⟨r, o', ⟨rfl, rfl⟩, hσ⟩
      obtain rfl := Option.some.inj hσ
      clear hσ
      refine rn rfl ?_
      refine goal_guard rfl rfl rfl (fun h2 => ?_) (fun h2 => ?_) <;> (try simp only [gt_iff_lt, ge_iff_le, bne_iff_ne, ne_eq, bne_eq_false_iff_eq, beq_iff_eq, beq_eq_false_iff_ne, Bool.not_eq_true', Bool.not_eq_false', decide_eq_true_eq, decide_eq_false_iff_not, List.length_map] at h2)
      · refine rn rfl ?_
        refine goal_step (step_call [] rfl rfl rfl rfl rfl rfl (has_ct s 2 (by omega))) ?_
        rintro σ2 ⟨r, o', ⟨rfl, rfl⟩, hσ⟩
        obtain rfl := Option.some.inj hσ
        clear hσ
        refine rn rfl ?_
        refine goal_cond rfl (fun h3 => ?_) (fun h3 => ?_) <;> (try simp only [gt_iff_lt, ge_iff_le, bne_iff_ne, ne_eq, bne_eq_false_iff_eq, beq_iff_eq, beq_eq_false_iff_ne, Bool.not_eq_true', Bool.not_eq_false', decide_eq_true_eq, decide_eq_false_iff_not, List.length_map] at h3)
        · have hz : needsF s n = ([], false) := by
            have : placesQ s < n.toNat := by omega
            simp [needsF, takesC, h3, this]
          rw [hz]
          refine rn rfl ?_
          refine cut_ret ?_
          exact fin_weak (Weak.adopt 4 0 1) (fin_is [1] rfl ⟨rfl, rfl⟩)
        · refine rn rfl ?_
          exact cut_nrm [2, 1] [0] rfl ⟨⟨by simpa using h1, by simp [h3]⟩, rfl⟩
      · have hno : ¬ placesQ s < n.toNat := by omega
        refine rn rfl ?_
        exact cut_nrm [2, 1] [0] rfl ⟨⟨by simpa using h1, by simp [hno]⟩, rfl⟩
  rintro _ ⟨⟨hin, hpre⟩, rfl⟩
  have hr : 0 ≤ n ∧ n ≤ 8 := by simp [inR] at hin; omega
  obtain ⟨k, rfl⟩ : ∃ k : Nat, n = k := ⟨n.toNat, by omega⟩
  rw [Int.toNat_natCast] at hpre
  have hnF : needsF s k = if (s.drop k).all (fun p => !bareQ p) then (sortS (needNs s k), true) else ([], false) := by
    simp only [needsF, hin, takesC, Int.toNat_natCast, hpre, Bool.true_and, Bool.not_false]
  rw [hnF]
  refine rn rfl ?_
  refine goal_weakCod (Weak.adopt 6 0 1) ?_
  refine goal_loop_keep (fun m σ => ∃ (q L pc : Int) (i l : Nat) (acc : List Str), q = i ∧ L = s.length ∧ pc = ((min i (placesQ s) : Nat) : Int) ∧ i ≤ s.length ∧ m = s.length - i ∧ l = acc.length ∧ acc = needNs (s.take i) k ∧
      (∀ j p, s[j]? = some p → k ≤ j → j < i → bareQ p = false) ∧
      σ = ⟨[(27, .one (.int .i64 q)), (26, .one (.int .i64 L)), (25, .one (.fs (s.map eQ))), (7, .one (.int .i64 pc)), (6, .one (.os 0 0 l l)), (1, .one (.int .i64 k))], [ownS acc], []⟩) s.length [27, 26, 25, 7, 6, 1] [1] rfl
    ⟨_, _, _, 0, 0, [], rfl, ?_, ?_, by omega, by omega, rfl, rfl, fun j p _ h1 h2 => by omega, rfl⟩ ?_
  · simp
  · simp
  rintro m σ ⟨q, L, pc, i, l, acc, rfl, rfl, rfl, hi, rfl, rfl, hacc, hall, rfl⟩
  have hal := needNs_len (s.take i) k
  rw [← hacc, List.length_take] at hal
  refine rn rfl ?_
  refine goal_cond rfl (fun h => ?_) (fun h => ?_) <;> (try simp only [gt_iff_lt, ge_iff_le, bne_iff_ne, ne_eq, bne_eq_false_iff_eq, beq_iff_eq, beq_eq_false_iff_ne, Bool.not_eq_true', Bool.not_eq_false', decide_eq_true_eq, decide_eq_false_iff_not, List.length_map] at h)
  · obtain ⟨p, hp⟩ := at_some (xs := s) (i := i) (by omega)
    have hst := needNs_succ (n := k) hp
    rw [← hacc] at hst
    have hpi := hs.placed_iff hp
    have hskip : nedQ k (p, i) = false → needNs (s.take (i + 1)) k = acc := fun h0 => by rw [hst, h0]; simp
    have hallS : bareQ p = false ∨ i < k → ∀ j r, s[j]? = some r → k ≤ j → j < i + 1 → bareQ r = false := fun h0 j r hr hj hji => by
      by_cases hij : j = i
      · subst hij
        rw [hp] at hr; cases hr
        rcases h0 with h0 | h0
        · exact h0
        · omega
      · exact hall j r hr hj (by omega)
    refine rn rfl ?_
    refine goal_did rfl rfl (dA_index (eQ p) rfl rfl rfl rfl rfl rfl rfl (by omega) (by (try simp); omega) (map_at (by simpa using hp)) rfl) ?_
    refine rt 8 rfl ?_
    refine goal_cutR (fun σ' => σ' = ⟨[(27, .one (.int .i64 i)), (26, .one (.int .i64 s.length)), (25, .one (.fs (s.map eQ))), (9, .one (.op 1 0 0)), (7, .one (.int .i64 ((min (i + 1) (placesQ s) : Nat) : Int))), (6, .one (.os 0 0 acc.length acc.length)), (1, .one (.int .i64 k))], [ownS acc, some ⟨4, [eQ p], false, false, true⟩], []⟩) ?_ ?_
    · refine rn rfl ?_
      refine goal_step (step_call [] rfl rfl rfl rfl rfl rfl (iplaced_ct p)) ?_
      rintro σ2 ⟨r, o', ⟨rfl, rfl⟩, hσ⟩
      obtain rfl := Option.some.inj hσ
      clear hσ
      refine rn rfl ?_
      refine goal_cond rfl (fun h1 => ?_) (fun h1 => ?_) <;> (try simp only [gt_iff_lt, ge_iff_le, bne_iff_ne, ne_eq, bne_eq_false_iff_eq, beq_iff_eq, beq_eq_false_iff_ne, Bool.not_eq_true', Bool.not_eq_false', decide_eq_true_eq, decide_eq_false_iff_not, List.length_map] at h1)
      · have hip := hpi.1 h1
        have e : IntKind.i64.wrap (((min i (placesQ s) : Nat) : Int) + 1) = ((min (i + 1) (placesQ s) : Nat) : Int) := by rw [wrap64 (by omega) (by omega)]; omega
        rw [← e]
        refine rn rfl ?_
        exact cut_nrm [27, 26, 25, 9, 7, 6, 1] [0, 1] rfl rfl
      · have hip : ¬ i < placesQ s := fun h0 => by rw [hpi.2 h0] at h1; cases h1
        have e : min (i + 1) (placesQ s) = min i (placesQ s) := by omega
        rw [e]
        refine rn rfl ?_
        exact cut_nrm [27, 26, 25, 9, 7, 6, 1] [0, 1] rfl rfl
    rintro _ rfl
    refine rt 10 rfl ?_
    refine goal_cutR (fun σ' => (singleQ p = true ∧ p.hasD = false ∧ (placedQ p = false ∨ k ≤ i)) ∧ σ' = ⟨[(27, .one (.int .i64 i)), (26, .one (.int .i64 s.length)), (25, .one (.fs (s.map eQ))), (9, .one (.op 1 0 0)), (7, .one (.int .i64 ((min (i + 1) (placesQ s) : Nat) : Int))), (6, .one (.os 0 0 acc.length acc.length)), (1, .one (.int .i64 k))], [ownS acc, some ⟨4, [eQ p], false, false, true⟩], []⟩) ?_ ?_
    · have next : ∀ h0 : singleQ p = false ∨ p.hasD = true ∨ (placedQ p = true ∧ i < k), needNs (s.take (i + 1)) k = acc ∧ ∀ j r, s[j]? = some r → k ≤ j → j < i + 1 → bareQ r = false := fun h0 =>
        ⟨hskip (need_skip h0), hallS (by
          rcases h0 with h0 | h0 | ⟨_, h0⟩
          · left
            have : p.kind ≠ 0 := fun h2 => by simp [singleQ, placedQ, h2] at h0
            simp [bareQ, this]
          · left; simp [bareQ, h0]
          · right; exact h0)⟩
      refine rn rfl ?_
      refine goal_step (step_call [] rfl rfl rfl rfl rfl rfl (isingle_ct p)) ?_
      rintro σ2 ⟨r, o', ⟨rfl, rfl⟩, hσ⟩
      obtain rfl := Option.some.inj hσ
      clear hσ
      refine rn rfl ?_
      refine goal_guard rfl rfl rfl (fun h1 => ?_) (fun h1 => ?_) <;> (try simp only [gt_iff_lt, ge_iff_le, bne_iff_ne, ne_eq, bne_eq_false_iff_eq, beq_iff_eq, beq_eq_false_iff_ne, Bool.not_eq_true', Bool.not_eq_false', decide_eq_true_eq, decide_eq_false_iff_not, List.length_map] at h1)
      · obtain ⟨n1, n2⟩ := next (.inl h1)
        refine rn rfl ?_
        refine cut_ext ?_
        refine rn rfl ?_
        refine round_keep (s.length - (i + 1)) [27, 26, 25, 7, 6, 1] [0] (by omega) rfl ⟨_, _, _, i + 1, acc.length, acc, wrap64 (by omega) (by omega), rfl, rfl, by omega, rfl, rfl, n1.symm, n2, rfl⟩
      · refine rn rfl ?_
        refine goal_guard rfl rfl rfl (fun h2 => ?_) (fun h2 => ?_) <;> (try simp only [gt_iff_lt, ge_iff_le, bne_iff_ne, ne_eq, bne_eq_false_iff_eq, beq_iff_eq, beq_eq_false_iff_ne, Bool.not_eq_true', Bool.not_eq_false', decide_eq_true_eq, decide_eq_false_iff_not, List.length_map] at h2)
        · obtain ⟨n1, n2⟩ := next (.inr (.inl h2))
          refine rn rfl ?_
          refine cut_ext ?_
          refine rn rfl ?_
          refine round_keep (s.length - (i + 1)) [27, 26, 25, 7, 6, 1] [0] (by omega) rfl ⟨_, _, _, i + 1, acc.length, acc, wrap64 (by omega) (by omega), rfl, rfl, by omega, rfl, rfl, n1.symm, n2, rfl⟩
        · refine rn rfl ?_
          refine goal_step (step_call [] rfl rfl rfl rfl rfl rfl (iplaced_ct p)) ?_
          rintro σ2 ⟨r, o', ⟨rfl, rfl⟩, hσ⟩
          obtain rfl := Option.some.inj hσ
          clear hσ
          refine rn rfl ?_
          refine goal_guard rfl rfl rfl (fun h3 => ?_) (fun h3 => ?_) <;> (try simp only [gt_iff_lt, ge_iff_le, bne_iff_ne, ne_eq, bne_eq_false_iff_eq, beq_iff_eq, beq_eq_false_iff_ne, Bool.not_eq_true', Bool.not_eq_false', decide_eq_true_eq, decide_eq_false_iff_not, List.length_map] at h3)
          · have hip := hpi.1 h3
            refine rn rfl ?_
            refine goal_cond rfl (fun h4 => ?_) (fun h4 => ?_) <;> (try simp only [gt_iff_lt, ge_iff_le, bne_iff_ne, ne_eq, bne_eq_false_iff_eq, beq_iff_eq, beq_eq_false_iff_ne, Bool.not_eq_true', Bool.not_eq_false', decide_eq_true_eq, decide_eq_false_iff_not, List.length_map] at h4)
            · obtain ⟨n1, n2⟩ := next (.inr (.inr ⟨h3, by omega⟩))
              refine rn rfl ?_
              refine cut_ext ?_
              refine rn rfl ?_
              refine round_keep (s.length - (i + 1)) [27, 26, 25, 7, 6, 1] [0] (by omega) rfl ⟨_, _, _, i + 1, acc.length, acc, wrap64 (by omega) (by omega), rfl, rfl, by omega, rfl, rfl, n1.symm, n2, rfl⟩
            · refine rn rfl ?_
              exact cut_nrm [27, 26, 25, 9, 7, 6, 1] [0, 1] rfl ⟨⟨h1, h2, .inr (by omega)⟩, rfl⟩
          · refine rn rfl ?_
            exact cut_nrm [27, 26, 25, 9, 7, 6, 1] [0, 1] rfl ⟨⟨h1, h2, .inl h3⟩, rfl⟩
    rintro _ ⟨⟨g1, g2, g3⟩, rfl⟩
    refine rn rfl ?_
    refine goal_cond rfl (fun h5 => ?_) (fun h5 => ?_) <;> (try simp only [gt_iff_lt, ge_iff_le, bne_iff_ne, ne_eq, bne_eq_false_iff_eq, beq_iff_eq, beq_eq_false_iff_ne, Bool.not_eq_true', Bool.not_eq_false', decide_eq_true_eq, decide_eq_false_iff_not, List.length_map] at h5)
    · refine rn rfl (round_ret ?_)
      have hki : k ≤ i := by
        rcases g3 with g3 | g3
        · simp [placedQ, h5] at g3
        · exact g3
      have hno : (s.drop k).all (fun p => !bareQ p) = false := by
        cases hb : (s.drop k).all (fun p => !bareQ p) with
        | false => rfl
        | true =>
          have := takes_iff.1 hb i p hp hki
          simp [bareQ, h5, g2] at this
      rw [hno]
      exact fin_weak (Weak.adopt 4 0 1) (fin_is [2] rfl ⟨rfl, rfl⟩)
    · have hne := need_take g1 g2 g3 h5
      refine rn rfl ?_
      refine goal_did rfl rfl (dA_append (old := (acc).map eS) (rows := ([p.name] : List Str).map eS) (((acc) ++ ([p.name] : List Str)).map eS) (acc.length + 1) true (Dst.own rfl rfl rfl rfl rfl (by first | (simp; done) | (simp; omega)) (whole (by first | (simp; done) | (simp; omega)))) (Src.os rfl rfl (Nat.le_refl 1) rfl) rfl rfl rfl rfl rfl rfl rfl rfl (rows_len eS_len _) (rows_len eS_len _) (by (try simp only [List.length_map, List.length_append, List.length_cons, List.length_nil, List.length_take, List.length_drop]); show _ * 16 ≤ _; omega) (by first | (simp; done) | (simp; omega)) (by simp) (by first | (simp; done) | (simp; omega)) (fun _ => noOwnR_map _ eS_noOwn _)) ?_
      refine rn rfl ?_
      refine round_keep (s.length - (i + 1)) [27, 26, 25, 7, 6, 1] [3] (by omega) rfl ⟨_, _, _, i + 1, acc.length + 1, acc ++ [p.name], wrap64 (by omega) (by omega), rfl, rfl, by omega, rfl, by simp, by rw [hst, hne]; rfl, hallS (.inl (by simp [bareQ, h5])), rfl⟩
  · refine rn rfl (round_ext ?_)
    have hfin : acc = needNs s k := by rw [hacc, show i = s.length by omega, List.take_length]
    have hnd : (needNs s k).Nodup := hs.nodup.sublist (needNs_sub s k)
    have hyes : (s.drop k).all (fun p => !bareQ p) = true := takes_iff.2 (fun j p hp hj => hall j p hp hj (by have := lt_of_some hp; omega))
    rw [hyes, ← hfin]
    rw [← hfin] at hnd
    refine rn rfl ?_
    refine goal_step (step_call [0] rfl rfl rfl rfl rfl rfl (sortSmallS_ct acc acc.length (by omega))) ?_
    rintro σ2 ⟨r, o', ⟨rfl, rfl⟩, hσ⟩
    obtain rfl := Option.some.inj hσ
    clear hσ
    refine rn rfl ?_
    refine rn rfl ?_
    refine goal_step (step_callE [0] rfl rfl rfl rfl rfl rfl (congrArg (fun x => [T.one (.os 0 0 x acc.length)]) (isortL_length ltS acc).symm) (clipS_ct (isortL ltS acc) acc.length (by rw [isortL_length]; exact Nat.le_refl _))) ?_
    rintro σ2 ⟨r, o', ⟨rfl, rfl⟩, hσ⟩
    obtain rfl := Option.some.inj hσ
    clear hσ
    refine rn rfl ?_
    rw [sortS_eq acc hnd]
    exact rn rfl (fin_is [0] rfl ⟨rfl, rfl⟩)

def stepN (xs : List Str) (i : Nat) : Bool := match xs[i]? with
  | some n => okName n && (i == 0 || (match xs[i - 1]? with
    | some m => ltS m n
    | none => false))
  | none => true

def okNs (xs : List Str) : Bool := (List.range xs.length).all (stepN xs)

def okX (x : Shp) : Bool := okNs x.names && inR x.count 0 8 && decide (x.names.length ≤ 8)

def flatX (x : Shp) : Flat := ⟨List.replicate x.count.toNat 0, x.names.map mkN⟩

theorem okNs_all {xs : List Str} : okNs xs = true ↔ ∀ i, i < xs.length → stepN xs i = true := by
  simp [okNs, List.all_eq_true, List.mem_range]

theorem okNs_iff {xs : List Str} : okNs xs = true ↔ (∀ n ∈ xs, okName n = true) ∧ xs.Pairwise (fun a b => ltS a b = true) := by
  rw [okNs_all]
  constructor
  · intro h
    refine ⟨fun n hn => ?_, ?_⟩
    · obtain ⟨i, hi⟩ := List.getElem?_of_mem hn
      have := h i (lt_of_some hi)
      unfold stepN at this
      rw [hi] at this
      simp only [Bool.and_eq_true] at this
      exact this.1
    · rw [List.pairwise_iff_getElem]
      have key : ∀ (d i : Nat) (hi : i < xs.length) (hj : i + (d + 1) < xs.length), ltS xs[i] xs[i + (d + 1)] = true := by
        intro d
        induction d with
        | zero =>
          intro i hi hj
          have := h (i + 1) hj
          unfold stepN at this
          rw [List.getElem?_eq_getElem hj] at this
          simp only [Nat.add_sub_cancel, List.getElem?_eq_getElem hi, Bool.and_eq_true] at this
          simpa using this.2
        | succ d ih =>
          intro i hi hj
          have h1 := ih i hi (by omega)
          have := h (i + (d + 1) + 1) (by omega)
          unfold stepN at this
          rw [List.getElem?_eq_getElem (by omega)] at this
          simp only [Nat.add_sub_cancel, List.getElem?_eq_getElem (show i + (d + 1) < xs.length by omega), Bool.and_eq_true] at this
          have h2 := this.2
          simp only [Bool.or_eq_true, beq_iff_eq] at h2
          rcases h2 with h2 | h2
          · omega
          · exact ltS_trans h1 h2
      intro i j hi hj hij
      obtain ⟨d, rfl⟩ : ∃ d, j = i + (d + 1) := ⟨j - i - 1, by omega⟩
      exact key d i hi hj
  · rintro ⟨h1, h2⟩ i hi
    rw [List.pairwise_iff_getElem] at h2
    unfold stepN
    rw [List.getElem?_eq_getElem hi]
    simp only [Bool.and_eq_true]
    refine ⟨h1 _ (List.getElem_mem hi), ?_⟩
    cases i with
    | zero => rfl
    | succ i =>
      rw [Nat.add_sub_cancel, List.getElem?_eq_getElem (by omega)]
      simp only [Bool.or_eq_true]
      exact .inr (h2 i (i + 1) (by omega) hi (by omega))

theorem okNs_nodup {xs : List Str} (h : okNs xs = true) : xs.Nodup := by
  refine (okNs_iff.1 h).2.imp fun hab he => ?_
  rw [he, ltS_irrefl] at hab; cases hab

theorem flatX_names (x : Shp) : namesOf (flatX x).named = x.names := names_mk x.names

theorem flatX_places (x : Shp) : (flatX x).places.length = x.count.toNat := by simp [flatX]

theorem okX_flat {x : Shp} (h : okX x = true) : OkF (flatX x) := by
  simp only [okX, Bool.and_eq_true, decide_eq_true_eq] at h
  obtain ⟨⟨h1, h2⟩, h3⟩ := h
  have h4 := (okNs_iff.1 h1).1
  refine ⟨fun p hp => ?_, ?_, fun n hn => ?_, ?_, ?_⟩
  · obtain ⟨n, hn, rfl⟩ := List.mem_map.1 hp
    simp [okPair, mkN, h4 n hn, okVal, inR]
  · rw [flatX_names]; exact okNs_nodup h1
  · have := (List.mem_replicate.1 hn).2
    subst this
    simp [okVal, inR]
  · rw [flatX_places]; simp [inR] at h2; omega
  · simpa [flatX] using h3

theorem sortS_sorted {xs : List Str} (h : xs.Nodup) : (sortS xs).Pairwise (fun a b => ltS a b = true) := by
  have := sortL_sorted (xs := xs.map mkN) (by rw [names_mk]; exact h)
  rw [← sortS_map] at this
  unfold Sorted at this
  rw [List.pairwise_map] at this
  exact this

theorem OkS.okName {s : Sig} (h : OkS s) {p : Param} (hp : p ∈ s) : okName p.name = true := by
  have := h.params p hp
  simp only [okQ, Bool.and_eq_true] at this
  exact this.1.1.1.1

theorem needNs_nodup {s : Sig} (hs : OkS s) (n : Nat) : (needNs s n).Nodup := hs.nodup.sublist (needNs_sub s n)

theorem needs_okX {s : Sig} (hs : OkS s) {n : Nat} (hn : n ≤ 8) : okX ⟨n, sortS (needNs s n)⟩ = true := by
  have hl := needNs_len s n
  have hsl := hs.len
  simp only [okX, Bool.and_eq_true, decide_eq_true_eq]
  refine ⟨⟨okNs_iff.2 ⟨fun m hm => ?_, sortS_sorted (needNs_nodup hs n)⟩, by simp [inR]; omega⟩, by rw [sortS_length]; omega⟩
  obtain ⟨i, p, hp, _, _, rfl⟩ := need_mem.1 ((sortS_mem _ _).1 hm)
  exact hs.okName (List.mem_of_getElem? hp)

theorem bind_ok {s : Sig} {f : Flat} (hs : OkS s) (hf : OkF f) : (BindQ s f).2 = accQ s f := by
  unfold BindQ
  rw [fitQ_iff.2 ⟨hs, hf⟩]
  simp only [Bool.true_and]
  split
  · rename_i h; exact h.symm
  · rename_i h; simpa using h

/-- A shape is accepted. -/
def accX (s : Sig) (x : Shp) : Bool := okX x && (BindQ s (flatX x)).2

theorem accX_iff {s : Sig} {x : Shp} (hs : OkS s) (hx : okX x = true) : accX s x = true ↔
    takesC s x.count.toNat = true ∧ (∀ m ∈ needNs s x.count.toNat, m ∈ x.names) ∧ ∀ m ∈ x.names, allowQ s x.count.toNat m := by
  unfold accX
  rw [hx, Bool.true_and, bind_ok hs (okX_flat hx), acc_law hs (okX_flat hx), flatX_places, flatX_names]

theorem needs_acc {s : Sig} (hs : OkS s) {n : Nat} (hn : n ≤ 8) (ht : takesC s n = true) : accX s ⟨n, sortS (needNs s n)⟩ = true := by
  rw [accX_iff hs (needs_okX hs hn)]
  simp only [Int.toNat_natCast]
  exact ⟨ht, fun m hm => (sortS_mem _ _).2 hm, fun m hm => need_allow hs ((sortS_mem _ _).1 hm)⟩

theorem acc_okX {s : Sig} {x : Shp} (h : accX s x = true) : okX x = true := by
  unfold accX at h; simp only [Bool.and_eq_true] at h; exact h.1

def hd0 (xs : List Int) : Int := xs.headD 0

def stU (st : Flat × Bool) (px : Param × Slot) : Flat × Bool :=
  if px.1.kind = 2 then (⟨st.1.places ++ px.2.list, st.1.named⟩, st.2)
  else if px.1.kind = 4 then (⟨st.1.places, st.1.named ++ px.2.pairs⟩, st.2)
  else if px.2.given = false then (st.1, st.2 && !placedQ px.1)
  else if placedQ px.1 && st.2 then (⟨st.1.places ++ [hd0 px.2.list], st.1.named⟩, st.2)
  else (⟨st.1.places, st.1.named ++ [⟨px.1.name, hd0 px.2.list⟩]⟩, st.2)

def unbQ (s : Sig) (b : Bnds) : Flat := ((s.zip b).foldl stU (zF, true)).1

structure LenX (x : Shp) : Prop where
  len : x.names.length ≤ 1048576
  names : ∀ n ∈ x.names, n.length ≤ 9223372036854775807

theorem stepN_all {xs : List Str} {i : Nat} {n : Str} (hn : xs[i]? = some n) (hall : ∀ j, j < i → stepN xs j = true) (h : stepN xs i = true) : ∀ j, j < i + 1 → stepN xs j = true := fun j hj => by
  by_cases hji : j = i
  · subst hji; exact h
  · exact hall j (by omega)

theorem okX_no {x : Shp} {i : Nat} (hi : i < x.names.length) (h : stepN x.names i = false) : okX x = false := by
  have : okNs x.names = false := by
    cases ho : okNs x.names with
    | false => rfl
    | true => rw [okNs_all.1 ho i hi] at h; cases h
  simp [okX, this]

theorem ivalidShape_ct (x : Shp) (hx : LenX x) : ACalls pk 94 [.agg (eX x)] [] (fun r o => r = .one (.bool (okX x)) ∧ o = []) := by
  have hl := hx.len
  refine acalls_of_body Tryz.func94 rfl (by kernel_rfl) rfl ?_
  refine rn rfl ?_
  refine goal_loop_keep (fun m σ => ∃ (q L : Int) (i : Nat), q = i ∧ L = x.names.length ∧ i ≤ x.names.length ∧ m = x.names.length - i ∧ (∀ j, j < i → stepN x.names j = true) ∧
      σ = ⟨[(8, .one (.int .i64 q)), (7, .one (.int .i64 L)), (6, .one (.fs (x.names.map eS))), (1, .one (.op 0 0 0))], [some ⟨2, [eX x], false, false, true⟩], []⟩) x.names.length [8, 7, 6, 1] [0] rfl
    ⟨_, _, 0, rfl, by simp, by omega, by omega, fun j hj => by omega, rfl⟩ ?_
  rintro m σ ⟨q, L, i, rfl, rfl, hi, rfl, hall, rfl⟩
  refine rn rfl ?_
  refine goal_cond rfl (fun h => ?_) (fun h => ?_) <;> (try simp only [gt_iff_lt, ge_iff_le, bne_iff_ne, ne_eq, bne_eq_false_iff_eq, beq_iff_eq, beq_eq_false_iff_ne, Bool.not_eq_true', Bool.not_eq_false', decide_eq_true_eq, decide_eq_false_iff_not, List.length_map] at h)
  · obtain ⟨n, hn⟩ := at_some (xs := x.names) (i := i) (by omega)
    refine rn rfl ?_
    refine goal_did rfl rfl (dA_index (eS n) rfl rfl rfl rfl rfl rfl rfl (by omega) (by (try simp); omega) (map_at (by simpa using hn)) rfl) ?_
    refine rn rfl ?_
    refine goal_step (step_call [] rfl rfl rfl rfl rfl rfl (isName_ct n (hx.names n (List.mem_of_getElem? hn)))) ?_
    rintro σ2 ⟨r, o', ⟨rfl, rfl⟩, hσ⟩
    obtain rfl := Option.some.inj hσ
    clear hσ
    refine rn rfl ?_
    refine goal_guard rfl rfl rfl (fun h1 => ?_) (fun h1 => ?_) <;> (try simp only [gt_iff_lt, ge_iff_le, bne_iff_ne, ne_eq, bne_eq_false_iff_eq, beq_iff_eq, beq_eq_false_iff_ne, Bool.not_eq_true', Bool.not_eq_false', decide_eq_true_eq, decide_eq_false_iff_not, List.length_map] at h1)
    · refine rn rfl (round_ret (fin_is [] rfl ⟨?_, rfl⟩))
      rw [okX_no (lt_of_some hn)]
      simp [stepN, hn, h1]
    · refine rn rfl ?_
      refine goal_guard rfl rfl rfl (fun h2 => ?_) (fun h2 => ?_) <;> (try simp only [gt_iff_lt, ge_iff_le, bne_iff_ne, ne_eq, bne_eq_false_iff_eq, beq_iff_eq, beq_eq_false_iff_ne, Bool.not_eq_true', Bool.not_eq_false', decide_eq_true_eq, decide_eq_false_iff_not, List.length_map] at h2)
      · obtain ⟨k, rfl⟩ : ∃ k, i = k + 1 := ⟨i - 1, by omega⟩
        obtain ⟨l, hl'⟩ := at_some (xs := x.names) (i := k) (by omega)
        have hw : IntKind.i64.wrap (((k + 1 : Nat) : Int) - 1) = (k : Int) := by rw [wrap64 (by omega) (by omega)]; omega
        refine rn rfl ?_
        rw [hw]
        refine goal_did rfl rfl (dA_index (eS l) rfl rfl rfl rfl rfl rfl rfl (by omega) (by (try simp); omega) (map_at (by simpa using hl')) rfl) ?_
        refine rn rfl ?_
        refine goal_cond rfl (fun h3 => ?_) (fun h3 => ?_)
        · refine rn rfl (round_ret (fin_is [] rfl ⟨?_, rfl⟩))
          have h3' : ltS l n = false := by simpa [ltS] using h3
          rw [okX_no (lt_of_some hn)]
          simp [stepN, hn, hl', h3']
        · have h3' : ltS l n = true := by simpa [ltS] using h3
          refine rn rfl ?_
          refine round_keep (x.names.length - (k + 1 + 1)) [8, 7, 6, 1] [0] (by omega) rfl ⟨_, _, k + 1 + 1, wrap64 (by omega) (by omega), rfl, by omega, rfl, stepN_all hn hall (by simp [stepN, hn, hl', h1, h3']), rfl⟩
      · refine rn rfl ?_
        refine round_keep (x.names.length - (i + 1)) [8, 7, 6, 1] [0] (by omega) rfl ⟨_, _, i + 1, wrap64 (by omega) (by omega), rfl, by omega, rfl, stepN_all hn hall ?_, rfl⟩
        have : i = 0 := by omega
        subst this
        simp [stepN, hn, h1]
  · refine rn rfl (round_ext ?_)
    have hok : okNs x.names = true := okNs_all.2 fun j hj => hall j (by omega)
    refine rn rfl ?_
    refine goal_step (step_call [] rfl rfl rfl rfl rfl rfl (iin_ct x.count 0 8)) ?_
    rintro σ2 ⟨r, o', ⟨rfl, rfl⟩, hσ⟩
    obtain rfl := Option.some.inj hσ
    clear hσ
    refine rn rfl ?_
    refine goal_guard rfl rfl rfl (fun h1 => ?_) (fun h1 => ?_) <;> (try simp only [gt_iff_lt, ge_iff_le, bne_iff_ne, ne_eq, bne_eq_false_iff_eq, beq_iff_eq, beq_eq_false_iff_ne, Bool.not_eq_true', Bool.not_eq_false', decide_eq_true_eq, decide_eq_false_iff_not, List.length_map] at h1)
    · refine rn rfl (fin_is [] rfl ⟨?_, rfl⟩)
      simp [okX, hok, h1]; omega
    · refine rn rfl (fin_is [] rfl ⟨?_, rfl⟩)
      simp [okX, hok, h1]

def flatXF (x : Shp) : Flat := if okX x then flatX x else zF

theorem iflatOf_ct (x : Shp) (hx : LenX x) : ACalls pk 95 [.agg (eX x)] [] (fun r o => r = .agg (eF (flatXF x)) ∧ o = []) := by
  refine acalls_of_body Tryz.func95 rfl (by kernel_rfl) rfl ?_
  refine rn rfl ?_
  refine goal_step (step_call [] rfl rfl rfl rfl rfl rfl (ivalidShape_ct x hx)) ?_
  rintro σ2 ⟨r, o', ⟨rfl, rfl⟩, hσ⟩
  obtain rfl := Option.some.inj hσ
  clear hσ
  refine rn rfl ?_
  refine goal_cond rfl (fun h => ?_) (fun h => ?_) <;> (try simp only [gt_iff_lt, ge_iff_le, bne_iff_ne, ne_eq, bne_eq_false_iff_eq, beq_iff_eq, beq_eq_false_iff_ne, Bool.not_eq_true', Bool.not_eq_false', decide_eq_true_eq, decide_eq_false_iff_not, List.length_map] at h)
  · refine rn rfl (fin_is [] rfl ⟨?_, rfl⟩)
    simp [flatXF, h]; rfl
  have hc := h
  simp only [okX, Bool.and_eq_true, decide_eq_true_eq, inR] at hc
  obtain ⟨n, hn⟩ : ∃ n : Nat, x.count = n := ⟨x.count.toNat, by omega⟩
  have hl := hc.2
  have hF : flatXF x = ⟨List.replicate n 0, x.names.map mkN⟩ := by simp [flatXF, h, flatX, hn]
  rw [hF]
  obtain ⟨c, names⟩ := x
  simp only at hn hl hc
  subst hn
  refine rn rfl ?_
  refine goal_did rfl rfl (dA_make n ((List.replicate n (0 : Int)).map eI) rfl rfl rfl (by simp) (by simp) rfl rfl rfl rfl rfl (by show 8 * n ≤ _; omega) (by omega) (by rw [← rep_map]; rfl)) ?_
  refine rn rfl ?_
  refine goal_weakCod (Weak.adoptO 3 1 2) ?_
  refine goal_loop_keep (fun m σ => ∃ (q L : Int) (i l : Nat) (acc : List Pair), q = i ∧ L = names.length ∧ i ≤ names.length ∧ m = names.length - i ∧ l = acc.length ∧ acc = (names.take i).map mkN ∧
      σ = ⟨[(17, .one (.int .i64 q)), (16, .one (.int .i64 L)), (15, .one (.fs (names.map eS))), (3, .one (.op 2 0 0)), (2, .one (.op 0 0 0))],
        [some ⟨2, [[.fs [], .fs []]], false, false, true⟩, ownI (List.replicate n 0), some ⟨2, [[.os 1 0 n n, .os 3 0 l l]], false, false, true⟩, ownP acc], []⟩) names.length [17, 16, 15, 3, 2] [1, 2, 3, 4] rfl
    ⟨_, _, 0, 0, [], rfl, by simp, by omega, by omega, rfl, rfl, rfl⟩ ?_
  rintro m σ ⟨q, L, i, l, acc, rfl, rfl, hi, rfl, rfl, hacc, rfl⟩
  refine rn rfl ?_
  refine goal_cond rfl (fun h2 => ?_) (fun h2 => ?_) <;> (try simp only [gt_iff_lt, ge_iff_le, bne_iff_ne, ne_eq, bne_eq_false_iff_eq, beq_iff_eq, beq_eq_false_iff_ne, Bool.not_eq_true', Bool.not_eq_false', decide_eq_true_eq, decide_eq_false_iff_not, List.length_map] at h2)
  · obtain ⟨nm, hnm⟩ := at_some (xs := names) (i := i) (by omega)
    have hlen : acc.length = i := by rw [hacc]; simp; omega
    refine rn rfl ?_
    refine goal_did rfl rfl (dA_index (eS nm) rfl rfl rfl rfl rfl rfl rfl (by omega) (by (try simp); omega) (map_at (by simpa using hnm)) rfl) ?_
    refine rn rfl ?_
    refine goal_did rfl rfl (dA_append (old := (acc).map eP) (rows := ([mkN nm] : List Pair).map eP) (((acc) ++ ([mkN nm] : List Pair)).map eP) (acc.length + 1) true (Dst.own rfl rfl rfl rfl rfl (by first | (simp; done) | (simp; omega)) (whole (by first | (simp; done) | (simp; omega)))) (Src.os rfl rfl (Nat.le_refl 1) rfl) rfl rfl rfl rfl rfl rfl rfl rfl (rows_len eP_len _) (rows_len eP_len _) (by (try simp only [List.length_map, List.length_append, List.length_cons, List.length_nil, List.length_take, List.length_drop]); show _ * 24 ≤ _; omega) (by first | (simp; done) | (simp; omega)) (by simp) (by first | (simp; done) | (simp; omega)) (fun _ => noOwnR_map _ eP_noOwn _)) ?_
    refine rn rfl ?_
    refine round_keep (names.length - (i + 1)) [17, 16, 15, 3, 2] [0, 1, 2, 5] (by omega) rfl ⟨_, _, i + 1, acc.length + 1, acc ++ [mkN nm], wrap64 (by omega) (by omega), rfl, by omega, rfl, by simp, by rw [hacc, ← take_snoc hnm]; simp, rfl⟩
  · refine rn rfl (round_ext ?_)
    have hfin : acc = names.map mkN := by rw [hacc, List.take_of_length_le (by omega)]
    rw [← hfin]
    refine rn rfl ?_
    have hA : T.agg [.fs (List.take n (List.drop 0 ((List.replicate n (0 : Int)).map eI))), .fs (List.take acc.length (List.drop 0 (acc.map eP)))] = T.agg (eF ⟨List.replicate n 0, acc⟩) := by rw [takeAll eI _ _ (by simp), takeAll eP _ _ rfl]; rfl
    refine goal_step (step_callE [] rfl rfl rfl rfl rfl rfl (cons_eq hA rfl) (copyOf_ct ⟨List.replicate n 0, acc⟩ (by simp; omega) (by simp [hfin]; omega))) ?_
    rintro σ2 ⟨r, o', ⟨rfl, rfl⟩, hσ⟩
    obtain rfl := Option.some.inj hσ
    clear hσ
    refine rn rfl ?_
    refine rn rfl (fin_is [] rfl ⟨?_, rfl⟩)
    exact asFl _

section

variable {X : Pk} {N np : Nat} {K : KP} {σ : State}

end

theorem SmallS.lens {s : Sig} (h : SmallS s) : LenS s := ⟨by have := h.len; omega, fun p hp => by have := h.names p hp; omega⟩

theorem flatXF_len {x : Shp} (hx : LenX x) : LenF (flatXF x) := by
  unfold flatXF
  split
  · rename_i h
    have := okX_flat h
    exact ⟨by have := this.places; omega, by have := this.named; omega, fun p hp => by
      obtain ⟨n, hn, rfl⟩ := List.mem_map.1 hp
      exact hx.names n hn⟩
  · exact ⟨by simp [zF], by simp [zF], by simp [zF]⟩

theorem iacceptsShape_ct (s : Sig) (x : Shp) (hl : LenS s) (hx : LenX x) : ACalls pk 75 [.agg (eG s), .agg (eX x)] [] (fun r o => r = .one (.bool (accX s x)) ∧ o = []) := by
  have lf := flatXF_len hx
  have hfx : okX x = true → flatXF x = flatX x := fun h => by simp [flatXF, h]
  refine acalls_of_body Tryz.func75 rfl (by kernel_rfl) rfl ?_
  refine rn rfl ?_
  refine goal_draw' [0, 1] 9 rfl ?_
  refine drn [0] (by kernel_rfl) (by kernel_rfl) rfl rfl ?_
  refine AH_one (i := 1) (by kernel_rfl) (step_call [] rfl rfl rfl rfl rfl rfl (ivalidShape_ct x hx)) (by simp) ?_
  rintro σ2 ⟨r, o', ⟨rfl, rfl⟩, hσ⟩
  obtain rfl := Option.some.inj hσ
  clear hσ
  refine drn [2] (by kernel_rfl) (by kernel_rfl) rfl rfl ?_
  refine AH_guard (i := 3) rfl rfl rfl (fun h1 => ?_) (fun h1 => ?_) <;> (try simp only [gt_iff_lt, ge_iff_le, bne_iff_ne, ne_eq, bne_eq_false_iff_eq, beq_iff_eq, beq_eq_false_iff_ne, Bool.not_eq_true', Bool.not_eq_false', decide_eq_true_eq, decide_eq_false_iff_not, List.length_map] at h1)
  · refine drn [3, 4] (by kernel_rfl) (by kernel_rfl) rfl rfl ?_
    refine AH_one (i := 5) (by kernel_rfl) (step_call [] rfl rfl rfl rfl rfl rfl (iflatOf_ct x hx)) (by simp) ?_
    rintro σ2 ⟨r, o', ⟨rfl, rfl⟩, hσ⟩
    obtain rfl := Option.some.inj hσ
    clear hσ
    refine AH_one (i := 6) (by kernel_rfl) (step_call [] rfl rfl rfl rfl rfl rfl (iaccepts_ct s (flatXF x) hl lf)) (by simp) ?_
    rintro σ2 ⟨r, o', ⟨rfl, rfl⟩, hσ⟩
    obtain rfl := Option.some.inj hσ
    clear hσ
    refine drn [7, 8] (by kernel_rfl) (by kernel_rfl) rfl rfl ?_
    refine AH_end (by kernel_rfl) ?_
    refine rn rfl ?_
    refine rn rfl (fin_is [] rfl ⟨?_, rfl⟩)
    rw [hfx h1]; simp [accX, h1]
  · refine drn [3, 4, 5, 6, 7, 8] (by kernel_rfl) (by kernel_rfl) rfl rfl ?_
    refine AH_end (by kernel_rfl) ?_
    refine rn rfl ?_
    refine rn rfl (fin_is [] rfl ⟨?_, rfl⟩)
    simp [accX, h1]

theorem needs_lenX {s : Sig} (hs : OkS s) (n : Nat) (c : Int) : LenX ⟨c, sortS (needNs s n)⟩ := by
  have h2 := needNs_len s n
  have := hs.len
  refine ⟨by simp only [sortS_length]; omega, fun m hm => ?_⟩
  obtain ⟨i, p, hp, _, _, rfl⟩ := need_mem.1 ((sortS_mem _ _).1 hm)
  have := hs.nameLen (List.mem_of_getElem? hp)
  omega

def cmpT : Str → List Str → List Str
  | _, [] => []
  | a, b :: l => if b = a then cmpT a l else b :: cmpT b l

def compS : List Str → List Str
  | [] => []
  | a :: l => a :: cmpT a l

def WS (xs : List Str) : Prop := xs.Pairwise (fun a b => ltS b a = false)

def SS (xs : List Str) : Prop := xs.Pairwise (fun a b => ltS a b = true)

theorem cmpT_snoc : ∀ (l : List Str) (a b c : Str), (a :: l).getLast? = some c → cmpT a (l ++ [b]) = cmpT a l ++ (if b = c then [] else [b])
  | [], a, b, c, h => by
    simp at h; subst h
    simp [cmpT]
  | x :: l, a, b, c, h => by
    rw [List.getLast?_cons_cons] at h
    rw [List.cons_append]
    unfold cmpT
    by_cases hx : x = a
    · subst hx
      rw [if_pos rfl, if_pos rfl, cmpT_snoc l x b c h]
    · rw [if_neg hx, if_neg hx, cmpT_snoc l x b c h]; rfl

theorem compS_succ {xs : List Str} {n : Nat} {b c : Str} (hb : xs[n + 1]? = some b) (hc : xs[n]? = some c) : compS (xs.take (n + 1 + 1)) = compS (xs.take (n + 1)) ++ (if b = c then [] else [b]) := by
  rw [← take_snoc hb]
  have hlast : (xs.take (n + 1)).getLast? = some c := by rw [← take_snoc hc]; simp
  cases hz : xs.take (n + 1) with
  | nil => rw [hz] at hlast; simp at hlast
  | cons a l =>
    rw [hz] at hlast
    show a :: cmpT a (l ++ [b]) = a :: cmpT a l ++ _
    rw [cmpT_snoc l a b c hlast]; rfl

theorem compS_one {xs : List Str} (h : 1 ≤ xs.length) : compS (xs.take 1) = xs.take 1 := by
  cases xs with
  | nil => simp at h
  | cons a l => simp [compS, cmpT]

theorem cmpT_mem (x : Str) : ∀ (l : List Str) (a : Str), (x ∈ cmpT a l ∨ x = a) ↔ (x ∈ l ∨ x = a)
  | [], a => by simp [cmpT]
  | b :: l, a => by
    unfold cmpT
    by_cases hb : b = a
    · subst hb
      rw [if_pos rfl, cmpT_mem x l b]
      simp only [List.mem_cons]
      constructor
      · rintro (h | h)
        · exact .inl (.inr h)
        · exact .inr h
      · rintro ((h | h) | h)
        · exact .inr h
        · exact .inl h
        · exact .inr h
    · rw [if_neg hb]
      have ih := cmpT_mem x l b
      simp only [List.mem_cons]
      constructor
      · rintro ((h | h) | h)
        · exact .inl (.inl h)
        · rcases ih.1 (.inl h) with h1 | h1
          · exact .inl (.inr h1)
          · exact .inl (.inl h1)
        · exact .inr h
      · rintro ((h | h) | h)
        · exact .inl (.inl h)
        · rcases ih.2 (.inl h) with h1 | h1
          · exact .inl (.inr h1)
          · exact .inl (.inl h1)
        · exact .inr h

theorem compS_mem (x : Str) (xs : List Str) : x ∈ compS xs ↔ x ∈ xs := by
  cases xs with
  | nil => rfl
  | cons a l =>
    have := cmpT_mem x l a
    simp only [compS, List.mem_cons]
    rw [or_comm, this, or_comm]

theorem compS_length (xs : List Str) : (compS xs).length ≤ xs.length := by
  have key : ∀ (l : List Str) (a : Str), (cmpT a l).length ≤ l.length := by
    intro l
    induction l with
    | nil => intro a; simp [cmpT]
    | cons b l ih =>
      intro a
      unfold cmpT
      split
      · have := ih a; simp only [List.length_cons]; omega
      · have := ih b; simp only [List.length_cons]; omega
  cases xs with
  | nil => simp [compS]
  | cons a l => have := key l a; simp only [compS, List.length_cons]; omega

theorem sinkR_perm (p : Str) : ∀ (ra acc : List Str), (sinkR ltS p ra acc).Perm (p :: (ra.reverse ++ acc))
  | [], acc => by simp [sinkR]
  | x :: ra, acc => by
    unfold sinkR
    split
    · refine (sinkR_perm p ra (x :: acc)).trans ?_
      simp
    · exact List.perm_middle

theorem sinkR_ws (p : Str) : ∀ (ra acc : List Str), WS (ra.reverse ++ acc) → (∀ y ∈ acc, ltS p y = true) → WS (sinkR ltS p ra acc)
  | [], acc, h, ha => by
    simp only [sinkR]
    refine List.pairwise_cons.2 ⟨fun y hy => ltS_asymm (ha y hy), by simpa [WS] using h⟩
  | x :: ra, acc, h, ha => by
    unfold sinkR
    split
    · rename_i hx
      refine sinkR_ws p ra (x :: acc) (by simpa using h) fun y hy => ?_
      rcases List.mem_cons.1 hy with rfl | hy
      · exact hx
      · exact ha y hy
    · rename_i hx
      have hx' : ltS p x = false := by simpa using hx
      have h0 := h
      unfold WS at h
      rw [List.pairwise_append] at h
      obtain ⟨hl, hr, hlr⟩ := h
      unfold WS
      rw [List.pairwise_append]
      refine ⟨hl, List.pairwise_cons.2 ⟨fun y hy => ltS_asymm (ha y hy), hr⟩, fun a hal b hb => ?_⟩
      rcases List.mem_cons.1 hb with rfl | hb
      · cases hpa : ltS b a with
        | false => rfl
        | true =>
          exfalso
          rw [List.reverse_cons, List.mem_append] at hal
          rcases hal with hal | hal
          · rw [List.reverse_cons, List.pairwise_append] at hl
            have hxa := hl.2.2 a hal x (by simp)
            by_cases hax : x = a
            · rw [hax, hpa] at hx'; cases hx'
            · have := ltS_total hax hxa
              rw [ltS_trans hpa this] at hx'; cases hx'
          · simp at hal; rw [hal, hx'] at hpa; cases hpa
      · exact hlr a hal b hb

theorem isortS_ws (xs : List Str) : WS (isortL ltS xs) ∧ (isortL ltS xs).Perm xs := by
  have key : ∀ (xs S : List Str), WS S → WS (xs.foldl (fun S x => insR ltS x S) S) ∧ (xs.foldl (fun S x => insR ltS x S) S).Perm (xs ++ S) := by
    intro xs
    induction xs with
    | nil => intro S h; exact ⟨h, List.Perm.refl _⟩
    | cons x xs ih =>
      intro S h
      have h1 : WS (insR ltS x S) := sinkR_ws x S.reverse [] (by simpa using h) (by simp)
      have h2 : (insR ltS x S).Perm (x :: S) := by simpa [insR] using sinkR_perm x S.reverse []
      obtain ⟨h3, h4⟩ := ih _ h1
      refine ⟨h3, h4.trans ?_⟩
      exact (List.Perm.append_left xs h2).trans (by simp [List.perm_middle])
  have := key xs [] List.Pairwise.nil
  rw [List.append_nil] at this
  exact this

theorem SS.nodup {xs : List Str} (h : SS xs) : xs.Nodup := List.Pairwise.imp (fun hab he => by rw [he, ltS_irrefl] at hab; cases hab) h

theorem SS.ext {a b : List Str} (ha : SS a) (hb : SS b) (h : ∀ x, x ∈ a ↔ x ∈ b) : a = b := by
  refine List.Perm.eq_of_pairwise (le := fun x y => ltS x y = true) ?_ ha hb ((List.perm_ext_iff_of_nodup ha.nodup hb.nodup).2 h)
  intro x y _ _ h1 h2
  rw [ltS_asymm h1] at h2; cases h2

/-- Names once, ascending. -/
def uniqS (xs : List Str) : List Str := compS (isortL ltS xs)

theorem uniqS_mem (x : Str) (xs : List Str) : x ∈ uniqS xs ↔ x ∈ xs := by
  unfold uniqS
  rw [compS_mem, (isortS_ws xs).2.mem_iff]

theorem uniqS_length (xs : List Str) : (uniqS xs).length ≤ xs.length := by
  have := compS_length (isortL ltS xs)
  rw [isortL_length] at this
  exact this

theorem ltS_lt : ∀ a b : Str, ltS a b = true ↔ a < b
  | a, [] => by rw [ltS_nil]; simp
  | [], b :: l => by
    constructor
    · intro _; exact List.nil_lt_cons b l
    · intro _; rfl
  | x :: a, y :: b => by
    rw [ltS_cons, List.cons_lt_cons_iff, ltS_lt a b]
    constructor
    · rintro (h | h)
      · exact .inl (UInt8.lt_iff_toNat_lt.2 h)
      · exact .inr h
    · rintro (h | h)
      · exact .inl (UInt8.lt_iff_toNat_lt.1 h)
      · exact .inr h

theorem mergeS (xs : List Str) : (xs.mergeSort fun x y => decide (x ≤ y)) = isortL ltS xs := by
  have hp := List.pairwise_mergeSort (le := fun x y : Str => decide (x ≤ y))
    (by intro a b c h1 h2; simp only [decide_eq_true_eq] at *; exact List.le_trans h1 h2)
    (by intro a b; simp only [Bool.or_eq_true, decide_eq_true_eq]; exact List.le_total a b) xs
  refine List.Perm.eq_of_pairwise (le := fun x y : Str => ltS y x = false) ?_ ?_ (isortS_ws xs).1 ((List.mergeSort_perm xs _).trans (isortS_ws xs).2.symm)
  · intro x y _ _ h1 h2
    by_cases he : x = y
    · exact he
    · rw [ltS_total he h2] at h1; cases h1
  · refine hp.imp fun {x y} h => ?_
    cases hb : ltS y x with
    | false => rfl
    | true =>
      rw [ltS_lt] at hb
      exact absurd hb (by simpa [List.not_lt] using h)

theorem CRr_strs {D : Nat → Prop} {h : Array Obj} {e : List ALoc} : ∀ (xs : List Str) (vs : List Value), CRr D h e 1 (xs.map eS) vs → ∀ j, j < xs.length → vs[j]? = some (encStr xs[j]!)
  | [], vs, _, j, hj => by simp at hj
  | x :: xs, vs, H, j, hj => by
    simp only [List.map_cons, CRr] at H
    obtain ⟨_, h1, h2⟩ := H
    cases vs with
    | nil => simp [eS, CRp] at h1
    | cons v vs =>
      simp only [eS, CRp, CR] at h1
      cases j with
      | zero => simp [h1.1]
      | succ j => simpa using CRr_strs xs vs (by simpa using h2) j (by simpa using hj)

theorem strs_CRr {D : Nat → Prop} {h : Array Obj} {e : List ALoc} : ∀ (xs : List Str) (vs : List Value), (∀ j, j < xs.length → vs[j]? = some (encStr xs[j]!)) → CRr D h e 1 (xs.map eS) vs
  | [], vs, _ => by simp [CRr]
  | x :: xs, vs, H => by
    have h0 := H 0 (by simp)
    cases vs with
    | nil => simp at h0
    | cons v vs =>
      simp only [List.map_cons, CRr]
      refine ⟨rfl, ?_, ?_⟩
      · simp only [eS, CRp, CR]
        exact ⟨by simpa using h0, trivial⟩
      · exact strs_CRr xs _ fun j hj => by simpa using H (j + 1) (by simpa using hj)

theorem putCells_at (cells : Array Value) (off : Nat) (d : Array Str) (j : Nat) (hj : j < d.size) (hc : off + j < cells.size) : (Go.Sort.putCells encStr off d cells)[off + j]? = some (encStr d[j]!) := by
  simp only [Go.Sort.putCells, Array.getElem?_mapIdx, Array.getElem?_eq_getElem hc, Option.map_some]
  rw [if_pos ⟨by omega, by omega⟩, show off + j - off = j by omega]

theorem sortAll_ct (xs : List Str) (kc : Nat) (hl : xs.length ≤ 1048576) :
    ACalls pk 93 [.one (.os 0 0 xs.length kc)] [ownS xs] (fun r o => r = .tup [] ∧ o = [ownS (isortL ltS xs)]) := by
  by_cases hs : xs.length ≤ 12
  · exact sortSmallS_ct xs kc hs
  refine ⟨⟨_, Tryz.func93, rfl, by kernel_rfl⟩, fun D e w vals hS hT hb => ?_⟩
  simp only [TRs] at hT
  obtain ⟨x, r, rfl, hx, rfl⟩ := hT
  obtain ⟨a, cap, n, he, hob⟩ := hS.objs 0 _ rfl
  simp only [TR, CR] at hx
  rw [he] at hx
  obtain ⟨A, c, rfl, hlk, hkc, hn, hA⟩ := hx
  obtain ⟨hnl, hcl, hob⟩ := hob
  rcases hA with rfl | ⟨b, rfl, rfl, hcap⟩
  · omega
  obtain ⟨hsp, hfz, cells, t, hcells, hncap, hsz, hrow⟩ := hob
  have hlen : xs.length = n := by rw [hnl]; simp
  have hcell := CRr_strs xs _ hrow
  have hbl : b.block < w.heap.size := (Array.getElem?_eq_some_iff.1 hcells).1
  have hszc : b.off + cap ≤ cells.size := by simpa using hsz
  have hat : ∀ j, j < xs.length → cells[b.off + j]? = some (encStr xs[j]!) := fun j hj => by
    have := hcell j hj
    rw [List.getElem?_drop, Array.getElem?_toList] at this
    exact this
  have hH : Go.Sort.Holds encStr w b.block b.off xs.toArray := fun j hj => by
    have hj' : j < xs.length := by simpa using hj
    refine ⟨?_, by simp [World.frozen?, hcells]⟩
    simp only [World.cell?, hcells, Option.isSome_none, Bool.false_eq_true, if_false]
    rw [hat j hj']
    simp
  have key := Go.Proofs.Any.slices_Sort_string lays_n190 b.block b.off c xs w hH hbl (by omega)
  rw [mergeS] at key
  have hoff : b.off + 0 * 1 = b.off := by omega
  rw [hoff]
  refine key.mono fun en w' => ?_
  rintro ⟨rfl, nq, os, rfl⟩
  have hil : (isortL ltS xs).length = xs.length := isortL_length _ _
  have hheap : (Go.Sort.grow (Go.Sort.putRow encStr (Go.Sort.ahead w nq) b.block b.off (isortL ltS xs).toArray) os).heap[b.block]? = some (.cells (Go.Sort.putCells encStr b.off (isortL ltS xs).toArray cells) t (0, 0)) := by
    rw [Go.Sort.heap_grow_old _ _ (by simpa using hbl)]
    simp [Go.Sort.putRow, Go.Sort.mapBlock, Go.Sort.ahead, Array.getElem?_modify, hcells, Go.Sort.onCells]
  have hother : ∀ k, k < w.heap.size → k ≠ b.block → (Go.Sort.grow (Go.Sort.putRow encStr (Go.Sort.ahead w nq) b.block b.off (isortL ltS xs).toArray) os).heap[k]? = w.heap[k]? := fun k hk hne => by
    rw [Go.Sort.heap_grow_old _ _ (by simpa using hk)]
    have : b.block ≠ k := fun e => hne e.symm
    simp [Go.Sort.putRow, Go.Sort.mapBlock, Go.Sort.ahead, Array.getElem?_modify, this]
  have hsize : w.heap.size ≤ (Go.Sort.grow (Go.Sort.putRow encStr (Go.Sort.ahead w nq) b.block b.off (isortL ltS xs).toArray) os).heap.size := by
    simp [Go.Sort.grow, Go.Sort.putRow, Go.Sort.mapBlock, Go.Sort.ahead]
  refine ⟨.tuple #[], .tup [], [ownS (isortL ltS xs)], D, e, rfl, ⟨rfl, rfl⟩, ?_, ?_, ?_, ?_, fun _ h _ => h, fun _ _ => rfl, ?_⟩
  · simp [TR, TRs]
  · have hel : e.length = 1 := by rw [hS.len]; rfl
    refine ⟨by rw [hel]; rfl, ?_, ?_, ?_, fun k hk => Nat.lt_of_lt_of_le (hS.dom k hk) hsize⟩
    · intro id ob hid
      cases id with
      | succ id => simp at hid
      | zero =>
        have : ob = ⟨1, (isortL ltS xs).map eS, true, false, false⟩ := by
          simp only [List.getElem?_cons_zero, ownS, Option.some.injEq] at hid
          exact hid.symm
        subst this
        refine ⟨_, _, _, he, by simp [hil, hlen], fun _ => noOwnR_map _ eS_noOwn _, hsp, fun h => by simp at h, _, t, hheap, hncap, ?_, ?_⟩
        · simpa [Go.Sort.putCells] using hsz
        · refine strs_CRr _ _ fun j hj => ?_
          rw [List.getElem?_drop, Array.getElem?_toList, putCells_at _ _ _ _ (by simpa using hj) (by omega)]
          simp
    · intro id b' esz' cap' n' hid
      have hid0 : id = 0 := by
        have := (List.getElem?_eq_some_iff.1 hid).1
        omega
      subst hid0
      rw [he] at hid
      simp only [Option.some.injEq, ALoc.live.injEq] at hid
      obtain ⟨rfl, rfl, rfl, rfl⟩ := hid
      exact ⟨Nat.lt_of_lt_of_le hbl hsize, fun hD => absurd hD (hb 0 _ _ _ _ he)⟩
    · intro id id' b1 b2 _ _ _ _ _ _ h1 h2 _
      have := (List.getElem?_eq_some_iff.1 h1).1
      have := (List.getElem?_eq_some_iff.1 h2).1
      omega
  · refine ⟨rfl, rfl, rfl, hsize, fun k hk hW => hother k hk fun hkb => hW ⟨0, b, _, _, _, he, hkb.symm⟩⟩
  · intro id b' esz' cap' n' hid
    exact .inl ⟨id, b', _, _, _, hid, rfl⟩
  · rw [hS.len]; simp

theorem growS_ct (n : Nat) (hn : n ≤ 4194304) : ACalls pk 122 [.one nilSl, .one (.int .i64 n)] [] (fun r o => ∃ rows kc, r = .one (.os 0 0 0 kc) ∧ o = [some ⟨1, rows, true, false, false⟩] ∧ (n = 0 → rows = [] ∧ kc = 0)) := by
  have hw : IntKind.i64.wrap ((n : Int) - IntKind.i64.wrap (0 - 0)) = n := by rw [show IntKind.i64.wrap (0 - 0) = 0 from rfl, wrap64] <;> omega
  refine acalls_of_body Tryz.func122 rfl (by kernel_rfl) rfl ?_
  refine rn rfl ?_
  refine goal_cond rfl (fun h => ?_) (fun h => ?_) <;> (try simp only [gt_iff_lt, ge_iff_le, bne_iff_ne, ne_eq, bne_eq_false_iff_eq, beq_iff_eq, beq_eq_false_iff_ne, Bool.not_eq_true', Bool.not_eq_false', decide_eq_true_eq, decide_eq_false_iff_not, List.length_map] at h)
  · omega
  · refine rn rfl ?_
    refine goal_did rfl rfl (dA_capNil rfl rfl rfl rfl rfl) ?_
    refine rn rfl ?_
    rw [hw]
    refine goal_cond rfl (fun h2 => ?_) (fun h2 => ?_) <;> (try simp only [gt_iff_lt, ge_iff_le, bne_iff_ne, ne_eq, bne_eq_false_iff_eq, beq_iff_eq, beq_eq_false_iff_ne, Bool.not_eq_true', Bool.not_eq_false', decide_eq_true_eq, decide_eq_false_iff_not, List.length_map] at h2)
    · refine rn rfl ?_
      refine goal_did rfl rfl (dA_capNil rfl rfl rfl rfl rfl) ?_
      refine rn rfl ?_
      refine goal_did rfl rfl (dA_sliceNil rfl rfl rfl rfl rfl rfl rfl) ?_
      refine rn rfl ?_
      refine goal_did rfl rfl (dA_growMake n (List.replicate n (eS ([] : Str))) rfl rfl rfl (by omega) rfl rfl rfl rfl rfl rfl rfl rfl (by show n * 16 ≤ _; omega) (by omega) rfl) ?_
      refine rn rfl ?_
      refine goal_did rfl rfl (dA_sliceOwn 0 0 n 0 0 n rfl rfl rfl rfl rfl rfl rfl Bnd.none_ (Bnd.some_ rfl rfl) (.inl ⟨rfl, rfl⟩) (by omega) (by omega) (by omega) (by simp) rfl rfl rfl rfl) ?_
      refine rn rfl ?_
      exact fin_is [0] rfl ⟨_, _, rfl, rfl, fun h0 => by omega⟩
    · refine rn rfl ?_
      exact fin_adopt 4 0 1 [0] rfl ⟨_, _, rfl, rfl, fun _ => ⟨rfl, rfl⟩⟩

theorem concatS_ct (xss : List (List Str)) (hn : xss.length ≤ 1000) (hl : xss.flatten.length ≤ 4194304) :
    ACalls pk 97 [.one (.fs (xss.map fun xs => [.fs (xs.map eS)]))] [] (fun r o => r = .one (.os 0 0 xss.flatten.length xss.flatten.length) ∧ o = [ownS xss.flatten]) := by
  have hpre : ∀ i, (xss.take i).flatten.length ≤ xss.flatten.length := fun i => by
    conv => rhs; rw [← List.take_append_drop i xss, List.flatten_append, List.length_append]
    omega
  have hsucc : ∀ (i : Nat) (xs : List Str), xss[i]? = some xs → (xss.take (i + 1)).flatten = (xss.take i).flatten ++ xs := fun i xs h => by
    rw [← take_snoc' h, List.flatten_append]; simp
  refine acalls_of_body Tryz.func97 rfl (by kernel_rfl) rfl ?_
  refine rn rfl ?_
  refine goal_loop_keep (fun m σ => ∃ (n L q : Int) (i : Nat), n = i ∧ L = xss.length ∧ i ≤ xss.length ∧ m = xss.length - i ∧ q = ((xss.take i).flatten.length : Nat) ∧
      σ = ⟨[(11, .one (.int .i64 n)), (10, .one (.int .i64 L)), (9, .one (.fs (xss.map fun xs => [.fs (xs.map eS)]))), (3, .one (.int .i64 q)), (0, .one (.fs (xss.map fun xs => [.fs (xs.map eS)])))], [], []⟩) xss.length [11, 10, 9, 3, 0] [] rfl
    ⟨_, _, _, 0, rfl, by simp, by omega, by omega, rfl, rfl⟩ ?_
  rintro m σ ⟨n, L, q, i, rfl, rfl, hi, rfl, rfl, rfl⟩
  refine rn rfl ?_
  refine goal_cond rfl (fun h => ?_) (fun h => ?_) <;> (try simp only [gt_iff_lt, ge_iff_le, bne_iff_ne, ne_eq, bne_eq_false_iff_eq, beq_iff_eq, beq_eq_false_iff_ne, Bool.not_eq_true', Bool.not_eq_false', decide_eq_true_eq, decide_eq_false_iff_not, List.length_map] at h)
  · obtain ⟨xs, hxs⟩ := at_some (xs := xss) (i := i) (by omega)
    have h1 := hpre (i + 1)
    have h2 := hsucc i xs hxs
    rw [h2, List.length_append] at h1
    have hw : IntKind.i64.wrap (((xss.take i).flatten.length : Nat) + (xs.length : Int)) = (((xss.take i).flatten ++ xs).length : Nat) := by rw [List.length_append, wrap64] <;> omega
    refine rn rfl ?_
    refine goal_did rfl rfl (dA_index [.fs (xs.map eS)] rfl rfl rfl rfl rfl rfl rfl (by omega) (by simp; omega) (map_at (enc := fun xs : List Str => [C.fs (xs.map eS)]) (by simpa using hxs)) rfl) ?_
    refine rn rfl ?_
    refine goal_cond rfl (fun h0 => ?_) (fun _ => ?_)
    · simp only [List.length_map, decide_eq_true_eq] at h0; rw [hw] at h0; omega
    · refine rn rfl ?_
      refine round_keep (xss.length - (i + 1)) [11, 10, 9, 3, 0] [] (by omega) rfl ⟨_, _, _, i + 1, wrap64 (by omega) (by omega), rfl, by omega, rfl, ?_, rfl⟩
      rw [List.length_map, hw, h2]
  · rw [show i = xss.length by omega, List.take_length]
    refine rn rfl ?_
    refine round_ext ?_
    refine rn rfl ?_
    refine goal_step (step_callRaw rfl rfl rfl rfl rfl rfl (growS_ct xss.flatten.length hl)) ?_
    rintro σ2 ⟨r, o', ⟨rows0, kc0, rfl, rfl, hz⟩, hσ⟩
    obtain rfl := Option.some.inj hσ
    clear hσ
    refine rn rfl ?_
    refine goal_loop_keep (fun m σ => ∃ (n L : Int) (i l kc : Nat) (rows : List (List C)), n = i ∧ L = xss.length ∧ i ≤ xss.length ∧ m = xss.length - i ∧ l = (xss.take i).flatten.length ∧ ((rows = (xss.take i).flatten.map eS ∧ kc = l) ∨ (i = 0 ∧ rows = rows0 ∧ kc = kc0)) ∧
        σ = ⟨[(27, .one (.int .i64 n)), (26, .one (.int .i64 L)), (25, .one (.fs (xss.map fun xs => [.fs (xs.map eS)]))), (6, .one (.os 0 0 l kc))], [some ⟨1, rows, true, false, false⟩], []⟩) xss.length [27, 26, 25, 6] [0] rfl
      ⟨_, ((xss.map fun xs => [C.fs (xs.map eS)]).length : Int), 0, 0, kc0, rows0, rfl, by simp, by omega, by omega, rfl, .inr ⟨rfl, rfl, rfl⟩, rfl⟩ ?_
    rintro m σ ⟨n, L, i, l, kc, rows, rfl, rfl, hi, rfl, rfl, hrows, rfl⟩
    have hold : (xss.take i).flatten.map eS = rows.take (xss.take i).flatten.length := by
      rcases hrows with ⟨rfl, _⟩ | ⟨rfl, _, _⟩
      · exact (List.take_of_length_le (by rw [List.length_map]; exact Nat.le_refl _)).symm
      · simp
    have hle : (xss.take i).flatten.length ≤ rows.length := by
      have := congrArg List.length hold
      simp only [List.length_map, List.length_take] at this; omega
    refine rn rfl ?_
    refine goal_cond rfl (fun h => ?_) (fun h => ?_) <;> (try simp only [gt_iff_lt, ge_iff_le, bne_iff_ne, ne_eq, bne_eq_false_iff_eq, beq_iff_eq, beq_eq_false_iff_ne, Bool.not_eq_true', Bool.not_eq_false', decide_eq_true_eq, decide_eq_false_iff_not, List.length_map] at h)
    · obtain ⟨xs, hxs⟩ := at_some (xs := xss) (i := i) (by omega)
      have h1 := hpre (i + 1)
      have h2 := hsucc i xs hxs
      rw [h2, List.length_append] at h1
      refine rn rfl ?_
      refine goal_did rfl rfl (dA_index [.fs (xs.map eS)] rfl rfl rfl rfl rfl rfl rfl (by omega) (by simp; omega) (map_at (enc := fun xs : List Str => [C.fs (xs.map eS)]) (by simpa using hxs)) rfl) ?_
      refine rn rfl ?_
      refine goal_did rfl rfl (dA_append (old := (xss.take i).flatten.map eS) (rows := xs.map eS) (((xss.take i).flatten ++ xs).map eS) (((xss.take i).flatten ++ xs).length) true (Dst.own rfl rfl rfl rfl rfl hle hold) (Src.fs rfl) rfl rfl rfl rfl rfl rfl rfl rfl (rows_len eS_len _) (rows_len eS_len _) (by simp only [List.length_map]; show _ * 16 ≤ _; omega) (by simp only [List.length_map]; omega) (by rw [List.map_append]) (by rw [List.length_map]) (fun _ => noOwnR_map _ eS_noOwn _)) ?_
      refine rn rfl ?_
      refine round_keep (xss.length - (i + 1)) [27, 26, 25, 6] [1] (by omega) rfl ⟨_, _, i + 1, ((xss.take i).flatten ++ xs).length, ((xss.take i).flatten ++ xs).length, ((xss.take i).flatten ++ xs).map eS, wrap64 (by omega) (by omega), rfl, by omega, rfl, by rw [h2], .inl ⟨by rw [h2], rfl⟩, rfl⟩
    · rw [show i = xss.length by omega, List.take_length] at hrows hold ⊢
      refine rn rfl ?_
      refine round_ext ?_
      have hfin : rows = xss.flatten.map eS ∧ kc = xss.flatten.length := by
        rcases hrows with hr | ⟨h0, hr, hk⟩
        · exact hr
        · have hx : xss = [] := List.eq_nil_of_length_eq_zero (by omega)
          subst hx
          obtain ⟨q1, q2⟩ := hz rfl
          exact ⟨by rw [hr, q1]; rfl, by rw [hk, q2]; rfl⟩
      obtain ⟨rfl, rfl⟩ := hfin
      exact rn rfl (fin_is [0] rfl ⟨rfl, rfl⟩)

theorem compactS_ct (xs : List Str) (kc : Nat) (hk : xs.length ≤ kc) (hl : xs.length ≤ 1000) (hkc : kc ≤ 1048576) :
    ACalls pk 98 [.one (.os 0 0 xs.length kc)] [ownS xs] (fun r o => r = .one (.os 0 0 (compS xs).length kc) ∧ o = [ownS (compS xs ++ List.replicate (xs.length - (compS xs).length) [])]) := by
  refine acalls_of_body Tryz.func98 rfl (by kernel_rfl) rfl ?_
  refine rn rfl ?_
  refine goal_cond rfl (fun h => ?_) (fun h => ?_) <;> (try simp only [gt_iff_lt, ge_iff_le, bne_iff_ne, ne_eq, bne_eq_false_iff_eq, beq_iff_eq, beq_eq_false_iff_ne, Bool.not_eq_true', Bool.not_eq_false', decide_eq_true_eq, decide_eq_false_iff_not, List.length_map] at h)
  · have he : compS xs = xs := by
      cases xs with
      | nil => rfl
      | cons a l =>
        cases l with
        | nil => rfl
        | cons b l => simp only [List.length_cons] at h; omega
    exact rn rfl (fin_is [] rfl ⟨by rw [he], by rw [he, Nat.sub_self]; simp; rfl⟩)
  · refine rn rfl ?_
    refine goal_loop_keep (fun m σ => ∃ (q : Int) (i : Nat), q = i ∧ 1 ≤ i ∧ i ≤ xs.length ∧ m = xs.length - i ∧ compS (xs.take i) = xs.take i ∧
        σ = ⟨[(3, .one (.int .i64 q)), (0, .one (.os 0 0 xs.length kc))], [ownS xs], []⟩) (xs.length - 1) [3, 0] [] rfl
      ⟨_, 1, rfl, by omega, by omega, by omega, compS_one (by omega), rfl⟩ ?_
    rintro m σ ⟨q, i, rfl, h1, hi, rfl, hpre, rfl⟩
    refine rn rfl ?_
    refine goal_cond rfl (fun h2 => ?_) (fun h2 => ?_) <;> (try simp only [gt_iff_lt, ge_iff_le, bne_iff_ne, ne_eq, bne_eq_false_iff_eq, beq_iff_eq, beq_eq_false_iff_ne, Bool.not_eq_true', Bool.not_eq_false', decide_eq_true_eq, decide_eq_false_iff_not, List.length_map] at h2)
    · obtain ⟨k, rfl⟩ : ∃ k, i = k + 1 := ⟨i - 1, by omega⟩
      obtain ⟨b, hb⟩ := at_some (xs := xs) (i := k + 1) (by omega)
      obtain ⟨c, hc⟩ := at_some (xs := xs) (i := k) (by omega)
      have hst := compS_succ hb hc
      rw [hpre] at hst
      have hw : IntKind.i64.wrap (((k + 1 : Nat) : Int) - 1) = (k : Int) := by rw [wrap64 (by omega) (by omega)]; omega
      refine rn rfl ?_
      refine goal_draw' [0] 10 rfl ?_
      refine drn [0, 1, 4, 5, 6] (by kernel_rfl) (by kernel_rfl) rfl rfl ?_
      refine AH_did 2 rfl (by kernel_rfl) (by kernel_rfl) (by kernel_rfl) rfl rfl (dA_indexOwn rfl rfl rfl rfl rfl rfl rfl rfl rfl (by omega) (by (try simp); omega)) ?_
      refine AH_did 3 rfl (by kernel_rfl) (by kernel_rfl) (by kernel_rfl) rfl rfl (dA_loadEl (eS b) rfl rfl rfl rfl (map_at (by simpa using hb)) rfl rfl rfl) ?_
      refine AH_did 7 rfl (by kernel_rfl) (by kernel_rfl) (by kernel_rfl) rfl rfl (dA_indexOwn rfl rfl rfl rfl rfl rfl rfl rfl rfl (by rw [hw]; omega) (by rw [hw]; (try simp); omega)) ?_
      refine AH_did 8 rfl (by kernel_rfl) (by kernel_rfl) (by kernel_rfl) rfl rfl (dA_loadEl (eS c) rfl rfl rfl rfl (map_at (by rw [hw]; simpa using hc)) rfl rfl rfl) ?_
      refine drn [9] (by kernel_rfl) (by kernel_rfl) rfl rfl ?_
      refine AH_end (by kernel_rfl) ?_
      refine rn rfl ?_
      refine goal_cond rfl (fun h3 => ?_) (fun h3 => ?_) <;> simp only [beq_iff_eq, beq_eq_false_iff_ne, ne_eq, decide_eq_true_eq, decide_eq_false_iff_not] at h3
      · subst h3
        refine rn rfl ?_
        refine goal_did rfl rfl (dA_sliceOwn (k + 1) xs.length kc (k + 1) (xs.length - (k + 1)) (kc - (k + 1)) rfl rfl rfl rfl rfl rfl rfl (Bnd.some_ rfl rfl) Bnd.none_ (.inl ⟨rfl, rfl⟩) (by omega) (by omega) (Nat.le_refl _) (by simp) rfl (by simp) (by omega) rfl) ?_
        refine rn rfl ?_
        refine goal_loop_keep (fun m σ => ∃ (q j : Int) (d p : Nat) (ys : List Str), q = d ∧ j = p ∧ 1 ≤ d ∧ k + 1 + d ≤ xs.length ∧ m = xs.length - (k + 1 + d) ∧ p ≤ k + d ∧ ys.length = xs.length ∧ ys.take p = compS (xs.take (k + 1 + d)) ∧ ys.drop (k + d) = xs.drop (k + d) ∧
            σ = ⟨[(5, .one (.int .i64 q)), (4, .one (.os 0 (k + 1) (xs.length - (k + 1)) (kc - (k + 1)))), (3, .one (.int .i64 j)), (0, .one (.os 0 0 xs.length kc))], [ownS ys], []⟩) (xs.length - (k + 1 + 1)) [5, 4, 3, 0] [] rfl
          ⟨_, _, 1, k + 1, xs, rfl, rfl, by omega, by omega, by omega, by omega, rfl, by rw [hst]; simp, rfl, rfl⟩ ?_
        rintro m σ ⟨q, j, d, p, ys, rfl, rfl, hd, hdl, rfl, hp, hyl, hyt, hyd, rfl⟩
        refine rn rfl ?_
        refine goal_cond rfl (fun h4 => ?_) (fun h4 => ?_) <;> (try simp only [gt_iff_lt, ge_iff_le, bne_iff_ne, ne_eq, bne_eq_false_iff_eq, beq_iff_eq, beq_eq_false_iff_ne, Bool.not_eq_true', Bool.not_eq_false', decide_eq_true_eq, decide_eq_false_iff_not, List.length_map] at h4)
        · obtain ⟨x, hx⟩ := at_some (xs := xs) (i := k + d + 1) (by omega)
          obtain ⟨z, hz⟩ := at_some (xs := xs) (i := k + d) (by omega)
          obtain ⟨old, hold⟩ := at_some (xs := ys) (i := p) (by omega)
          have hyx : ys[k + d + 1]? = some x := by
            have := congrArg (fun l => l[1]?) hyd
            simp only [List.getElem?_drop] at this
            rw [this]; exact hx
          have hyz : ys[k + d]? = some z := by
            have := congrArg (fun l => l[0]?) hyd
            simp only [List.getElem?_drop, Nat.add_zero] at this
            rw [this]; exact hz
          have hst2 := compS_succ hx hz
          have hw2 : IntKind.i64.wrap ((d : Int) - 1) = ((d - 1 : Nat) : Int) := by rw [wrap64 (by omega) (by omega)]; omega
          have e1 : k + 1 + d = k + d + 1 := by omega
          have e2 : k + 1 + (d - 1) = k + d := by omega
          rw [e1] at hyt
          refine rn rfl ?_
          refine goal_draw' [0] 10 rfl ?_
          refine drn [0, 1, 4, 5, 6] (by kernel_rfl) (by kernel_rfl) rfl rfl ?_
          refine AH_did 2 rfl (by kernel_rfl) (by kernel_rfl) (by kernel_rfl) rfl rfl (dA_indexOwn rfl rfl rfl rfl rfl rfl rfl rfl rfl (by omega) (by (try simp); omega)) ?_
          refine AH_did 3 rfl (by kernel_rfl) (by kernel_rfl) (by kernel_rfl) rfl rfl (dA_loadEl (eS x) rfl rfl rfl rfl (map_at (by simpa [e1] using hyx)) rfl rfl rfl) ?_
          refine AH_did 7 rfl (by kernel_rfl) (by kernel_rfl) (by kernel_rfl) rfl rfl (dA_indexOwn rfl rfl rfl rfl rfl rfl rfl rfl rfl (by rw [hw2]; omega) (by rw [hw2]; (try simp); omega)) ?_
          refine AH_did 8 rfl (by kernel_rfl) (by kernel_rfl) (by kernel_rfl) rfl rfl (dA_loadEl (eS z) rfl rfl rfl rfl (map_at (by rw [hw2]; simpa [e2] using hyz)) rfl rfl rfl) ?_
          refine drn [9] (by kernel_rfl) (by kernel_rfl) rfl rfl ?_
          refine AH_end (by kernel_rfl) ?_
          refine rn rfl ?_
          refine goal_cond rfl (fun h3 => ?_) (fun h3 => ?_) <;> simp only [bne_iff_ne, ne_eq, bne_eq_false_iff_eq, Bool.not_eq_true', Bool.not_eq_false', beq_iff_eq, beq_eq_false_iff_ne, decide_eq_true_eq, decide_eq_false_iff_not] at h3
          · rw [if_neg h3] at hst2
            refine rn rfl ?_
            refine goal_did rfl rfl (dA_indexOwn rfl rfl rfl rfl rfl rfl rfl rfl rfl (by omega) (by (try simp); omega)) ?_
            refine goal_did rfl rfl (dA_loadEl (eS x) rfl rfl rfl rfl (map_at (by simpa [e1] using hyx)) rfl rfl rfl) ?_
            refine goal_did rfl rfl (dA_indexOwn rfl rfl rfl rfl rfl rfl rfl rfl rfl (by omega) (by (try simp); omega)) ?_
            refine goal_did rfl rfl (dA_storeEl (eS old) ((ys.set p x).map eS) true rfl rfl rfl rfl rfl (map_at (by simpa using hold)) rfl rfl (by simp [eS]) (by rw [map_set]; simp [patch, eS]) (fun _ => noOwnR_map _ eS_noOwn _)) ?_
            refine rn rfl ?_
            refine round_keep (xs.length - (k + 1 + (d + 1))) [5, 4, 3, 0] [] (by omega) rfl ⟨_, _, d + 1, p + 1, ys.set p x, wrap64 (by omega) (by omega), wrap64 (by omega) (by omega), by omega, by omega, rfl, by omega, by simp [hyl], ?_, ?_, rfl⟩
            · rw [show k + 1 + (d + 1) = k + d + 1 + 1 by omega, hst2, ← hyt]
              have hlt := lt_of_some hold
              rw [← take_snoc (x := x) (by rw [List.getElem?_set_self hlt]), List.take_set_of_le (by omega)]
            · rw [List.drop_set_of_lt (by omega)]
              have := congrArg (List.drop 1) hyd
              rwa [List.drop_drop, List.drop_drop] at this
          · rw [if_pos h3, List.append_nil] at hst2
            refine rn rfl ?_
            refine round_keep (xs.length - (k + 1 + (d + 1))) [5, 4, 3, 0] [] (by omega) rfl ⟨_, _, d + 1, p, ys, wrap64 (by omega) (by omega), rfl, by omega, by omega, rfl, by omega, hyl, ?_, ?_, rfl⟩
            · rw [show k + 1 + (d + 1) = k + d + 1 + 1 by omega, hst2, hyt]
            · have := congrArg (List.drop 1) hyd
              rwa [List.drop_drop, List.drop_drop] at this
        · refine rn rfl (round_ext ?_)
          rw [show xs.take (k + 1 + d) = xs from List.take_of_length_le (by omega)] at hyt
          have hpl : (compS xs).length = p := by rw [← hyt]; simp; omega
          refine rn rfl ?_
          refine goal_did rfl rfl (dA_sliceOwn p xs.length kc p (xs.length - p) (kc - p) rfl rfl rfl rfl rfl rfl rfl (Bnd.some_ rfl rfl) Bnd.none_ (.inl ⟨rfl, rfl⟩) (by omega) (by omega) (Nat.le_refl _) (by simp [hyl]) rfl (by simp) (by omega) rfl) ?_
          refine goal_did rfl rfl (dA_clear ((compS xs ++ List.replicate (xs.length - p) []).map eS) true rfl rfl rfl rfl rfl rfl rfl rfl rfl rfl (by simp [hyl]; omega) ?_ (fun _ => noOwnR_map _ eS_noOwn _) rfl) ?_
          · show _ = patch (ys.map eS) p (List.replicate (xs.length - p) [C.str []])
            have e1 : List.replicate (xs.length - p) [C.str []] = (List.replicate (xs.length - p) ([] : Str)).map eS := by rw [List.map_replicate]; rfl
            have e2 : ∀ (l m : List Str) (q : Nat), patch (l.map eS) q (m.map eS) = (patch l q m).map eS := by intro l m q; simp [patch]
            rw [e1, e2]
            congr 1
            unfold patch
            rw [hyt, List.drop_eq_nil_of_le (by simp; omega), List.append_nil]
          refine rn rfl ?_
          refine goal_did rfl rfl (dA_sliceOwn 0 p kc 0 p kc rfl rfl rfl rfl rfl rfl rfl Bnd.none_ (Bnd.some_ rfl rfl) (.inl ⟨rfl, rfl⟩) (by omega) (by omega) (Nat.le_refl _) (by simp [hpl]) rfl rfl rfl rfl) ?_
          rw [hpl]
          exact rn rfl (fin_is [] rfl ⟨rfl, rfl⟩)
      · rw [if_neg h3] at hst
        refine rn rfl ?_
        refine round_keep (xs.length - (k + 1 + 1)) [3, 0] [] (by omega) rfl ⟨_, k + 1 + 1, wrap64 (by omega) (by omega), by omega, by omega, rfl, by rw [hst, take_snoc hb], rfl⟩
    · refine rn rfl (round_ext ?_)
      have he : compS xs = xs := by rw [List.take_of_length_le (by omega)] at hpre; exact hpre
      exact rn rfl (fin_is [] rfl ⟨by rw [he], by rw [he, Nat.sub_self]; simp; rfl⟩)

theorem MidF.lens {f : Flat} (h : MidF f 24 9) : LenF f := ⟨by have := h.places; omega, by have := h.named; omega, fun p hp => by have := h.names p hp; omega⟩

theorem give_one {s : Sig} {pl : List Int} {qs : List Pair} {i : Nat} {p : Param} (h : singleQ p = true) : ((giveQ s pl qs i p).given = true → ∃ v, (giveQ s pl qs i p).list = [v]) ∧ ((giveQ s pl qs i p).given = false → (giveQ s pl qs i p).list = []) ∧
    (p.kind = 0 → (giveQ s pl qs i p).given = decide (i < pl.length)) := by
  rw [single_kind] at h
  unfold giveQ
  rw [if_neg (by omega)]
  split
  · rename_i hn
    simp only [Bool.and_eq_true] at hn
    have hk := named_kind.1 hn.1
    split
    · exact ⟨fun _ => ⟨_, rfl⟩, (fun h0 => by cases h0), (fun h0 => by omega)⟩
    · exact ⟨(fun h0 => by cases h0), (fun _ => rfl), (fun h0 => by omega)⟩
  · unfold place1
    by_cases hb : (placedQ p && decide (i < pl.length)) = true
    · rw [if_pos hb]
      simp only [Bool.and_eq_true] at hb
      exact ⟨fun _ => ⟨_, rfl⟩, (fun h0 => by cases h0), fun _ => hb.2.symm⟩
    · rw [if_neg hb]
      have h2 : (p.kind == 2) = false := by simp; omega
      simp only [h2]
      refine ⟨(fun h0 => by cases h0), (fun _ => rfl), fun h0 => ?_⟩
      have hp : placedQ p = true := placed_kind.2 (.inl h0)
      rw [hp] at hb
      show false = _
      simpa using hb

theorem bound_at {s : Sig} {f : Flat} (hs : OkS s) (hf : OkF f) {i : Nat} {p : Param} {x : Slot} (hp : s[i]? = some p) (hx : (boundQ s f).1[i]? = some x) : x = giveQ s f.places f.named i p := by
  rw [bound_closed hs hf.nodup] at hx
  simp only [closedQ, List.getElem?_mapIdx, hp, Option.map_some, Option.some.injEq] at hx
  exact hx.symm

/-- What a call that is accepted gives to one parameter. -/
structure Given (s : Sig) (f : Flat) (b : Bnds) : Prop where
  sig : OkS s
  flat : OkF f
  acc : accQ s f = true
  eq : b = (boundQ s f).1

section

variable {s : Sig} {f : Flat} {b : Bnds}

theorem Given.len (h : Given s f b) : b.length = s.length := by rw [h.eq, boundQ_len]

theorem Given.at (h : Given s f b) {i : Nat} {p : Param} {x : Slot} (hp : s[i]? = some p) (hx : b[i]? = some x) : x = giveQ s f.places f.named i p := by
  rw [h.eq] at hx
  exact bound_at h.sig h.flat hp hx

theorem Given.get (h : Given s f b) {i : Nat} {p : Param} (hp : s[i]? = some p) : b[i]? = some (giveQ s f.places f.named i p) := by
  obtain ⟨x, hx⟩ := at_some (xs := b) (i := i) (by rw [h.len]; exact lt_of_some hp)
  rw [hx, h.at hp hx]

/-- A parameter that is found by its place alone has got a value only by its place; then all ahead of it have. -/
theorem Given.before (h : Given s f b) {i j : Nat} {p q : Param} (hp : s[i]? = some p) (hq : s[j]? = some q) (hk : p.kind = 0) (hji : j < i) (hg : (giveQ s f.places f.named i p).given = true) : (giveQ s f.places f.named j q).given = true := by
  have h1 := (give_one (s := s) (pl := f.places) (qs := f.named) (i := i) (single_kind.2 (.inl hk))).2.2 hk
  rw [hg] at h1
  have hlt : i < f.places.length := by simpa using h1.symm
  have hP := (h.sig.placed_iff hp).1 (placed_kind.2 (.inl hk))
  have hpl := (h.sig.placed_iff hq).2 (by omega)
  have hs : singleQ q = true := by rw [single_kind]; rw [placed_kind] at hpl; omega
  rw [give_given hs]
  have : byPl f.places j q = true := by simp [byPl, hpl]; omega
  rw [this]; rfl

/-- The walk of 'unbind', prefix by prefix. -/
structure UnbAt (s : Sig) (b : Bnds) (i : Nat) (F : Flat) (op : Bool) (V R : List Int) (X Y : List Pair) : Prop where
  places : F.places = V ++ R
  named : F.named = X ++ Y
  vlen : V.length ≤ min i (placesQ s)
  vals : ∀ (j : Nat) (x : Slot), j < V.length → b[j]? = some x → x.given = true ∧ V[j]? = some (hd0 x.list)
  opn : op = true → V.length = min i (placesQ s)
  shut : op = false → V.length < placesQ s ∧ V.length < i ∧ ∀ x, b[V.length]? = some x → x.given = false
  rest : ∀ (j : Nat) (p : Param) (x : Slot), j < i → s[j]? = some p → b[j]? = some x → p.kind = 2 → R = x.list
  rest0 : (∀ (j : Nat) (p : Param), j < i → s[j]? = some p → p.kind ≠ 2) → R = []
  map : ∀ (j : Nat) (p : Param) (x : Slot), j < i → s[j]? = some p → b[j]? = some x → p.kind = 4 → Y = x.pairs
  map0 : (∀ (j : Nat) (p : Param), j < i → s[j]? = some p → p.kind ≠ 4) → Y = []
  mem : ∀ q : Pair, q ∈ X ↔ ∃ (j : Nat) (p : Param) (x : Slot), j < i ∧ s[j]? = some p ∧ b[j]? = some x ∧ x.given = true ∧ (p.kind = 3 ∨ (p.kind = 1 ∧ V.length < j)) ∧ q = ⟨p.name, hd0 x.list⟩
  nodup : (namesOf X).Nodup

theorem Given.unbAt (h : Given s f b) : ∀ i, i ≤ s.length → ∃ F op V R X Y, ((s.zip b).take i).foldl stU (zF, true) = (F, op) ∧ UnbAt s b i F op V R X Y
  | 0, _ => ⟨zF, true, [], [], [], [], by simp, ⟨rfl, rfl, by simp, fun j x hj => by simp at hj, fun _ => by simp, (fun h0 => by cases h0), fun j p x hj => by omega, fun _ => rfl, fun j p x hj => by omega, fun _ => rfl, fun q => by
      constructor
      · intro h0; simp at h0
      · rintro ⟨j, p, x, hj, _⟩; omega, by simp [namesOf]⟩⟩
  | i + 1, hi => by
    obtain ⟨F, op, V, R, X, Y, hfold, I⟩ := Given.unbAt h i (by omega)
    obtain ⟨p, hp⟩ := at_some (xs := s) (i := i) (by omega)
    have hx := h.get hp
    generalize hxe : giveQ s f.places f.named i p = x at hx
    have hz : (s.zip b)[i]? = some (p, x) := List.getElem?_zip_eq_some.2 ⟨hp, hx⟩
    have hst : ((s.zip b).take (i + 1)).foldl stU (zF, true) = stU (F, op) (p, x) := by rw [foldl_take_succ _ _ hz, hfold]
    rw [hst]
    have hP := h.sig.placed_iff hp
    have hkr := h.sig.kindRange (List.mem_of_getElem? hp)
    have upto : ∀ (j : Nat) (q : Param), j < i + 1 → s[j]? = some q → j < i ∨ (j = i ∧ q = p) := fun j q hj hq => by
      by_cases hji : j = i
      · subst hji; rw [hp] at hq; cases hq; exact .inr ⟨rfl, rfl⟩
      · exact .inl (by omega)
    have xat : ∀ (j : Nat) (y : Slot), j = i → b[j]? = some y → y = x := fun j y hj hy => by subst hj; rw [hx] at hy; cases hy; rfl
    have before : ∀ (j : Nat) (q : Param), j < i → s[j]? = some q → q.kind ≤ p.kind := fun j q hj hq => h.sig.sorted (i - j) j q p hq (by rw [show j + (i - j) = i by omega]; exact hp)
    have notin : ∀ q ∈ X, q.name ≠ p.name := fun q hq he => by
      obtain ⟨j, r, y, hj, hr, _, _, _, rfl⟩ := (I.mem q).1 hq
      have := name_inj h.sig hr hp he
      omega
    have memStay : (x.given = true → ¬ (p.kind = 3 ∨ (p.kind = 1 ∧ V.length < i))) → ∀ (V' : List Int), V.length ≤ V'.length → (∀ j q, j < i → s[j]? = some q → q.kind = 1 → V.length < j → V'.length < j) → ∀ q : Pair, q ∈ X ↔ ∃ (j : Nat) (p : Param) (x : Slot), j < i + 1 ∧ s[j]? = some p ∧ b[j]? = some x ∧ x.given = true ∧ (p.kind = 3 ∨ (p.kind = 1 ∧ V'.length < j)) ∧ q = ⟨p.name, hd0 x.list⟩ := fun hno V' hV hV' q => by
      rw [I.mem q]
      constructor
      · rintro ⟨j, r, y, hj, hr, hy, hg, hk, rfl⟩
        refine ⟨j, r, y, by omega, hr, hy, hg, ?_, rfl⟩
        rcases hk with hk | ⟨hk, hl⟩
        · exact .inl hk
        · exact .inr ⟨hk, hV' j r hj hr hk hl⟩
      · rintro ⟨j, r, y, hj, hr, hy, hg, hk, rfl⟩
        rcases upto j r hj hr with hji | ⟨rfl, rfl⟩
        · refine ⟨j, r, y, hji, hr, hy, hg, ?_, rfl⟩
          rcases hk with hk | ⟨hk, hl⟩
          · exact .inl hk
          · exact .inr ⟨hk, by omega⟩
        · exfalso
          have := xat j y rfl hy
          subst this
          refine hno hg ?_
          rcases hk with hk | ⟨hk, hl⟩
          · exact .inl hk
          · exact .inr ⟨hk, by omega⟩
    by_cases hk2 : p.kind = 2
    · have hR : R = [] := I.rest0 fun j q hj hq hk => by
        have := h.sig.one hq hp (by omega) (by simp [singleQ, placedQ, hk2]); omega
      have hnp : ¬ i < placesQ s := fun h0 => by have := hP.2 h0; rw [placed_kind] at this; omega
      have hs' : stU (F, op) (p, x) = (⟨F.places ++ x.list, F.named⟩, op) := by simp [stU, hk2]
      rw [hs']
      refine ⟨_, op, V, x.list, X, Y, rfl, ⟨by rw [I.places, hR, List.append_nil], I.named, by have := I.vlen; omega, I.vals, fun h0 => by rw [I.opn h0]; omega, fun h0 => ?_, fun j q y hj hq hy hk => ?_, fun h0 => absurd hk2 (h0 i p (by omega) hp), fun j q y hj hq hy hk => ?_, fun h0 => I.map0 fun j q hj hq => h0 j q (by omega) hq, memStay (fun _ h0 => by omega) V (Nat.le_refl _) (fun j q _ _ _ hl => hl), I.nodup⟩⟩
      · obtain ⟨a1, a2, a3⟩ := I.shut h0
        exact ⟨a1, by omega, a3⟩
      · rcases upto j q hj hq with hji | ⟨rfl, rfl⟩
        · have := h.sig.one hq hp (by omega) (by simp [singleQ, placedQ, hk2]); omega
        · rw [xat j y rfl hy]
      · rcases upto j q hj hq with hji | ⟨rfl, rfl⟩
        · exact I.map j q y hji hq hy hk
        · omega
    by_cases hk4 : p.kind = 4
    · have hY : Y = [] := I.map0 fun j q hj hq hk => by
        have := h.sig.one hq hp (by omega) (by simp [singleQ, placedQ, hk4]); omega
      have hnp : ¬ i < placesQ s := fun h0 => by have := hP.2 h0; rw [placed_kind] at this; omega
      have hs' : stU (F, op) (p, x) = (⟨F.places, F.named ++ x.pairs⟩, op) := by simp [stU, hk4]
      rw [hs']
      refine ⟨_, op, V, R, X, x.pairs, rfl, ⟨I.places, by rw [I.named, hY, List.append_nil], by have := I.vlen; omega, I.vals, fun h0 => by rw [I.opn h0]; omega, fun h0 => ?_, fun j q y hj hq hy hk => ?_, fun h0 => I.rest0 fun j q hj hq => h0 j q (by omega) hq, fun j q y hj hq hy hk => ?_, fun h0 => absurd hk4 (h0 i p (by omega) hp), memStay (fun _ h0 => by omega) V (Nat.le_refl _) (fun j q _ _ _ hl => hl), I.nodup⟩⟩
      · obtain ⟨a1, a2, a3⟩ := I.shut h0
        exact ⟨a1, by omega, a3⟩
      · rcases upto j q hj hq with hji | ⟨rfl, rfl⟩
        · exact I.rest j q y hji hq hy hk
        · omega
      · rcases upto j q hj hq with hji | ⟨rfl, rfl⟩
        · have := h.sig.one hq hp (by omega) (by simp [singleQ, placedQ, hk4]); omega
        · rw [xat j y rfl hy]
    have restStay : ∀ (j : Nat) (q : Param) (y : Slot), j < i + 1 → s[j]? = some q → b[j]? = some y → q.kind = 2 → R = y.list := fun j q y hj hq hy hk => by
      rcases upto j q hj hq with hji | ⟨rfl, rfl⟩
      · exact I.rest j q y hji hq hy hk
      · exact absurd hk hk2
    have rest0Stay : (∀ (j : Nat) (q : Param), j < i + 1 → s[j]? = some q → q.kind ≠ 2) → R = [] := fun h0 => I.rest0 fun j q hj hq => h0 j q (by omega) hq
    have mapStay : ∀ (j : Nat) (q : Param) (y : Slot), j < i + 1 → s[j]? = some q → b[j]? = some y → q.kind = 4 → Y = y.pairs := fun j q y hj hq hy hk => by
      rcases upto j q hj hq with hji | ⟨rfl, rfl⟩
      · exact I.map j q y hji hq hy hk
      · exact absurd hk hk4
    have map0Stay : (∀ (j : Nat) (q : Param), j < i + 1 → s[j]? = some q → q.kind ≠ 4) → Y = [] := fun h0 => I.map0 fun j q hj hq => h0 j q (by omega) hq
    have hsg : singleQ p = true := single_kind.2 (by omega)
    cases hg : x.given with
    | false =>
      have hs' : stU (F, op) (p, x) = (F, op && !placedQ p) := by simp [stU, hk2, hk4, hg]
      rw [hs']
      refine ⟨_, _, V, R, X, Y, rfl, ⟨I.places, I.named, by have := I.vlen; omega, I.vals, fun h0 => ?_, fun h0 => ?_, restStay, rest0Stay, mapStay, map0Stay, memStay (fun h0 => by rw [hg] at h0; cases h0) V (Nat.le_refl _) (fun j q _ _ _ hl => hl), I.nodup⟩⟩
      · simp only [Bool.and_eq_true, Bool.not_eq_true'] at h0
        have hnp : ¬ i < placesQ s := fun h1 => by rw [hP.2 h1] at h0; cases h0.2
        rw [I.opn h0.1]; omega
      · cases ho : op with
        | false =>
          obtain ⟨a1, a2, a3⟩ := I.shut ho
          exact ⟨a1, by omega, a3⟩
        | true =>
          rw [ho] at h0
          simp only [Bool.true_and, Bool.not_eq_false'] at h0
          have hip := hP.1 h0
          have hv := I.opn ho
          have hv' : V.length = i := by omega
          refine ⟨by omega, by omega, fun y hy => ?_⟩
          rw [hv'] at hy
          rw [xat i y rfl hy]; exact hg
    | true =>
      by_cases hpo : (placedQ p && op) = true
      · have hs' : stU (F, op) (p, x) = (⟨F.places ++ [hd0 x.list], F.named⟩, op) := by simp [stU, hk2, hk4, hg, hpo]
        rw [hs']
        simp only [Bool.and_eq_true] at hpo
        have hip := hP.1 hpo.1
        have hv := I.opn hpo.2
        have hv' : V.length = i := by omega
        have hR : R = [] := I.rest0 fun j q hj hq hk => by
          have := before j q hj hq
          have h9 := hpo.1
          rw [placed_kind] at h9; omega
        refine ⟨_, op, V ++ [hd0 x.list], R, X, Y, rfl, ⟨by rw [I.places, hR]; simp, I.named, by simp; omega, fun j y hj hy => ?_, fun _ => by simp; omega, fun h0 => (by rw [hpo.2] at h0; cases h0), restStay, rest0Stay, mapStay, map0Stay, ?_, I.nodup⟩⟩
        · simp only [List.length_append, List.length_cons, List.length_nil] at hj
          by_cases hjv : j < V.length
          · obtain ⟨a1, a2⟩ := I.vals j y hjv hy
            exact ⟨a1, by rw [List.getElem?_append_left hjv]; exact a2⟩
          · have hji : j = i := by omega
            have := xat j y hji hy
            subst this
            exact ⟨hg, by rw [List.getElem?_append_right (by omega)]; simp [hji, hv']⟩
        · refine memStay (fun _ h0 => ?_) (V ++ [hd0 x.list]) (by simp) (fun j q hj _ _ hl => by omega)
          have h9 := hpo.1
          rw [placed_kind] at h9
          omega
      · have hs' : stU (F, op) (p, x) = (⟨F.places, F.named ++ [⟨p.name, hd0 x.list⟩]⟩, op) := by simp [stU, hk2, hk4, hg, hpo]
        rw [hs']
        have hY : Y = [] := I.map0 fun j q hj hq hk => by
          have := before j q hj hq; omega
        have hkk : p.kind = 3 ∨ (p.kind = 1 ∧ V.length < i) := by
          by_cases hk3 : p.kind = 3
          · exact .inl hk3
          · have hpl : placedQ p = true := by rw [placed_kind]; rw [single_kind] at hsg; omega
            have ho : op = false := by
              cases ho : op with
              | false => rfl
              | true => rw [hpl, ho] at hpo; exact absurd rfl hpo
            obtain ⟨a1, a2, a3⟩ := I.shut ho
            refine .inr ⟨?_, a2⟩
            refine Classical.byContradiction fun hk1 => ?_
            have hk0 : p.kind = 0 := by rw [placed_kind] at hpl; omega
            obtain ⟨q, hq⟩ := at_some (xs := s) (i := V.length) (by omega)
            have hgq := h.before hp hq hk0 a2 (by rw [hxe]; exact hg)
            have := a3 _ (h.get hq)
            rw [hgq] at this; cases this
        refine ⟨_, op, V, R, X ++ [⟨p.name, hd0 x.list⟩], Y, rfl, ⟨I.places, by rw [I.named, hY]; simp, by have := I.vlen; omega, I.vals, fun h0 => ?_, fun h0 => ?_, restStay, rest0Stay, mapStay, map0Stay, fun q => ?_, ?_⟩⟩
        · have hnp : ¬ i < placesQ s := fun h1 => by rw [hP.2 h1, h0] at hpo; exact hpo rfl
          rw [I.opn h0]; omega
        · obtain ⟨a1, a2, a3⟩ := I.shut h0
          exact ⟨a1, by omega, a3⟩
        · rw [List.mem_append, List.mem_singleton, I.mem q]
          constructor
          · rintro (⟨j, r, y, hj, hr, hy, hgy, hk, rfl⟩ | rfl)
            · exact ⟨j, r, y, by omega, hr, hy, hgy, hk, rfl⟩
            · exact ⟨i, p, x, by omega, hp, hx, hg, hkk, rfl⟩
          · rintro ⟨j, r, y, hj, hr, hy, hgy, hk, rfl⟩
            rcases upto j r hj hr with hji | ⟨rfl, rfl⟩
            · exact .inl ⟨j, r, y, hji, hr, hy, hgy, hk, rfl⟩
            · right; rw [xat j y rfl hy]
        · unfold namesOf
          rw [List.map_append, List.map_cons, List.map_nil]
          refine List.nodup_append.2 ⟨I.nodup, by simp, fun a ha c hc => ?_⟩
          simp only [List.mem_singleton] at hc
          obtain ⟨q, hq, rfl⟩ := List.mem_map.1 ha
          rw [hc]
          exact notin q hq

end

theorem find_uniq {qs : List Pair} {q : Pair} (hnd : (namesOf qs).Nodup) (hq : q ∈ qs) : qs.find? (nameIs q.name) = some q := by
  cases h : qs.find? (nameIs q.name) with
  | none =>
    rw [List.find?_eq_none] at h
    exact absurd (by simp [nameIs]) (h q hq)
  | some r =>
    have h1 := List.mem_of_find?_eq_some h
    have h2 := List.find?_some h
    simp only [nameIs, beq_iff_eq] at h2
    obtain ⟨i, hi⟩ := List.getElem?_of_mem h1
    obtain ⟨j, hj⟩ := List.getElem?_of_mem hq
    have hij : i = j := by
      refine (List.getElem?_inj (l := namesOf qs) (by have := lt_of_some hi; simpa [namesOf] using this) hnd).1 ?_
      unfold namesOf
      rw [List.getElem?_map, List.getElem?_map, hi, hj]
      simp [h2]
    subst hij
    rw [hi] at hj
    exact hj

section

variable {s : Sig} {f g : Flat}

end

theorem sub_length {α : Type} [DecidableEq α] : ∀ (xs ys : List α), xs.Nodup → (∀ x ∈ xs, x ∈ ys) → xs.length ≤ ys.length
  | [], ys, _, _ => by simp
  | x :: xs, ys, hd, hm => by
    rw [List.nodup_cons] at hd
    have h1 := sub_length xs (ys.erase x) hd.2 fun y hy => by
      have hne : y ≠ x := fun h0 => hd.1 (h0 ▸ hy)
      exact (List.mem_erase_of_ne hne).2 (hm y (by simp [hy]))
    have h2 := List.length_erase_of_mem (hm x (by simp))
    have h3 : 0 < ys.length := List.length_pos_of_mem (hm x (by simp))
    simp only [List.length_cons]
    omega

theorem give_rest {s : Sig} {pl : List Int} {qs : List Pair} {i : Nat} {p : Param} (hk : p.kind = 2) : giveQ s pl qs i p = ⟨false, pl.drop (placesQ s), []⟩ := by
  unfold giveQ
  rw [if_neg (by omega)]
  have h1 : namedQ p = false := by simp [namedQ, hk]
  have h2 : placedQ p = false := by simp [placedQ, hk]
  rw [h1]
  simp [place1, h2, hk]

theorem give_single {s : Sig} {pl : List Int} {qs : List Pair} {i : Nat} {p : Param} (h : singleQ p = true) : giveQ s pl qs i p =
    if byPl pl i p then ⟨true, [pl.getD i 0], []⟩ else if namedQ p then (match qs.find? (nameIs p.name) with
      | some q => ⟨true, [q.value], []⟩
      | none => zL) else zL := by
  rw [single_kind] at h
  unfold giveQ
  rw [if_neg (by omega)]
  cases hb : byPl pl i p with
  | true =>
    have hb' := hb
    unfold byPl at hb'
    simp [place1, hb']
  | false =>
    cases hn : namedQ p with
    | true =>
      cases qs.find? (nameIs p.name) <;> simp
    | false =>
      have hb' := hb
      unfold byPl at hb'
      have h2 : (p.kind == 2) = false := by simp; omega
      simp [place1, hb', h2]

theorem give_shape {s : Sig} {pl : List Int} {qs : List Pair} {i : Nat} {p : Param} (h : singleQ p = true) :
    ((giveQ s pl qs i p).given = true → giveQ s pl qs i p = ⟨true, [hd0 (giveQ s pl qs i p).list], []⟩) ∧ ((giveQ s pl qs i p).given = false → giveQ s pl qs i p = zL) := by
  rw [give_single h]
  split
  · simp [hd0]
  · split
    · split
      · simp [hd0]
      · simp [zL]
    · simp [zL]

theorem give_vals {s : Sig} {f : Flat} (hf : OkF f) {i : Nat} {p : Param} : ∀ v ∈ (giveQ s f.places f.named i p).list, okVal v = true := by
  intro v hv
  unfold giveQ at hv
  split at hv
  · simp at hv
  · split at hv
    · split at hv
      · rename_i q hq
        simp only [List.mem_singleton] at hv
        subst hv
        have := hf.pairs q (List.mem_of_find?_eq_some hq)
        simp only [okPair, Bool.and_eq_true] at this
        exact this.2
      · simp [zL] at hv
    · unfold place1 at hv
      split at hv
      · rename_i h1
        simp only [Bool.and_eq_true, decide_eq_true_eq] at h1
        simp only [List.mem_singleton] at hv
        subst hv
        rw [List.getD_eq_getElem?_getD, List.getElem?_eq_getElem h1.2]
        exact hf.vals _ (List.getElem_mem h1.2)
      · split at hv
        · exact hf.vals v (List.mem_of_mem_drop hv)
        · simp [zL] at hv

section

variable {s : Sig} {f : Flat} {b : Bnds}

theorem Given.unb (h : Given s f b) : ∃ op V R X Y, UnbAt s b s.length (unbQ s b) op V R X Y := by
  obtain ⟨F, op, V, R, X, Y, hfold, I⟩ := h.unbAt s.length (Nat.le_refl _)
  refine ⟨op, V, R, X, Y, ?_⟩
  have : unbQ s b = F := by
    unfold unbQ
    rw [List.take_of_length_le (by simp [h.len])] at hfold
    rw [hfold]
  rw [this]; exact I

theorem Given.gap (h : Given s f b) {op : Bool} {V R : List Int} {X Y : List Pair} {F : Flat} (I : UnbAt s b s.length F op V R X Y) (hlt : V.length < placesQ s) :
    f.places.length ≤ V.length ∧ R = [] ∧ ∀ x, b[V.length]? = some x → x.given = false := by
  have hPl := placesQ_le s
  have ho : op = false := by
    cases ho : op with
    | false => rfl
    | true => have := I.opn ho; omega
  obtain ⟨a1, a2, a3⟩ := I.shut ho
  obtain ⟨q, hq⟩ := at_some (xs := s) (i := V.length) (by omega)
  have hpl := (h.sig.placed_iff hq).2 hlt
  have hg := a3 _ (h.get hq)
  rw [give_given (by rw [single_kind]; rw [placed_kind] at hpl; omega)] at hg
  simp only [Bool.or_eq_false_iff] at hg
  have hle : f.places.length ≤ V.length := by
    have := hg.1
    unfold byPl at this
    rw [hpl] at this
    simpa using this
  refine ⟨hle, ?_, a3⟩
  by_cases h2 : ∃ (j : Nat) (p : Param), s[j]? = some p ∧ p.kind = 2
  · obtain ⟨j, p, hp, hk⟩ := h2
    rw [I.rest j p _ (lt_of_some hp) hp (h.get hp) hk, give_rest hk]
    exact List.drop_eq_nil_of_le (by omega)
  · exact I.rest0 fun j p _ hp hk => h2 ⟨j, p, hp, hk⟩

theorem Given.mapOf (h : Given s f b) {op : Bool} {V R : List Int} {X Y : List Pair} {F : Flat} (I : UnbAt s b s.length F op V R X Y) {q : Pair} (hq : q ∈ Y) :
    ∃ (j : Nat) (p : Param), s[j]? = some p ∧ p.kind = 4 ∧ takesQ s q.name = (j : Int) ∧ q ∈ f.named := by
  by_cases h4 : ∃ (j : Nat) (p : Param), s[j]? = some p ∧ p.kind = 4
  · obtain ⟨j, p, hp, hk⟩ := h4
    have hY := I.map j p _ (lt_of_some hp) hp (h.get hp) hk
    unfold giveQ at hY
    rw [if_pos hk] at hY
    simp only at hY
    rw [hY, List.mem_filter] at hq
    exact ⟨j, p, hp, hk, by simpa using hq.2, hq.1⟩
  · have := I.map0 fun j p _ hp hk => h4 ⟨j, p, hp, hk⟩
    rw [this] at hq; cases hq

theorem Given.again (h : Given s f b) : Given s (unbQ s b) b := by
  obtain ⟨op, V, R, X, Y, I⟩ := h.unb
  have hPl := placesQ_le s
  have hsl := h.sig.len
  have hfp := h.flat.places
  have hfn := h.flat.named
  have hV : V.length ≤ placesQ s := by have := I.vlen; omega
  have gap := fun hlt => h.gap I hlt
  have xmem : ∀ q ∈ X, ∃ (j : Nat) (p : Param), s[j]? = some p ∧ namedQ p = true ∧ q.name = p.name ∧ (giveQ s f.places f.named j p).given = true ∧ (p.kind = 3 ∨ (p.kind = 1 ∧ V.length < j)) ∧ q.value = hd0 (giveQ s f.places f.named j p).list := fun q hq => by
    obtain ⟨j, p, x, _, hp, hx, hg, hk, rfl⟩ := (I.mem q).1 hq
    have := h.at hp hx
    subst this
    exact ⟨j, p, hp, named_kind.2 (by omega), rfl, hg, hk, rfl⟩
  have hRsub : ∀ v ∈ R, okVal v = true := fun v hv => by
    by_cases h2 : ∃ (j : Nat) (p : Param), s[j]? = some p ∧ p.kind = 2
    · obtain ⟨j, p, hp, hk⟩ := h2
      rw [I.rest j p _ (lt_of_some hp) hp (h.get hp) hk] at hv
      exact give_vals h.flat v hv
    · rw [I.rest0 fun j p _ hp hk => h2 ⟨j, p, hp, hk⟩] at hv; cases hv
  have hRlen : V.length + R.length ≤ 8 := by
    by_cases h2 : ∃ (j : Nat) (p : Param), s[j]? = some p ∧ p.kind = 2
    · obtain ⟨j, p, hp, hk⟩ := h2
      have hR := I.rest j p _ (lt_of_some hp) hp (h.get hp) hk
      rw [give_rest hk] at hR
      have : R.length = f.places.length - placesQ s := by rw [hR]; simp
      omega
    · rw [I.rest0 fun j p _ hp hk => h2 ⟨j, p, hp, hk⟩]; simp; omega
  have hdis : ∀ q ∈ X, ∀ r ∈ Y, q.name ≠ r.name := fun q hq r hr he => by
    obtain ⟨j, p, hp, hn, hqn, _⟩ := xmem q hq
    obtain ⟨k, p', hp', hk', ht, _⟩ := h.mapOf I hr
    have := takes_named h.sig hp hn
    rw [← hqn, he, ht] at this
    have hjk : k = j := by omega
    subst hjk
    rw [hp] at hp'; cases hp'
    rw [named_kind] at hn; omega
  have hYnd : (namesOf Y).Nodup := by
    by_cases h4 : ∃ (j : Nat) (p : Param), s[j]? = some p ∧ p.kind = 4
    · obtain ⟨j, p, hp, hk⟩ := h4
      have hY := I.map j p _ (lt_of_some hp) hp (h.get hp) hk
      unfold giveQ at hY
      rw [if_pos hk] at hY
      simp only at hY
      rw [hY]
      exact h.flat.nodup.sublist (List.filter_sublist.map _)
    · rw [I.map0 fun j p _ hp hk => h4 ⟨j, p, hp, hk⟩]; simp [namesOf]
  have hnd : (namesOf (X ++ Y)).Nodup := by
    unfold namesOf
    rw [List.map_append]
    refine List.nodup_append.2 ⟨I.nodup, hYnd, fun a ha c hc he => ?_⟩
    obtain ⟨q, hq, rfl⟩ := List.mem_map.1 ha
    obtain ⟨r, hr, rfl⟩ := List.mem_map.1 hc
    exact hdis q hq r hr he
  have xnamed : ∀ q ∈ X, q.name ∈ namesOf f.named := fun q hq => by
    obtain ⟨j, p, hp, hn, hqn, hg, hk, _⟩ := xmem q hq
    rw [give_given (single_kind.2 (by omega))] at hg
    simp only [Bool.or_eq_true, Bool.and_eq_true] at hg
    rcases hg with hg | hg
    · exfalso
      simp only [byPl, Bool.and_eq_true, decide_eq_true_eq] at hg
      have hjP := (h.sig.placed_iff hp).1 hg.1
      rcases hk with hk | ⟨hk, hl⟩
      · have := hg.1; rw [placed_kind] at this; omega
      · have := (gap (by omega)).1; omega
    · rw [hqn]; exact any_names.1 hg.2
  have hU : OkF (unbQ s b) := by
    refine ⟨fun q hq => ?_, by rw [I.named]; exact hnd, fun v hv => ?_, by rw [I.places, List.length_append]; exact hRlen, ?_⟩
    · rw [I.named] at hq
      rcases List.mem_append.1 hq with hq | hq
      · obtain ⟨j, p, hp, hn, hqn, hg, hk, hv⟩ := xmem q hq
        have h1 := h.sig.okName (List.mem_of_getElem? hp)
        have h2 := (give_shape (s := s) (pl := f.places) (qs := f.named) (i := j) (p := p) (single_kind.2 (by omega))).1 hg
        have h3 := give_vals (s := s) h.flat (i := j) (p := p) (hd0 (giveQ s f.places f.named j p).list) (by rw [h2]; simp [hd0])
        simp [okPair, hqn, h1, hv, h3]
      · obtain ⟨_, _, _, _, _, hm⟩ := h.mapOf I hq
        exact h.flat.pairs q hm
    · rw [I.places] at hv
      rcases List.mem_append.1 hv with hv | hv
      · obtain ⟨j, hj⟩ := List.getElem?_of_mem hv
        have hjl := lt_of_some hj
        obtain ⟨p, hp⟩ := at_some (xs := s) (i := j) (by omega)
        obtain ⟨a1, a2⟩ := I.vals j _ hjl (h.get hp)
        have hpl := (h.sig.placed_iff hp).2 (by omega)
        have hsg : singleQ p = true := by rw [single_kind]; rw [placed_kind] at hpl; omega
        have h2 := (give_shape (s := s) (pl := f.places) (qs := f.named) (i := j) (p := p) hsg).1 a1
        rw [hj] at a2
        cases a2
        exact give_vals (s := s) h.flat (i := j) (p := p) _ (by rw [h2]; simp [hd0])
      · exact hRsub v hv
    · rw [I.named]
      have := sub_length (namesOf (X ++ Y)) (namesOf f.named) hnd fun n hn => by
        unfold namesOf at hn
        rw [List.map_append] at hn
        rcases List.mem_append.1 hn with hn | hn
        · obtain ⟨q, hq, rfl⟩ := List.mem_map.1 hn
          exact xnamed q hq
        · obtain ⟨q, hq, rfl⟩ := List.mem_map.1 hn
          obtain ⟨_, _, _, _, _, hm⟩ := h.mapOf I hq
          exact List.mem_map_of_mem hm
      simp only [namesOf, List.length_map] at this
      omega
  have hplU : ∀ (i : Nat) (p : Param), s[i]? = some p → placedQ p = true → (i < (unbQ s b).places.length ↔ i < V.length) := fun i p hp hpl => by
    have hiP := (h.sig.placed_iff hp).1 hpl
    rw [I.places, List.length_append]
    constructor
    · intro hi
      refine Classical.byContradiction fun hc => ?_
      have := (gap (by omega)).2.1
      rw [this] at hi
      simp at hi; omega
    · omega
  have hB : ∀ (i : Nat) (p : Param), s[i]? = some p → giveQ s (unbQ s b).places (unbQ s b).named i p = giveQ s f.places f.named i p := fun i p hp => by
    have hkr := h.sig.kindRange (List.mem_of_getElem? hp)
    by_cases hk4 : p.kind = 4
    · have hY := I.map i p _ (lt_of_some hp) hp (h.get hp) hk4
      have e1 : ∀ qs pl, giveQ s pl qs i p = ⟨false, [], qs.filter fun q => takesQ s q.name == (i : Int)⟩ := fun qs pl => by unfold giveQ; rw [if_pos hk4]
      rw [e1] at hY
      simp only at hY
      rw [e1, e1, I.named, List.filter_append]
      have hX : X.filter (fun q => takesQ s q.name == (i : Int)) = [] := by
        rw [List.filter_eq_nil_iff]
        intro q hq ht
        obtain ⟨j, r, hr, hn, hqn, _⟩ := xmem q hq
        have := takes_named h.sig hr hn
        rw [← hqn] at this
        simp only [beq_iff_eq] at ht
        have hij : i = j := by omega
        subst hij
        rw [hp] at hr; cases hr
        rw [named_kind] at hn; omega
      rw [hX, List.nil_append, hY, List.filter_filter]
      simp
    by_cases hk2 : p.kind = 2
    · have hR := I.rest i p _ (lt_of_some hp) hp (h.get hp) hk2
      rw [give_rest hk2] at hR
      simp only at hR
      rw [give_rest hk2, give_rest hk2, I.places, ← hR]
      congr 1
      by_cases hlt : V.length < placesQ s
      · rw [(gap hlt).2.1, List.append_nil]; exact List.drop_eq_nil_of_le (by omega)
      · rw [show placesQ s = V.length by omega, List.drop_left]
    have hsg : singleQ p = true := single_kind.2 (by omega)
    have hsh := give_shape (s := s) (pl := f.places) (qs := f.named) (i := i) (p := p) hsg
    have hget := h.get hp
    generalize giveQ s f.places f.named i p = g at hsh hget ⊢
    rw [give_single hsg]
    by_cases hb : byPl (unbQ s b).places i p = true
    · rw [if_pos hb]
      simp only [byPl, Bool.and_eq_true, decide_eq_true_eq] at hb
      have hiV := (hplU i p hp hb.1).1 hb.2
      obtain ⟨a1, a2⟩ := I.vals i g hiV hget
      rw [hsh.1 a1]
      have : (unbQ s b).places.getD i 0 = hd0 g.list := by
        rw [List.getD_eq_getElem?_getD, I.places, List.getElem?_append_left hiV, a2]; rfl
      rw [this]
    · rw [if_neg hb]
      have hnV : placedQ p = true → V.length ≤ i := fun hpl => Nat.le_of_not_lt fun h0 => hb (by
        simp only [byPl, Bool.and_eq_true, decide_eq_true_eq]; exact ⟨hpl, (hplU i p hp hpl).2 h0⟩)
      have hgap : placedQ p = true → g.given = true → V.length < i := fun hpl hg => by
        have h1 := hnV hpl
        have hiP := (h.sig.placed_iff hp).1 hpl
        have h2 := (gap (by omega)).2.2
        refine Classical.byContradiction fun hc => ?_
        have : i = V.length := by omega
        have := h2 g (by rw [← this]; exact hget)
        rw [hg] at this; cases this
      cases hg : g.given with
      | true =>
        have hk : p.kind = 3 ∨ (p.kind = 1 ∧ V.length < i) := by
          by_cases hk3 : p.kind = 3
          · exact .inl hk3
          · have hpl : placedQ p = true := by rw [placed_kind]; rw [single_kind] at hsg; omega
            have hVi := hgap hpl hg
            refine .inr ⟨?_, hVi⟩
            refine Classical.byContradiction fun hk1 => ?_
            have hk0 : p.kind = 0 := by rw [placed_kind] at hpl; omega
            have hiP := (h.sig.placed_iff hp).1 hpl
            obtain ⟨q, hq⟩ := at_some (xs := s) (i := V.length) (by omega)
            have hgi : (giveQ s f.places f.named i p).given = true := by rw [← h.at hp hget]; exact hg
            have hgq := h.before hp hq hk0 hVi hgi
            have := (gap (by omega)).2.2 _ (h.get hq)
            rw [hgq] at this; cases this
        have hn : namedQ p = true := named_kind.2 (by omega)
        rw [if_pos hn]
        have hm : (⟨p.name, hd0 g.list⟩ : Pair) ∈ X := (I.mem _).2 ⟨i, p, g, lt_of_some hp, hp, hget, hg, hk, rfl⟩
        have hf := find_uniq (qs := (unbQ s b).named) (q := ⟨p.name, hd0 g.list⟩) hU.nodup (by rw [I.named]; exact List.mem_append_left _ hm)
        simp only at hf
        rw [hf]
        exact (hsh.1 hg).symm
      | false =>
        rw [hsh.2 hg]
        split
        · rename_i hn
          have : (unbQ s b).named.find? (nameIs p.name) = none := by
            rw [List.find?_eq_none]
            intro q hq hqn
            simp only [nameIs, beq_iff_eq] at hqn
            rw [I.named] at hq
            rcases List.mem_append.1 hq with hq | hq
            · obtain ⟨j, r, x, _, hr, hx, hgx, _, rfl⟩ := (I.mem q).1 hq
              have hji := name_inj h.sig hr hp hqn
              subst hji
              rw [hget] at hx; cases hx
              rw [hg] at hgx; cases hgx
            · obtain ⟨j, r, hr, hk, ht, _⟩ := h.mapOf I hq
              have := takes_named h.sig hp hn
              rw [← hqn, ht] at this
              have hji : j = i := by omega
              subst hji
              rw [hp] at hr; cases hr
              exact hk4 hk
          rw [this]
        · rfl
  have hacc : accQ s (unbQ s b) = true := by
    have hf3 := ((acc_iff h.sig h.flat).1 h.acc).2.2
    refine (acc_iff h.sig hU).2 ⟨fun hlt => ?_, fun q hq => ?_, ?_⟩
    · by_cases h2 : ∃ (j : Nat) (p : Param), s[j]? = some p ∧ p.kind = 2
      · obtain ⟨j, p, hp, hk⟩ := h2
        exact List.any_eq_true.2 ⟨p, List.mem_of_getElem? hp, by simp [kIs, hk]⟩
      · have hR := I.rest0 fun j p _ hp hk => h2 ⟨j, p, hp, hk⟩
        rw [I.places, hR] at hlt
        simp at hlt; omega
    · rw [wrong_iff2 h.sig]
      rw [I.named] at hq
      rcases List.mem_append.1 hq with hq | hq
      · obtain ⟨j, p, hp, hn, hqn, hg, hk, hv⟩ := xmem q hq
        refine ⟨.inl ⟨j, p, hp, hn, hqn.symm⟩, fun i r hr hrn hre => ?_⟩
        have hij := name_inj h.sig hr hp (by rw [hre, hqn])
        subst hij
        rw [hp] at hr; cases hr
        unfold byPl
        cases hpl : placedQ p with
        | false => rfl
        | true =>
          simp only [Bool.true_and, decide_eq_false_iff_not]
          rw [hplU i p hp hpl]
          rcases hk with hk | ⟨hk, hl⟩
          · rw [placed_kind] at hpl; omega
          · omega
      · obtain ⟨j, r, hr, hk, ht, _⟩ := h.mapOf I hq
        refine ⟨.inr ⟨r, List.mem_of_getElem? hr, hk⟩, fun i p hp hn he => ?_⟩
        have := takes_named h.sig hp hn
        rw [he, ht] at this
        have hji : j = i := by omega
        subst hji
        rw [hp] at hr; cases hr
        rw [named_kind] at hn; omega
    · have : s.mapIdx (giveQ s (unbQ s b).places (unbQ s b).named) = s.mapIdx (giveQ s f.places f.named) := by
        apply List.ext_getElem?
        intro i
        rw [List.getElem?_mapIdx, List.getElem?_mapIdx]
        cases hp : s[i]? with
        | none => rfl
        | some p => simp only [Option.map_some, hB i p hp]
      rw [this]; exact hf3
  refine ⟨h.sig, hU, hacc, ?_⟩
  rw [bound_closed h.sig hU.nodup]
  apply List.ext_getElem?
  intro i
  simp only [closedQ, List.getElem?_mapIdx]
  cases hp : s[i]? with
  | none =>
    have : s.length ≤ i := by rw [List.getElem?_eq_none_iff] at hp; exact hp
    rw [List.getElem?_eq_none (by rw [h.len]; exact this)]; rfl
  | some p => simp only [Option.map_some, hB i p hp, h.get hp]

end

/-- What lies behind the rows that a result speaks of is forgotten. -/
theorem ACalls.trim {X : Pk} {f : FuncId} {args : List T} {esz : Nat} {A B : List (List C)} {k : Nat} (hk : k = A.length) (hA : noOwnR A = true)
    (h : ACalls X f args [] (fun r o => r = .one (.os 0 0 k k) ∧ o = [some ⟨esz, A ++ B, true, false, false⟩])) :
    ACalls X f args [] (fun r o => r = .one (.os 0 0 k k) ∧ o = [some ⟨esz, A, true, false, false⟩]) := by
  refine ⟨h.1, fun D e w vals hS hT hb => (h.2 D e w vals hS hT hb).mono ?_⟩
  rintro en w' ⟨v, r, o', D', e', rfl, ⟨rfl, rfl⟩, hr, hS', hE, hW, hD, he, hl⟩
  obtain ⟨a, cap, n, he0, hn, hcl, hob⟩ := hS'.objs 0 _ rfl
  have hlen : e'.length = 1 := by rw [hS'.len]; rfl
  have hel : e.length = 0 := by rw [hS.len]; rfl
  have hee : e' = [.live a esz cap n] := by
    match e', hlen with
    | [x], _ => simp only [List.getElem?_cons_zero, Option.some.injEq] at he0; rw [he0]
  subst hee
  refine ⟨v, _, _, D', [.live a esz cap A.length], rfl, ⟨rfl, rfl⟩, ?_, ?_, hE, ?_, hD, fun id hid => by omega, by simp [hel]⟩
  · simp only [TR, CR, List.getElem?_cons_zero] at hr ⊢
    obtain ⟨A', c, rfl, h1, h2, _, h4⟩ := hr
    exact ⟨A', c, rfl, h1, h2, by omega, h4⟩
  · refine ⟨rfl, ?_, ?_, ?_, hS'.dom⟩
    · intro id ob hid
      cases id with
      | succ id => simp at hid
      | zero =>
        simp only [List.getElem?_cons_zero, Option.some.injEq] at hid
        subst hid
        refine ⟨a, cap, A.length, rfl, rfl, fun _ => hA, ?_⟩
        cases a with
        | none =>
          simp only [List.append_eq_nil_iff] at hob
          exact ⟨hob.1.1, hob.2⟩
        | some b =>
          obtain ⟨h1, h2, cells, t, h3, h4, h5, h6⟩ := hob
          simp only [List.length_append] at hn
          refine ⟨h1, h2, cells, t, h3, by omega, h5, ?_⟩
          have key : ∀ (A B : List (List C)) (vs : List Value), noOwnR A = true → CRr D' w'.heap [.live (some b) esz cap n] esz (A ++ B) vs → CRr D' w'.heap [.live (some b) esz cap (A.length)] esz A vs := by
            intro A B vs hA' H
            refine CRr.env [.live (some b) esz cap n] _ esz A vs hA' ?_
            clear hA'
            induction A generalizing vs with
            | nil => simp [CRr]
            | cons x A ih =>
              simp only [List.cons_append, CRr] at H ⊢
              exact ⟨H.1, H.2.1, ih _ H.2.2⟩
          exact key A B _ hA h6
    · intro id b esz' cap' n' hid
      cases id with
      | succ id => simp at hid
      | zero =>
        simp only [List.getElem?_cons_zero, Option.some.injEq, ALoc.live.injEq] at hid
        obtain ⟨rfl, rfl, rfl, rfl⟩ := hid
        have h1 := hS'.own 0 b esz cap n rfl
        refine ⟨h1.1, fun hDb => ?_⟩
        obtain ⟨ob, h2, h3⟩ := h1.2 hDb
        simp only [List.getElem?_cons_zero, Option.some.injEq] at h2
        subst h2
        simp at h3
    · intro id id' b1 b2 _ _ _ _ _ _ h1 h2 _
      have := (List.getElem?_eq_some_iff.1 h1).1
      have := (List.getElem?_eq_some_iff.1 h2).1
      simp at *
      omega
  · intro id b esz' cap' n' hid
    cases id with
    | succ id => simp at hid
    | zero =>
      simp only [List.getElem?_cons_zero, Option.some.injEq, ALoc.live.injEq] at hid
      obtain ⟨rfl, rfl, rfl, rfl⟩ := hid
      exact hW 0 b esz cap n rfl

theorem clipSO_ct (n kc : Nat) (rows : List (List C)) (hn : n ≤ rows.length) (hk : n ≤ kc) (hl : kc ≤ 1048576) :
    ACalls pk 82 [.one (.os 0 0 n kc)] [some ⟨1, rows, true, false, false⟩] (fun r o => r = .one (.os 0 0 n n) ∧ o = [some ⟨1, rows, true, false, false⟩]) := by
  refine acalls_of_body Tryz.func82 rfl (by kernel_rfl) rfl ?_
  refine rn rfl ?_
  refine goal_did rfl rfl (dA_sliceOwn 0 n n 0 n n rfl rfl rfl rfl rfl rfl rfl Bnd.none_ (Bnd.some_ rfl rfl) (.inr ⟨by simp, by simp, Bnd.some_ rfl rfl⟩) (by omega) (by omega) hk (by simp; omega) rfl rfl rfl rfl) ?_
  exact rn rfl (fin_is [] rfl ⟨rfl, rfl⟩)

theorem iunionO_ct (a b : List Str) (hl : a.length + b.length ≤ 1000) : ACalls pk 77 [.one (.fs (a.map eS)), .one (.fs (b.map eS))] [] (fun r o => r = .one (.os 0 0 (uniqS (a ++ b)).length (uniqS (a ++ b)).length) ∧ o = [ownS (uniqS (a ++ b))]) := by
  refine ACalls.trim (B := (List.replicate ((a ++ b).length - (uniqS (a ++ b)).length) ([] : Str)).map eS) (by simp) (noOwnR_map _ eS_noOwn _) ?_
  have hc := concatS_ct [a, b] (by simp) (by simp; omega)
  have hfl : [a, b].flatten = a ++ b := by simp
  rw [hfl] at hc
  have hz : (a ++ b).length ≤ 1000 := by simp; omega
  have hu : uniqS (a ++ b) = compS (isortL ltS (a ++ b)) := rfl
  rw [hu]
  generalize a ++ b = zs at *
  have hil := isortL_length ltS zs
  have hcl := compS_length (isortL ltS zs)
  refine acalls_of_body Tryz.func77 rfl (by kernel_rfl) rfl ?_
  refine rn rfl ?_
  refine goal_step (step_call [] rfl rfl rfl rfl rfl rfl (hc)) ?_
  rintro σ2 ⟨r, o', ⟨rfl, rfl⟩, hσ⟩
  obtain rfl := Option.some.inj hσ
  clear hσ
  refine rn rfl ?_
  refine rn rfl ?_
  refine goal_step (step_call [1] rfl rfl rfl rfl rfl rfl (sortAll_ct zs zs.length (by omega))) ?_
  rintro σ2 ⟨r, o', ⟨rfl, rfl⟩, hσ⟩
  obtain rfl := Option.some.inj hσ
  clear hσ
  refine rn rfl ?_
  generalize isortL ltS zs = ys at *
  refine goal_step (step_callE [1] rfl rfl rfl rfl rfl rfl (congrArg (fun x => [T.one (.os 0 0 x zs.length)]) hil.symm) (compactS_ct ys zs.length (by omega) (by omega) (by omega))) ?_
  rintro σ2 ⟨r, o', ⟨rfl, rfl⟩, hσ⟩
  obtain rfl := Option.some.inj hσ
  clear hσ
  refine rn rfl ?_
  refine goal_step (step_call [1] rfl rfl rfl rfl rfl rfl (clipSO_ct (compS ys).length zs.length ((compS ys ++ List.replicate (ys.length - (compS ys).length) []).map eS) (by simp) (by omega) (by omega))) ?_
  rintro σ2 ⟨r, o', ⟨rfl, rfl⟩, hσ⟩
  obtain rfl := Option.some.inj hσ
  clear hσ
  refine rn rfl ?_
  rw [hil, List.map_append]
  exact rn rfl (fin_is [1] rfl ⟨rfl, rfl⟩)

theorem iunionAll_ct (a b : List Str) (hl : a.length + b.length ≤ 1000) : ACalls pk 77 [.one (.fs (a.map eS)), .one (.fs (b.map eS))] [] (fun r o => r = .one (.fs ((uniqS (a ++ b)).map eS)) ∧ o = []) :=
  (iunionO_ct a b hl).told [] (by rintro r o ⟨rfl, rfl⟩; exact ⟨_, _, rfl, congrArg (fun x => T.one (C.fs x)) (takeAll eS _ _ rfl), rfl⟩)

section

variable {X : Pk} {N np : Nat} {σ : State}

/-- string(r), r a letter of ASCII. -/
theorem dA_ofRune {o : Oper} {x : Operand} {t t2 : TypeId} {kk : IntKind} {n : Int} (c : UInt8) {ti ti2 : TI}
    (ho : o.op = .convert t t2 x) (hx : evalO σ x = .one (.int kk n)) (hti : findTI X.L t = some ti) (hk : ti.kind = 4) (hti2 : findTI X.L t2 = some ti2) (hk2 : ti2.kind = 1)
    (hd : dstB N o.dst = true) (hn : n = (c.toNat : Int)) (hc : c.toNat < 128) : DidA X N np o (.q none) σ (putS o.dst (.one (.str [c])) σ) := fun {G D e a w} H => by
  have hxv := one_int (hx ▸ H.ev x)
  have hu := (X.tiok hti).int hk
  have hu2 := (X.tiok hti2).string hk2
  have hen : Utf8.encode n = ⟨#[c]⟩ := by
    subst hn
    have hv : Utf8.valid ((c.toNat : Nat) : Int) = true := by simp [Utf8.valid]; omega
    unfold Utf8.encode
    rw [hv]
    simp only [if_true, Int.toNat_natCast]
    rw [if_pos (by omega)]
    simp
  refine Did.pure H (v := .string ⟨#[c]⟩) (fun w _ => ?_) (by simp only [TR, CR]) (putS_eq hd)
  simp [execOp, ho, hxv, Go.convert, run_underlying hu, run_underlying hu2, Conv.intToString, hen]

end

def trimR (c : UInt8) (s : Str) : Str := (s.reverse.dropWhile (fun x => x == c)).reverse

theorem trimR_snoc (c x : UInt8) (s : Str) : trimR c (s ++ [x]) = if x == c then trimR c s else s ++ [x] := by
  unfold trimR
  rw [List.reverse_append, List.reverse_singleton, List.singleton_append, List.dropWhile_cons]
  split <;> simp

theorem trimByte_ct (s : Str) (c : UInt8) (hl : s.length ≤ 1048576) : ACalls pk 118 [.one (.str s), .one (.int .u8 c.toNat)] [] (fun r o => r = .one (.str (trimR c s)) ∧ o = []) := by
  refine acalls_of_body Tryz.func118 rfl (by kernel_rfl) rfl ?_
  refine rn rfl ?_
  refine goal_loop_keep (fun m σ => ∃ t : Str, m = t.length ∧ t.length ≤ s.length ∧ trimR c t = trimR c s ∧ σ = ⟨[(1, .one (.int .u8 c.toNat)), (0, .one (.str t))], [], []⟩) s.length [1, 0] [] rfl
    ⟨s, rfl, Nat.le_refl _, rfl, rfl⟩ ?_
  rintro m σ ⟨t, rfl, htl, htr, rfl⟩
  refine rn rfl ?_
  refine goal_guard rfl rfl rfl (fun h => ?_) (fun h => ?_) <;> (try simp only [gt_iff_lt, ge_iff_le, bne_iff_ne, ne_eq, bne_eq_false_iff_eq, beq_iff_eq, beq_eq_false_iff_ne, Bool.not_eq_true', Bool.not_eq_false', decide_eq_true_eq, decide_eq_false_iff_not, List.length_map] at h)
  · obtain ⟨t', x, rfl⟩ : ∃ t' x, t = t' ++ [x] := by
      rcases List.eq_nil_or_concat t with h0 | ⟨t', x, h0⟩
      · subst h0; simp at h
      · exact ⟨t', x, by simpa using h0⟩
    have hw : IntKind.i64.wrap (((t' ++ [x]).length : Int) - 1) = t'.length := by rw [wrap64] <;> simp <;> simp at htl <;> omega
    have hx : (t' ++ [x])[t'.length]? = some x := by simp
    rw [trimR_snoc] at htr
    refine rn rfl ?_
    refine goal_did rfl rfl (dA_strIndex x rfl rfl rfl rfl rfl rfl (by rw [hw]; omega) (by rw [hw]; simp)) ?_
    refine rn rfl ?_
    refine goal_cond rfl (fun h2 => ?_) (fun h2 => ?_)
    · have hxc : x = c := by
        simp only [beq_iff_eq] at h2
        exact UInt8.toNat_inj.1 (by omega)
      rw [if_pos (by simp [hxc])] at htr
      refine rn rfl ?_
      refine goal_did rfl rfl (dA_strSlice 0 t'.length t' rfl rfl rfl rfl Bnd.none_ (Bnd.some_ rfl hw) (by omega) (by simp) rfl (by simp)) ?_
      refine rn rfl ?_
      refine round_keep t'.length [1, 0] [] (by simp) rfl ⟨t', rfl, by simp at htl; omega, htr, rfl⟩
    · have hxc : ¬ x = c := fun h0 => by subst h0; simp at h2
      rw [if_neg (by simpa using hxc)] at htr
      refine rn rfl (round_ext ?_)
      rw [← htr]
      exact rn rfl (fin_is [] rfl ⟨rfl, rfl⟩)
  · have ht0 : t = [] := by
      cases t with
      | nil => rfl
      | cons a l => exfalso; simp at h
    subst ht0
    refine rn rfl (round_ext ?_)
    rw [← htr]
    exact rn rfl (fin_is [] rfl ⟨rfl, rfl⟩)

theorem trimRight_ct (s : Str) (c : UInt8) (hl : s.length ≤ 1048576) (hc : c.toNat < 128) (hs : s ≠ []) : ACalls pk 96 [.one (.str s), .one (.str [c])] [] (fun r o => r = .one (.str (trimR c s)) ∧ o = []) := by
  refine acalls_of_body Tryz.func96 rfl (by kernel_rfl) rfl ?_
  refine rn rfl ?_
  refine goal_guard rfl rfl rfl (fun h => by simp at h; exact absurd h hs) (fun _ => ?_)
  refine rn rfl ?_
  refine goal_cond rfl (fun h => by simp at h) (fun _ => ?_)
  refine rn rfl ?_
  refine goal_guard rfl rfl rfl (fun _ => ?_) (fun h => by simp at h)
  refine rn rfl ?_
  refine goal_did rfl rfl (dA_strIndex c rfl rfl rfl rfl rfl rfl (by omega) rfl) ?_
  refine rn rfl ?_
  refine goal_cond rfl (fun _ => ?_) (fun h => by simp at h; omega)
  refine rn rfl ?_
  refine goal_did rfl rfl (dA_strIndex c rfl rfl rfl rfl rfl rfl (by omega) rfl) ?_
  refine rn rfl ?_
  refine goal_step (step_call [] rfl rfl rfl rfl rfl rfl (trimByte_ct s c hl)) ?_
  rintro σ2 ⟨r, o', ⟨rfl, rfl⟩, hσ⟩
  obtain rfl := Option.some.inj hσ
  clear hσ
  refine rn rfl ?_
  exact rn rfl (fin_is [] rfl ⟨rfl, rfl⟩)

theorem growQ_ct (n : Nat) (hn : n ≤ 4194304) : ACalls pk 70 [.one nilSl, .one (.int .i64 n)] [] (fun r o => ∃ rows kc, r = .one (.os 0 0 0 kc) ∧ o = [some ⟨4, rows, true, false, false⟩] ∧ (n = 0 → rows = [] ∧ kc = 0)) := by
  have hw : IntKind.i64.wrap ((n : Int) - IntKind.i64.wrap (0 - 0)) = n := by rw [show IntKind.i64.wrap (0 - 0) = 0 from rfl, wrap64] <;> omega
  refine acalls_of_body Tryz.func70 rfl (by kernel_rfl) rfl ?_
  refine rn rfl ?_
  refine goal_cond rfl (fun h => ?_) (fun h => ?_) <;> (try simp only [gt_iff_lt, ge_iff_le, bne_iff_ne, ne_eq, bne_eq_false_iff_eq, beq_iff_eq, beq_eq_false_iff_ne, Bool.not_eq_true', Bool.not_eq_false', decide_eq_true_eq, decide_eq_false_iff_not, List.length_map] at h)
  · omega
  · refine rn rfl ?_
    refine goal_did rfl rfl (dA_capNil rfl rfl rfl rfl rfl) ?_
    refine rn rfl ?_
    rw [hw]
    refine goal_cond rfl (fun h2 => ?_) (fun h2 => ?_) <;> (try simp only [gt_iff_lt, ge_iff_le, bne_iff_ne, ne_eq, bne_eq_false_iff_eq, beq_iff_eq, beq_eq_false_iff_ne, Bool.not_eq_true', Bool.not_eq_false', decide_eq_true_eq, decide_eq_false_iff_not, List.length_map] at h2)
    · refine rn rfl ?_
      refine goal_did rfl rfl (dA_capNil rfl rfl rfl rfl rfl) ?_
      refine rn rfl ?_
      refine goal_did rfl rfl (dA_sliceNil rfl rfl rfl rfl rfl rfl rfl) ?_
      refine rn rfl ?_
      refine goal_did rfl rfl (dA_growMake n (List.replicate n (eQ zQ)) rfl rfl rfl (by omega) rfl rfl rfl rfl rfl rfl rfl rfl (by show n * 40 ≤ _; omega) (by omega) rfl) ?_
      refine rn rfl ?_
      refine goal_did rfl rfl (dA_sliceOwn 0 0 n 0 0 n rfl rfl rfl rfl rfl rfl rfl Bnd.none_ (Bnd.some_ rfl rfl) (.inl ⟨rfl, rfl⟩) (by omega) (by omega) (by omega) (by simp) rfl rfl rfl rfl) ?_
      refine rn rfl ?_
      exact fin_is [0] rfl ⟨_, _, rfl, rfl, fun h0 => by omega⟩
    · refine rn rfl ?_
      exact fin_adopt 4 0 4 [0] rfl ⟨_, _, rfl, rfl, fun _ => ⟨rfl, rfl⟩⟩

theorem concatQ_ct (xss : List (List Param)) (hn : xss.length ≤ 1000) (hl : xss.flatten.length ≤ 4194304) :
    ACalls pk 40 [.one (.fs (xss.map fun xs => [.fs (xs.map eQ)]))] [] (fun r o => r = .one (.os 0 0 xss.flatten.length xss.flatten.length) ∧ o = [ownQ xss.flatten]) := by
  have hpre : ∀ i, (xss.take i).flatten.length ≤ xss.flatten.length := fun i => by
    conv => rhs; rw [← List.take_append_drop i xss, List.flatten_append, List.length_append]
    omega
  have hsucc : ∀ (i : Nat) (xs : List Param), xss[i]? = some xs → (xss.take (i + 1)).flatten = (xss.take i).flatten ++ xs := fun i xs h => by
    rw [← take_snoc' h, List.flatten_append]; simp
  refine acalls_of_body Tryz.func40 rfl (by kernel_rfl) rfl ?_
  refine rn rfl ?_
  refine goal_loop_keep (fun m σ => ∃ (n L q : Int) (i : Nat), n = i ∧ L = xss.length ∧ i ≤ xss.length ∧ m = xss.length - i ∧ q = ((xss.take i).flatten.length : Nat) ∧
      σ = ⟨[(11, .one (.int .i64 n)), (10, .one (.int .i64 L)), (9, .one (.fs (xss.map fun xs => [.fs (xs.map eQ)]))), (3, .one (.int .i64 q)), (0, .one (.fs (xss.map fun xs => [.fs (xs.map eQ)])))], [], []⟩) xss.length [11, 10, 9, 3, 0] [] rfl
    ⟨_, _, _, 0, rfl, by simp, by omega, by omega, rfl, rfl⟩ ?_
  rintro m σ ⟨n, L, q, i, rfl, rfl, hi, rfl, rfl, rfl⟩
  refine rn rfl ?_
  refine goal_cond rfl (fun h => ?_) (fun h => ?_) <;> (try simp only [gt_iff_lt, ge_iff_le, bne_iff_ne, ne_eq, bne_eq_false_iff_eq, beq_iff_eq, beq_eq_false_iff_ne, Bool.not_eq_true', Bool.not_eq_false', decide_eq_true_eq, decide_eq_false_iff_not, List.length_map] at h)
  · obtain ⟨xs, hxs⟩ := at_some (xs := xss) (i := i) (by omega)
    have h1 := hpre (i + 1)
    have h2 := hsucc i xs hxs
    rw [h2, List.length_append] at h1
    have hw : IntKind.i64.wrap (((xss.take i).flatten.length : Nat) + (xs.length : Int)) = (((xss.take i).flatten ++ xs).length : Nat) := by rw [List.length_append, wrap64] <;> omega
    refine rn rfl ?_
    refine goal_did rfl rfl (dA_index [.fs (xs.map eQ)] rfl rfl rfl rfl rfl rfl rfl (by omega) (by simp; omega) (map_at (enc := fun xs : List Param => [C.fs (xs.map eQ)]) (by simpa using hxs)) rfl) ?_
    refine rn rfl ?_
    refine goal_cond rfl (fun h0 => ?_) (fun _ => ?_)
    · simp only [List.length_map, decide_eq_true_eq] at h0; rw [hw] at h0; omega
    · refine rn rfl ?_
      refine round_keep (xss.length - (i + 1)) [11, 10, 9, 3, 0] [] (by omega) rfl ⟨_, _, _, i + 1, wrap64 (by omega) (by omega), rfl, by omega, rfl, ?_, rfl⟩
      rw [List.length_map, hw, h2]
  · rw [show i = xss.length by omega, List.take_length]
    refine rn rfl ?_
    refine round_ext ?_
    refine rn rfl ?_
    refine goal_step (step_callRaw rfl rfl rfl rfl rfl rfl (growQ_ct xss.flatten.length hl)) ?_
    rintro σ2 ⟨r, o', ⟨rows0, kc0, rfl, rfl, hz⟩, hσ⟩
    obtain rfl := Option.some.inj hσ
    clear hσ
    refine rn rfl ?_
    refine goal_loop_keep (fun m σ => ∃ (n L : Int) (i l kc : Nat) (rows : List (List C)), n = i ∧ L = xss.length ∧ i ≤ xss.length ∧ m = xss.length - i ∧ l = (xss.take i).flatten.length ∧ ((rows = (xss.take i).flatten.map eQ ∧ kc = l) ∨ (i = 0 ∧ rows = rows0 ∧ kc = kc0)) ∧
        σ = ⟨[(27, .one (.int .i64 n)), (26, .one (.int .i64 L)), (25, .one (.fs (xss.map fun xs => [.fs (xs.map eQ)]))), (6, .one (.os 0 0 l kc))], [some ⟨4, rows, true, false, false⟩], []⟩) xss.length [27, 26, 25, 6] [0] rfl
      ⟨_, ((xss.map fun xs => [C.fs (xs.map eQ)]).length : Int), 0, 0, kc0, rows0, rfl, by simp, by omega, by omega, rfl, .inr ⟨rfl, rfl, rfl⟩, rfl⟩ ?_
    rintro m σ ⟨n, L, i, l, kc, rows, rfl, rfl, hi, rfl, rfl, hrows, rfl⟩
    have hold : (xss.take i).flatten.map eQ = rows.take (xss.take i).flatten.length := by
      rcases hrows with ⟨rfl, _⟩ | ⟨rfl, _, _⟩
      · exact (List.take_of_length_le (by rw [List.length_map]; exact Nat.le_refl _)).symm
      · simp
    have hle : (xss.take i).flatten.length ≤ rows.length := by
      have := congrArg List.length hold
      simp only [List.length_map, List.length_take] at this; omega
    refine rn rfl ?_
    refine goal_cond rfl (fun h => ?_) (fun h => ?_) <;> (try simp only [gt_iff_lt, ge_iff_le, bne_iff_ne, ne_eq, bne_eq_false_iff_eq, beq_iff_eq, beq_eq_false_iff_ne, Bool.not_eq_true', Bool.not_eq_false', decide_eq_true_eq, decide_eq_false_iff_not, List.length_map] at h)
    · obtain ⟨xs, hxs⟩ := at_some (xs := xss) (i := i) (by omega)
      have h1 := hpre (i + 1)
      have h2 := hsucc i xs hxs
      rw [h2, List.length_append] at h1
      refine rn rfl ?_
      refine goal_did rfl rfl (dA_index [.fs (xs.map eQ)] rfl rfl rfl rfl rfl rfl rfl (by omega) (by simp; omega) (map_at (enc := fun xs : List Param => [C.fs (xs.map eQ)]) (by simpa using hxs)) rfl) ?_
      refine rn rfl ?_
      refine goal_did rfl rfl (dA_append (old := (xss.take i).flatten.map eQ) (rows := xs.map eQ) (((xss.take i).flatten ++ xs).map eQ) (((xss.take i).flatten ++ xs).length) true (Dst.own rfl rfl rfl rfl rfl hle hold) (Src.fs rfl) rfl rfl rfl rfl rfl rfl rfl rfl (rows_len eQ_len _) (rows_len eQ_len _) (by simp only [List.length_map]; show _ * 40 ≤ _; omega) (by simp only [List.length_map]; omega) (by rw [List.map_append]) (by rw [List.length_map]) (fun _ => noOwnR_map _ eQ_noOwn _)) ?_
      refine rn rfl ?_
      refine round_keep (xss.length - (i + 1)) [27, 26, 25, 6] [1] (by omega) rfl ⟨_, _, i + 1, ((xss.take i).flatten ++ xs).length, ((xss.take i).flatten ++ xs).length, ((xss.take i).flatten ++ xs).map eQ, wrap64 (by omega) (by omega), rfl, by omega, rfl, by rw [h2], .inl ⟨by rw [h2], rfl⟩, rfl⟩
    · rw [show i = xss.length by omega, List.take_length] at hrows hold ⊢
      refine rn rfl ?_
      refine round_ext ?_
      have hfin : rows = xss.flatten.map eQ ∧ kc = xss.flatten.length := by
        rcases hrows with hr | ⟨h0, hr, hk⟩
        · exact hr
        · have hx : xss = [] := List.eq_nil_of_length_eq_zero (by omega)
          subst hx
          obtain ⟨q1, q2⟩ := hz rfl
          exact ⟨by rw [hr, q1]; rfl, by rw [hk, q2]; rfl⟩
      obtain ⟨rfl, rfl⟩ := hfin
      exact rn rfl (fin_is [0] rfl ⟨rfl, rfl⟩)

def nextN (s : Str) : Str := if s.length < 6 then s ++ [97] else (trimR 122 s).take ((trimR 122 s).length - 1) ++ [(trimR 122 s).getLastD 0 + 1]

def nameAt : Nat → Str
  | 0 => [97]
  | i + 1 => nextN (nameAt i)

def nameFine (i : Nat) : Bool := decide (0 < (nameAt i).length) && decide ((nameAt i).length ≤ 6) && decide (0 < (trimR 122 (nameAt i)).length) && decide (((trimR 122 (nameAt i)).getLastD 0).toNat < 127)

theorem names_fine : (List.range 40).all nameFine = true := by kernel_rfl

theorem name_at {i : Nat} (h : i < 40) : 0 < (nameAt i).length ∧ (nameAt i).length ≤ 6 ∧ 0 < (trimR 122 (nameAt i)).length ∧ ((trimR 122 (nameAt i)).getLastD 0).toNat < 127 := by
  have := List.all_eq_true.1 names_fine i (List.mem_range.2 h)
  simp only [nameFine, Bool.and_eq_true, decide_eq_true_eq] at this
  exact ⟨this.1.1.1, this.1.1.2, this.1.2, this.2⟩

theorem trimR_len (c : UInt8) (s : Str) : (trimR c s).length ≤ s.length := by
  unfold trimR
  rw [List.length_reverse]
  refine Nat.le_trans (List.dropWhile_sublist _).length_le ?_
  simp

theorem someNames_ct (a b : Sig) (ha : SmallS a) (hb : SmallS b) : ACalls pk 76 [.agg (eG a), .agg (eG b)] [] (fun r o => ∃ L : List Str, L.length ≤ 60 ∧ (∀ n ∈ L, n.length ≤ 7) ∧ r = .one (.fs (L.map eS)) ∧ o = []) := by
  have hal := ha.len
  have hbl := hb.len
  have hc := concatQ_ct [a, b] (by simp) (by simp; omega)
  have hfl : [a, b].flatten = a ++ b := by simp
  rw [hfl] at hc
  have hz : (a ++ b).length ≤ 16 := by simp; omega
  have hzn : ∀ p ∈ a ++ b, p.name.length ≤ 7 := fun p hp => by
    rcases List.mem_append.1 hp with h | h
    · exact ha.names p h
    · exact hb.names p h
  generalize a ++ b = zs at *
  refine acalls_of_body Tryz.func76 rfl (by kernel_rfl) rfl ?_
  refine rn rfl ?_
  refine goal_step (step_call [] rfl rfl rfl rfl rfl rfl (hc)) ?_
  rintro σ2 ⟨r, o', ⟨rfl, rfl⟩, hσ⟩
  obtain rfl := Option.some.inj hσ
  clear hσ
  refine rn rfl ?_
  refine rn rfl ?_
  refine goal_weakCod (Weak.adopt 5 0 1) ?_
  refine goal_loop_keep (fun m σ => ∃ (q L : Int) (i l : Nat) (acc : List Str), q = i ∧ L = zs.length ∧ i ≤ zs.length ∧ m = zs.length - i ∧ l = acc.length ∧ acc.length = i ∧ (∀ n ∈ acc, n.length ≤ 7) ∧
      σ = ⟨[(18, .one (.int .i64 q)), (17, .one (.int .i64 L)), (16, .one (.os 0 0 zs.length zs.length)), (5, .one (.os 1 0 l l))], [ownQ zs, ownS acc], []⟩) zs.length [18, 17, 16, 5] [3, 4] rfl
    ⟨_, _, 0, 0, [], rfl, rfl, by omega, by omega, rfl, rfl, by simp, rfl⟩ ?_
  rintro m σ ⟨q, L, i, l, acc, rfl, rfl, hi, rfl, rfl, hal2, han, rfl⟩
  refine rn rfl ?_
  refine goal_cond rfl (fun h => ?_) (fun h => ?_) <;> (try simp only [gt_iff_lt, ge_iff_le, bne_iff_ne, ne_eq, bne_eq_false_iff_eq, beq_iff_eq, beq_eq_false_iff_ne, Bool.not_eq_true', Bool.not_eq_false', decide_eq_true_eq, decide_eq_false_iff_not, List.length_map] at h)
  · obtain ⟨p, hp⟩ := at_some (xs := zs) (i := i) (by omega)
    have hpn := hzn p (List.mem_of_getElem? hp)
    refine rn rfl ?_
    refine goal_did rfl rfl (dA_indexOwn rfl rfl rfl rfl rfl rfl rfl rfl rfl (by omega) (by (try simp); omega)) ?_
    refine goal_did rfl rfl (dA_loadEl (eQ p) rfl rfl rfl rfl (map_at (by simpa using hp)) rfl rfl rfl) ?_
    refine rn rfl ?_
    refine goal_did rfl rfl (dA_append (old := (acc).map eS) (rows := ([p.name] : List Str).map eS) (((acc) ++ ([p.name] : List Str)).map eS) (acc.length + 1) true (Dst.own rfl rfl rfl rfl rfl (by first | (simp; done) | (simp; omega)) (whole (by first | (simp; done) | (simp; omega)))) (Src.os rfl rfl (Nat.le_refl 1) rfl) rfl rfl rfl rfl rfl rfl rfl rfl (rows_len eS_len _) (rows_len eS_len _) (by (try simp only [List.length_map, List.length_append, List.length_cons, List.length_nil, List.length_take, List.length_drop]); show _ * 16 ≤ _; omega) (by first | (simp; done) | (simp; omega)) (by simp) (by first | (simp; done) | (simp; omega)) (fun _ => noOwnR_map _ eS_noOwn _)) ?_
    refine rn rfl ?_
    refine rn rfl ?_
    refine round_keep (zs.length - (i + 1)) [18, 17, 16, 5] [0, 4] (by omega) rfl ⟨_, _, i + 1, acc.length + 1, acc ++ [p.name], wrap64 (by omega) (by omega), rfl, by omega, rfl, by simp, by simp [hal2], fun n hn => ?_, rfl⟩
    rcases List.mem_append.1 hn with hn | hn
    · exact han n hn
    · simp only [List.mem_singleton] at hn; rw [hn]; exact hpn
  · refine rn rfl (round_ext ?_)
    refine rn rfl ?_
    refine goal_loop_keep (fun m σ => ∃ (q : Int) (i l : Nat) (acc : List Str), q = i ∧ i ≤ 40 ∧ m = 40 - i ∧ l = acc.length ∧ acc.length ≤ 16 + i ∧ (∀ n ∈ acc, n.length ≤ 7) ∧
        σ = ⟨[(28, .one (.int .i64 q)), (8, .one (.str (nameAt i))), (5, .one (.os 0 0 l l))], [ownS acc], []⟩) 40 [28, 8, 5] [1] rfl
      ⟨_, 0, acc.length, acc, rfl, by omega, by omega, rfl, by omega, han, rfl⟩ ?_
    rintro m σ ⟨q, k, l, ac, rfl, hk, rfl, rfl, hkl, hkn, rfl⟩
    refine rn rfl ?_
    refine goal_cond rfl (fun h2 => ?_) (fun h2 => ?_) <;> (try simp only [gt_iff_lt, ge_iff_le, bne_iff_ne, ne_eq, bne_eq_false_iff_eq, beq_iff_eq, beq_eq_false_iff_ne, Bool.not_eq_true', Bool.not_eq_false', decide_eq_true_eq, decide_eq_false_iff_not, List.length_map] at h2)
    · obtain ⟨n1, n2, n3, n4⟩ := name_at (i := k) (by omega)
      have hnx : nameAt (k + 1) = nextN (nameAt k) := rfl
      have hac : ∀ n ∈ ac ++ [nameAt k], n.length ≤ 7 := fun n hn => by
        rcases List.mem_append.1 hn with hn | hn
        · exact hkn n hn
        · simp only [List.mem_singleton] at hn; rw [hn]; omega
      have hacl : (ac ++ [nameAt k]).length ≤ 16 + (k + 1) := by simp; omega
      generalize nameAt k = nm at *
      generalize hN2 : nameAt (k + 1) = nm2 at *
      refine rn rfl ?_
      refine goal_did rfl rfl (dA_append (old := (ac).map eS) (rows := ([nm] : List Str).map eS) (((ac) ++ ([nm] : List Str)).map eS) (ac.length + 1) true (Dst.own rfl rfl rfl rfl rfl (by first | (simp; done) | (simp; omega)) (whole (by first | (simp; done) | (simp; omega)))) (Src.os rfl rfl (Nat.le_refl 1) rfl) rfl rfl rfl rfl rfl rfl rfl rfl (rows_len eS_len _) (rows_len eS_len _) (by (try simp only [List.length_map, List.length_append, List.length_cons, List.length_nil, List.length_take, List.length_drop]); show _ * 16 ≤ _; omega) (by first | (simp; done) | (simp; omega)) (by simp) (by first | (simp; done) | (simp; omega)) (fun _ => noOwnR_map _ eS_noOwn _)) ?_
      refine rn rfl ?_
      refine rn rfl ?_
      refine goal_cond rfl (fun h3 => ?_) (fun h3 => ?_) <;> (try simp only [gt_iff_lt, ge_iff_le, bne_iff_ne, ne_eq, bne_eq_false_iff_eq, beq_iff_eq, beq_eq_false_iff_ne, Bool.not_eq_true', Bool.not_eq_false', decide_eq_true_eq, decide_eq_false_iff_not, List.length_map] at h3)
      · have hn2 : nm2 = nm ++ [97] := by rw [hnx]; unfold nextN; rw [if_pos (by omega)]
        refine rn rfl ?_
        refine goal_did rfl rfl (dA_concat (nm ++ [97]) rfl rfl rfl (by simp; omega) rfl rfl) ?_
        rw [← hn2]
        refine rn rfl ?_
        refine round_keep (40 - (k + 1)) [28, 8, 5] [2] (by omega) rfl ⟨_, k + 1, ac.length + 1, ac ++ [nm], wrap64 (by omega) (by omega), by omega, rfl, by simp, hacl, hac, by rw [hN2]; rfl⟩
      · have hlen6 := trimR_len 122 nm
        have hn2 : nm2 = (trimR 122 nm).take ((trimR 122 nm).length - 1) ++ [(trimR 122 nm).getLastD 0 + 1] := by rw [hnx]; unfold nextN; rw [if_neg (by omega)]
        refine rn rfl ?_
        refine goal_step (step_call [] rfl rfl rfl rfl rfl rfl (trimRight_ct nm 122 (by omega) (by decide) (fun h0 => by rw [h0] at n1; simp at n1))) ?_
        rintro σ2 ⟨r, o', ⟨rfl, rfl⟩, hσ⟩
        obtain rfl := Option.some.inj hσ
        clear hσ
        refine rn rfl ?_
        generalize trimR 122 nm = t at *
        have hw : IntKind.i64.wrap ((t.length : Int) - 1) = ((t.length - 1 : Nat) : Int) := by rw [wrap64 (by omega) (by omega)]; omega
        have hc : t[t.length - 1]? = some (t.getLastD 0) := by
          rw [← List.getLast?_eq_getElem?, List.getLastD_eq_getLast?]
          cases hg : t.getLast? with
          | none => rw [List.getLast?_eq_none_iff] at hg; rw [hg] at n3; simp at n3
          | some x => rfl
        generalize t.getLastD 0 = c at *
        have hc1 : (c + 1).toNat = c.toNat + 1 := by
          rw [UInt8.toNat_add]
          show (c.toNat + 1) % 256 = _
          omega
        have hr : IntKind.i32.wrap (IntKind.u8.wrap ((c.toNat : Int) + 1)) = ((c + 1).toNat : Int) := by
          rw [hc1]
          simp only [IntKind.wrap, IntKind.bits, IntKind.signed]
          simp
          omega
        refine rn rfl ?_
        refine goal_draw' [] 11 rfl ?_
        refine drn [0, 1, 3, 4] (by kernel_rfl) (by kernel_rfl) rfl rfl ?_
        refine AH_did 2 rfl (by kernel_rfl) (by kernel_rfl) (by kernel_rfl) rfl rfl (dA_strSlice 0 (t.length - 1) (t.take (t.length - 1)) rfl rfl rfl rfl Bnd.none_ (Bnd.some_ rfl hw) (by omega) (by omega) rfl (by simp)) ?_
        refine AH_did 5 rfl (by kernel_rfl) (by kernel_rfl) (by kernel_rfl) rfl rfl (dA_strIndex c rfl rfl rfl rfl rfl rfl (by rw [hw]; omega) (by rw [hw]; simpa using hc)) ?_
        refine drn [6, 7] (by kernel_rfl) (by kernel_rfl) rfl rfl ?_
        refine AH_oneDid 8 rfl (by kernel_rfl) rfl (dA_ofRune (c + 1) rfl rfl rfl rfl rfl rfl rfl hr (by omega)) (mdOk rfl) ?_
        refine AH_did 9 rfl (by kernel_rfl) (by kernel_rfl) (by kernel_rfl) rfl rfl (dA_concat nm2 rfl rfl rfl (by simp; omega) (by rw [hn2]) rfl) ?_
        refine drn [10] (by kernel_rfl) (by kernel_rfl) rfl rfl ?_
        refine AH_end (by kernel_rfl) ?_
        refine rn rfl ?_
        refine rn rfl ?_
        refine round_keep (40 - (k + 1)) [28, 8, 5] [2] (by omega) rfl ⟨_, k + 1, ac.length + 1, ac ++ [nm], wrap64 (by omega) (by omega), by omega, rfl, by simp, hacl, hac, by rw [hN2]; rfl⟩
    · refine rn rfl (round_ext ?_)
      refine rn rfl ?_
      refine goal_step (step_callE [] rfl rfl rfl rfl rfl rfl (cons_eq (congrArg (fun x => T.one (C.fs x)) (takeAll eS ac _ rfl)) rfl) (iunionAll_ct ac [] (by simp; omega))) ?_
      rintro σ2 ⟨r, o', ⟨rfl, rfl⟩, hσ⟩
      obtain rfl := Option.some.inj hσ
      clear hσ
      refine rn rfl ?_
      refine rn rfl (fin_is [] rfl ⟨_, ?_, ?_, rfl, rfl⟩)
      · have := uniqS_length (ac ++ []); simp at this ⊢; omega
      · intro n hn
        have := (uniqS_mem n _).1 hn
        exact hkn n (by simpa using this)

theorem containsW_ct (xs : List Str) (n : Str) (hl : xs.length ≤ 1048576) : ACalls pk 78 [.one (.fs (xs.map eS)), .one (.str n)] [] (fun r o => ∃ b, r = .one (.bool b) ∧ o = []) := by
  have hi : ACalls pk 99 [.one (.fs (xs.map eS)), .one (.str n)] [] (fun r o => ∃ z : Int, r = .one (.int .i64 z) ∧ o = []) := by
    refine acalls_of_body Tryz.func99 rfl (by kernel_rfl) rfl ?_
    refine rn rfl ?_
    refine goal_loop_keep (fun m σ => ∃ (q L : Int) (i : Nat), q = i ∧ L = xs.length ∧ i ≤ xs.length ∧ m = xs.length - i ∧
        σ = ⟨[(8, .one (.int .i64 q)), (7, .one (.int .i64 L)), (1, .one (.str n)), (0, .one (.fs (xs.map eS)))], [], []⟩) xs.length [8, 7, 1, 0] [] rfl
      ⟨_, _, 0, rfl, by simp, by omega, by omega, rfl⟩ ?_
    rintro m σ ⟨q, L, i, rfl, rfl, hi, rfl, rfl⟩
    refine rn rfl ?_
    refine goal_cond rfl (fun h => ?_) (fun h => ?_) <;> (try simp only [gt_iff_lt, ge_iff_le, bne_iff_ne, ne_eq, bne_eq_false_iff_eq, beq_iff_eq, beq_eq_false_iff_ne, Bool.not_eq_true', Bool.not_eq_false', decide_eq_true_eq, decide_eq_false_iff_not, List.length_map] at h)
    · obtain ⟨x, hx⟩ := at_some (xs := xs) (i := i) (by omega)
      refine rn rfl ?_
      refine goal_did rfl rfl (dA_index (eS x) rfl rfl rfl rfl rfl rfl rfl (by omega) (by (try simp); omega) (map_at (by simpa using hx)) rfl) ?_
      refine rn rfl ?_
      refine goal_cond rfl (fun h2 => ?_) (fun h2 => ?_) <;> (try simp only [gt_iff_lt, ge_iff_le, bne_iff_ne, ne_eq, bne_eq_false_iff_eq, beq_iff_eq, beq_eq_false_iff_ne, Bool.not_eq_true', Bool.not_eq_false', decide_eq_true_eq, decide_eq_false_iff_not, List.length_map] at h2)
      · refine rn rfl (round_ret (fin_is [] rfl ⟨_, rfl, rfl⟩))
      · refine rn rfl ?_
        refine round_keep (xs.length - (i + 1)) [8, 7, 1, 0] [] (by omega) rfl ⟨_, _, i + 1, wrap64 (by omega) (by omega), rfl, by omega, rfl, rfl⟩
    · refine rn rfl (round_ext ?_)
      exact rn rfl (fin_is [] rfl ⟨_, rfl, rfl⟩)
  refine acalls_of_body Tryz.func78 rfl (by kernel_rfl) rfl ?_
  refine rn rfl ?_
  refine goal_step (step_call [] rfl rfl rfl rfl rfl rfl hi) ?_
  rintro σ2 ⟨r, o', ⟨z, rfl, rfl⟩, hσ⟩
  obtain rfl := Option.some.inj hσ
  exact rn rfl (fin_is [] rfl ⟨_, rfl, rfl⟩)

theorem ineedsD_ct (s : Sig) (n : Nat) (hs : OkS s) (hn : n ≤ 8) : ACalls pk 74 [.agg (eG s), .one (.int .i64 n)] [] (fun r o => r = .tup [.one (.fs ((if takesC s n then sortS (needNs s n) else []).map eS)), .one (.bool (takesC s n))] ∧ o = []) := by
  have h := ineeds_ct s n hs
  have he : needsF s n = (if takesC s n then sortS (needNs s n) else [], takesC s n) := by
    unfold needsF
    have : inR (n : Int) 0 8 = true := by simp [inR]; omega
    rw [this, Int.toNat_natCast, Bool.true_and]
    cases takesC s n <;> simp
  rw [he] at h
  exact h.told [] (by rintro r o ⟨rfl, rfl⟩; exact ⟨_, _, rfl, congrArg (fun x => T.tup [T.one (C.fs x), .one (.bool (takesC s n))]) (takeAll eS _ _ rfl), rfl⟩)

theorem firstRefused_ct (a b : Sig) (ha : OkS a) (hb : OkS b) (H : ∀ x, accX a x = true → accX b x = true) :
    ACalls pk 45 [.agg (eG a), .agg (eG b)] [] (fun r o => r = .tup [.agg [.int .i64 0, .fs []], .one (.bool false)] ∧ o = []) := by
  have la := ha.lenS
  have lb := hb.lenS
  refine acalls_of_body Tryz.func45 rfl (by kernel_rfl) rfl ?_
  refine rn rfl ?_
  refine goal_loop_keep (fun m σ => ∃ (q : Int) (i : Nat), q = i ∧ i ≤ 9 ∧ m = 9 - i ∧
      σ = ⟨[(6, .one (.int .i64 q)), (4, .one (.op 2 0 0)), (3, .one (.op 1 0 0)), (2, .one (.op 0 0 0))], [some ⟨1, [eG a], false, false, true⟩, some ⟨1, [eG b], false, false, true⟩, some ⟨2, [[.int .i64 0, .fs []]], false, false, true⟩], []⟩) 9 [6, 4, 3, 2] [0, 1, 2] rfl
    ⟨_, 0, rfl, by omega, by omega, rfl⟩ ?_
  rintro m σ ⟨q, i, rfl, hi, rfl, rfl⟩
  refine rn rfl ?_
  refine goal_cond rfl (fun h => ?_) (fun h => ?_) <;> (try simp only [gt_iff_lt, ge_iff_le, bne_iff_ne, ne_eq, bne_eq_false_iff_eq, beq_iff_eq, beq_eq_false_iff_ne, Bool.not_eq_true', Bool.not_eq_false', decide_eq_true_eq, decide_eq_false_iff_not, List.length_map] at h)
  · have hi8 : i ≤ 8 := by omega
    have hnb := needNs_len a i
    have hal := ha.len
    refine rn rfl ?_
    refine goal_step (step_call [] rfl rfl rfl rfl rfl rfl (ineedsD_ct a i ha hi8)) ?_
    rintro σ2 ⟨r, o', ⟨rfl, rfl⟩, hσ⟩
    obtain rfl := Option.some.inj hσ
    clear hσ
    refine rn rfl ?_
    refine goal_cond rfl (fun h1 => ?_) (fun h1 => ?_) <;> (try simp only [gt_iff_lt, ge_iff_le, bne_iff_ne, ne_eq, bne_eq_false_iff_eq, beq_iff_eq, beq_eq_false_iff_ne, Bool.not_eq_true', Bool.not_eq_false', decide_eq_true_eq, decide_eq_false_iff_not, List.length_map] at h1)
    · refine rn rfl ?_
      refine round_keep (9 - (i + 1)) [6, 4, 3, 2] [0, 1, 2] (by omega) rfl ⟨_, i + 1, wrap64 (by omega) (by omega), by omega, rfl, rfl⟩
    · have ht : takesC a i = true := by simpa using h1
      have hacc := H _ (needs_acc ha hi8 ht)
      have hlx : LenX ⟨(i : Int), sortS (needNs a i)⟩ := needs_lenX ha i i
      have hacs := iacceptsShape_ct b ⟨(i : Int), sortS (needNs a i)⟩ lb hlx
      rw [hacc] at hacs
      have hnl : ∀ m ∈ sortS (needNs a i), m.length ≤ 9223372036854775807 := hlx.names
      have hsl : (sortS (needNs a i)).length ≤ 8 := by rw [sortS_length]; omega
      simp only [ht, if_true]
      generalize sortS (needNs a i) = M at *
      refine rn rfl ?_
      refine goal_step (step_call [] rfl rfl rfl rfl rfl rfl (hacs)) ?_
      rintro σ2 ⟨r, o', ⟨rfl, rfl⟩, hσ⟩
      obtain rfl := Option.some.inj hσ
      clear hσ
      refine rn rfl ?_
      refine goal_cond rfl (fun h2 => by cases h2) (fun _ => ?_)
      refine rn rfl ?_
      refine goal_step (step_call [] rfl rfl rfl rfl rfl rfl (someNames_ct a b ha.small hb.small)) ?_
      rintro σ2 ⟨r, o', ⟨L, hL1, hL2, rfl, rfl⟩, hσ⟩
      obtain rfl := Option.some.inj hσ
      clear hσ
      refine rn rfl ?_
      refine goal_loop_keep (fun m σ => ∃ (q len : Int) (j : Nat), q = j ∧ len = L.length ∧ j ≤ L.length ∧ m = L.length - j ∧
          σ = ⟨[(37, .one (.int .i64 q)), (36, .one (.int .i64 len)), (35, .one (.fs (L.map eS))), (7, .one (.fs (M.map eS))), (6, .one (.int .i64 i)), (4, .one (.op 2 0 0)), (3, .one (.op 1 0 0)), (2, .one (.op 0 0 0))], [some ⟨1, [eG a], false, false, true⟩, some ⟨1, [eG b], false, false, true⟩, some ⟨2, [[.int .i64 0, .fs []]], false, false, true⟩], []⟩) L.length [37, 36, 35, 7, 6, 4, 3, 2] [0, 1, 2] rfl
        ⟨_, _, 0, rfl, by simp, by omega, by omega, rfl⟩ ?_
      rintro m σ ⟨q, len, j, rfl, rfl, hj, rfl, rfl⟩
      refine rn rfl ?_
      refine goal_cond rfl (fun h3 => ?_) (fun h3 => ?_) <;> (try simp only [gt_iff_lt, ge_iff_le, bne_iff_ne, ne_eq, bne_eq_false_iff_eq, beq_iff_eq, beq_eq_false_iff_ne, Bool.not_eq_true', Bool.not_eq_false', decide_eq_true_eq, decide_eq_false_iff_not, List.length_map] at h3)
      · obtain ⟨nm, hnm⟩ := at_some (xs := L) (i := j) (by omega)
        have hnn := hL2 nm (List.mem_of_getElem? hnm)
        have hul := uniqS_length (M ++ [nm])
        have hx : LenX ⟨(i : Int), uniqS (M ++ [nm])⟩ := ⟨by simp at hul ⊢; omega, fun m hm => by
          have := (uniqS_mem m _).1 hm
          simp only [List.mem_append, List.mem_singleton] at this
          rcases this with h | h
          · exact hnl m h
          · rw [h]; omega⟩
        have hxa := iacceptsShape_ct a ⟨(i : Int), uniqS (M ++ [nm])⟩ la hx
        have hxb := iacceptsShape_ct b ⟨(i : Int), uniqS (M ++ [nm])⟩ lb hx
        have hHx := H ⟨(i : Int), uniqS (M ++ [nm])⟩
        refine rn rfl ?_
        refine goal_did rfl rfl (dA_index (eS nm) rfl rfl rfl rfl rfl rfl rfl (by omega) (by (try simp); omega) (map_at (by simpa using hnm)) rfl) ?_
        refine rn rfl ?_
        refine goal_step (step_callE [] rfl rfl rfl rfl rfl rfl (rfl) (iunionAll_ct M [nm] (by simp; omega))) ?_
        rintro σ2 ⟨r, o', ⟨rfl, rfl⟩, hσ⟩
        obtain rfl := Option.some.inj hσ
        clear hσ
        refine rn rfl ?_
        generalize uniqS (M ++ [nm]) = U at *
        refine rn rfl ?_
        refine goal_step (step_call [] rfl rfl rfl rfl rfl rfl (containsW_ct M nm (by omega))) ?_
        rintro σ2 ⟨r, o', ⟨bb, rfl, rfl⟩, hσ⟩
        obtain rfl := Option.some.inj hσ
        clear hσ
        refine rn rfl ?_
        refine goal_guard rfl rfl rfl (fun h4 => ?_) (fun h4 => ?_) <;> (try simp only [gt_iff_lt, ge_iff_le, bne_iff_ne, ne_eq, bne_eq_false_iff_eq, beq_iff_eq, beq_eq_false_iff_ne, Bool.not_eq_true', Bool.not_eq_false', decide_eq_true_eq, decide_eq_false_iff_not, List.length_map] at h4)
        · refine rn rfl ?_
          refine goal_step (step_call [] rfl rfl rfl rfl rfl rfl (hxa)) ?_
          rintro σ2 ⟨r, o', ⟨rfl, rfl⟩, hσ⟩
          obtain rfl := Option.some.inj hσ
          clear hσ
          refine rn rfl ?_
          refine goal_guard rfl rfl rfl (fun h5 => ?_) (fun h5 => ?_) <;> (try simp only [gt_iff_lt, ge_iff_le, bne_iff_ne, ne_eq, bne_eq_false_iff_eq, beq_iff_eq, beq_eq_false_iff_ne, Bool.not_eq_true', Bool.not_eq_false', decide_eq_true_eq, decide_eq_false_iff_not, List.length_map] at h5)
          · rw [hHx h5] at hxb
            refine rn rfl ?_
            refine goal_step (step_call [] rfl rfl rfl rfl rfl rfl (hxb)) ?_
            rintro σ2 ⟨r, o', ⟨rfl, rfl⟩, hσ⟩
            obtain rfl := Option.some.inj hσ
            clear hσ
            refine rn rfl ?_
            refine goal_cond rfl (fun h6 => by cases h6) (fun _ => ?_)
            refine rn rfl ?_
            refine round_keep (L.length - (j + 1)) [37, 36, 35, 7, 6, 4, 3, 2] [0, 1, 2] (by omega) rfl ⟨_, _, j + 1, wrap64 (by omega) (by omega), rfl, by omega, rfl, rfl⟩
          · refine rn rfl ?_
            refine round_keep (L.length - (j + 1)) [37, 36, 35, 7, 6, 4, 3, 2] [0, 1, 2] (by omega) rfl ⟨_, _, j + 1, wrap64 (by omega) (by omega), rfl, by omega, rfl, rfl⟩
        · refine rn rfl ?_
          refine round_keep (L.length - (j + 1)) [37, 36, 35, 7, 6, 4, 3, 2] [0, 1, 2] (by omega) rfl ⟨_, _, j + 1, wrap64 (by omega) (by omega), rfl, by omega, rfl, rfl⟩
      · refine rn rfl (round_ext ?_)
        refine rn rfl ?_
        refine round_keep (9 - (i + 1)) [6, 4, 3, 2] [0, 1, 2] (by omega) rfl ⟨_, i + 1, wrap64 (by omega) (by omega), by omega, rfl, rfl⟩
  · refine rn rfl (round_ext ?_)
    exact rn rfl (fin_is [] rfl ⟨rfl, rfl⟩)

theorem ifits_ct (a b : Sig) (ha : OkS a) (hb : OkS b) (H : ∀ x, accX a x = true → accX b x = true) :
    ACalls pk 16 [.agg (eG a), .agg (eG b)] [] (fun r o => r = .one (.bool true) ∧ o = []) := by
  obtain ⟨a1, a2⟩ := ha.lenS
  obtain ⟨b1, b2⟩ := hb.lenS
  have hva := ivalidSig_ct a (by omega) a2
  have hvb := ivalidSig_ct b (by omega) b2
  rw [okSig_iff.2 ha] at hva
  rw [okSig_iff.2 hb] at hvb
  refine acalls_of_body Tryz.func16 rfl (by kernel_rfl) rfl ?_
  refine rn rfl ?_
  refine goal_step (step_call [] rfl rfl rfl rfl rfl rfl (hva)) ?_
  rintro σ2 ⟨r, o', ⟨rfl, rfl⟩, hσ⟩
  obtain rfl := Option.some.inj hσ
  clear hσ
  refine rn rfl ?_
  refine goal_guard rfl rfl rfl (fun h => by cases h) (fun _ => ?_)
  refine rn rfl ?_
  refine goal_step (step_call [] rfl rfl rfl rfl rfl rfl (hvb)) ?_
  rintro σ2 ⟨r, o', ⟨rfl, rfl⟩, hσ⟩
  obtain rfl := Option.some.inj hσ
  clear hσ
  refine rn rfl ?_
  refine goal_cond rfl (fun h => by cases h) (fun _ => ?_)
  refine rn rfl ?_
  refine goal_step (step_call [] rfl rfl rfl rfl rfl rfl (firstRefused_ct a b ha hb H)) ?_
  rintro σ2 ⟨r, o', ⟨rfl, rfl⟩, hσ⟩
  obtain rfl := Option.some.inj hσ
  clear hσ
  refine rn rfl ?_
  exact rn rfl (fin_is [] rfl ⟨rfl, rfl⟩)

theorem takesR_iff {s : Sig} {n : Nat} : takesC s n = true ↔ (n ≤ placesQ s ∨ s.any (kIs 2) = true) ∧ ∀ j p, s[j]? = some p → n ≤ j → bareQ p = false := by
  unfold takesC
  rw [Bool.and_eq_true, takes_iff]
  refine and_congr_left fun _ => ?_
  cases s.any (kIs 2) <;> simp

theorem any2_iff {s : Sig} : s.any (kIs 2) = true ↔ ∃ p ∈ s, p.kind = 2 := by
  simp [List.any_eq_true, kIs]

structure FitsAB (a b : Sig) : Prop where
  places : placesQ a ≤ placesQ b
  rest : (∃ p ∈ a, p.kind = 2) → ∃ p ∈ b, p.kind = 2
  bare : ∀ (j : Nat) (q : Param), b[j]? = some q → q.kind = 0 → q.hasD = false → ∃ p, a[j]? = some p ∧ p.kind = 0 ∧ p.hasD = false
  both : ∀ (j : Nat) (q : Param), b[j]? = some q → q.kind = 1 → q.hasD = false → ∃ p, a[j]? = some p ∧ p.hasD = false ∧ p.name = q.name ∧ (p.kind = 0 ∨ p.kind = 1 ∨ p.kind = 3)
  named : ∀ q ∈ b, q.kind = 3 → q.hasD = false → ∃ p ∈ a, p.kind = 3 ∧ p.hasD = false ∧ p.name = q.name
  goes : ∀ m, goesQ a m → goesQ b m
  at_ : ∀ (j : Nat) (q : Param), b[j]? = some q → q.kind = 1 → (∃ p, a[j]? = some p ∧ p.kind = 1 ∧ p.name = q.name) ∨ ¬ goesQ a q.name ∨ (∃ p, a[j]? = some p ∧ placedQ p = false ∧ ¬ ∃ p ∈ a, p.kind = 2)

theorem FitsAB.fits {a b : Sig} (ha : OkS a) (hb : OkS b) (h : FitsAB a b) : ∀ x, accX a x = true → accX b x = true := by
  intro x hx
  have hok := acc_okX hx
  rw [accX_iff ha hok] at hx
  rw [accX_iff hb hok]
  obtain ⟨t, n, al⟩ := hx
  generalize x.count.toNat = c at *
  obtain ⟨t1, t2⟩ := takesR_iff.1 t
  refine ⟨takesR_iff.2 ⟨?_, fun j q hq hj => ?_⟩, fun m hm => ?_, fun m hm => ?_⟩
  · rcases t1 with t1 | t1
    · left; have := h.places; omega
    · right; exact any2_iff.2 (h.rest (any2_iff.1 t1))
  · cases hbq : bareQ q with
    | false => rfl
    | true =>
      unfold bareQ at hbq
      simp only [Bool.and_eq_true, beq_iff_eq, Bool.not_eq_true'] at hbq
      obtain ⟨p, hp, k1, k2⟩ := h.bare j q hq hbq.1 hbq.2
      have := t2 j p hp hj
      simp [bareQ, k1, k2] at this
  · obtain ⟨j, q, hq, ho, hd, rfl⟩ := need_mem.1 hm
    unfold openQ at ho
    simp only [Bool.or_eq_true, beq_iff_eq, Bool.and_eq_true, decide_eq_true_eq] at ho
    rcases ho with hk | ⟨hk, hj⟩
    · obtain ⟨p, hp, p1, p2, p3⟩ := h.named q (List.mem_of_getElem? hq) hk hd
      obtain ⟨i, hi⟩ := List.getElem?_of_mem hp
      exact n _ (need_mem.2 ⟨i, p, hi, by simp [openQ, p1], p2, p3⟩)
    · obtain ⟨p, hp, p1, p2, p3⟩ := h.both j q hq hk hd
      rcases p3 with p3 | p3 | p3
      · have := t2 j p hp hj
        simp [bareQ, p3, p1] at this
      · exact n _ (need_mem.2 ⟨j, p, hp, by simp [openQ, p3, hj], p1, p2⟩)
      · exact n _ (need_mem.2 ⟨j, p, hp, by simp [openQ, p3], p1, p2⟩)
  · obtain ⟨g1, g2⟩ := al m hm
    refine ⟨h.goes m g1, fun j q hq hqn hqm hk => ?_⟩
    subst hqm
    rcases h.at_ j q hq hk with ⟨p, hp, p1, p2⟩ | hng | ⟨p, hp, p1, p2⟩
    · exact g2 j p hp (by simp [namedQ, p1]) p2 p1
    · exact absurd g1 hng
    · have hpi := ha.placed_iff hp
      rcases t1 with t1 | t1
      · have : ¬ j < placesQ a := by rw [← hpi, p1]; simp
        omega
      · exact absurd (any2_iff.1 t1) p2

/-- One parameter more, that asks for nothing. -/
theorem ins_fits {a : Sig} {k : Nat} {p : Param} (hb : OkS (a.take k ++ p :: a.drop k)) (hka : k ≤ a.length) (hp2 : 2 ≤ p.kind) (hpd : p.kind = 3 → p.hasD = true) : FitsAB a (a.take k ++ p :: a.drop k) := by
  have hlt : (a.take k).length = k := by simp; omega
  have hpk : (a.take k ++ p :: a.drop k)[k]? = some p := by rw [List.getElem?_append_right (by omega), hlt]; simp
  have low : ∀ (j : Nat) (q : Param), (a.take k ++ p :: a.drop k)[j]? = some q → q.kind ≤ 1 → a[j]? = some q := fun j q hq hq1 => by
    by_cases hjk : j < k
    · rw [List.getElem?_append_left (by omega), List.getElem?_take, if_pos hjk] at hq
      exact hq
    · have := hb.sorted (j - k) k p q hpk (by rw [show k + (j - k) = j by omega]; exact hq)
      omega
  have hmem : ∀ q, q ∈ a.take k ++ p :: a.drop k ↔ q = p ∨ q ∈ a := fun q => by
    constructor
    · intro h
      simp only [List.mem_append, List.mem_cons] at h
      rcases h with h | h | h
      · exact .inr (List.mem_of_mem_take h)
      · exact .inl h
      · exact .inr (List.mem_of_mem_drop h)
    · rintro (h | h)
      · subst h; simp
      · rw [← List.take_append_drop k a] at h
        simp only [List.mem_append] at h
        simp only [List.mem_append, List.mem_cons]
        rcases h with h | h <;> simp [h]
  refine ⟨?_, ?_, ?_, ?_, ?_, ?_, ?_⟩
  · unfold placesQ
    rw [List.countP_append, List.countP_cons]
    conv => lhs; rw [← List.take_append_drop k a, List.countP_append]
    omega
  · rintro ⟨q, hq, h⟩; exact ⟨q, (hmem q).2 (.inr hq), h⟩
  · intro j q hq hk hd; exact ⟨q, low j q hq (by omega), hk, hd⟩
  · intro j q hq hk hd; exact ⟨q, low j q hq (by omega), hd, rfl, .inr (.inl hk)⟩
  · intro q hq hk hd
    rcases (hmem q).1 hq with h | h
    · subst h; rw [hpd hk] at hd; cases hd
    · exact ⟨q, h, hk, hd, rfl⟩
  · intro m hm
    rcases hm with ⟨i, q, hq, h1, h2⟩ | ⟨q, hq, h1⟩
    · obtain ⟨j, hj⟩ := List.getElem?_of_mem ((hmem q).2 (.inr (List.mem_of_getElem? hq)))
      exact .inl ⟨j, q, hj, h1, h2⟩
    · exact .inr ⟨q, (hmem q).2 (.inr hq), h1⟩
  · intro j q hq hk; exact .inl ⟨q, low j q hq (by omega), hk, rfl⟩

def addAt (s : Sig) (p : Param) : Nat := (s.takeWhile (fun q => decide (q.kind ≤ p.kind))).length

def addQ (s : Sig) (p : Param) : Sig := s.take (addAt s p) ++ p :: s.drop (addAt s p)

def AddF (s : Sig) (p : Param) : Sig × Bool := if okSig s && okSig (addQ s p) then (addQ s p, true) else ([], false)

theorem takeWhile_len {α : Type} (f : α → Bool) : ∀ xs : List α, (xs.takeWhile f).length ≤ xs.length
  | [] => by simp
  | x :: xs => by
    rw [List.takeWhile_cons]
    split
    · simp only [List.length_cons]; have := takeWhile_len f xs; omega
    · simp

theorem addAt_le (s : Sig) (p : Param) : addAt s p ≤ s.length := takeWhile_len _ s

theorem takeWhile_upto {α : Type} {f : α → Bool} : ∀ {xs : List α} {i : Nat} {x : α}, xs[i]? = some x → (∀ (j : Nat) (y : α), j < i → xs[j]? = some y → f y = true) → f x = false → (xs.takeWhile f).length = i
  | [], i, x, h, _, _ => by simp at h
  | y :: xs, 0, x, h, _, hf => by
    simp at h; subst h
    rw [List.takeWhile_cons, hf]; rfl
  | y :: xs, i + 1, x, h, hb, hf => by
    rw [List.takeWhile_cons, hb 0 y (by omega) rfl]
    simp only [if_true, List.length_cons]
    rw [takeWhile_upto (xs := xs) (i := i) (by simpa using h) (fun j z hj hz => hb (j + 1) z (by omega) (by simpa using hz)) hf]

theorem takeWhile_all {α : Type} {f : α → Bool} {xs : List α} (h : ∀ (j : Nat) (y : α), xs[j]? = some y → f y = true) : (xs.takeWhile f).length = xs.length := by
  induction xs with
  | nil => rfl
  | cons x xs ih =>
    rw [List.takeWhile_cons, h 0 x rfl]
    simp only [if_true, List.length_cons]
    rw [ih fun j y hj => h (j + 1) y (by simpa using hj)]

theorem addQ_len (s : Sig) (p : Param) : (addQ s p).length = s.length + 1 := by
  have := addAt_le s p
  unfold addQ; simp; omega

theorem add_ok {s : Sig} {p : Param} (h : (AddF s p).2 = true) : OkS s ∧ (AddF s p).1 = addQ s p ∧ OkS (addQ s p) := by
  unfold AddF at h ⊢
  split at h
  · rename_i hc
    rw [if_pos hc]
    simp only [Bool.and_eq_true] at hc
    exact ⟨okSig_iff.1 hc.1, rfl, okSig_iff.1 hc.2⟩
  · cases h

theorem add_fits {s : Sig} {p : Param} (ho : OkS (addQ s p)) (h2 : 2 ≤ p.kind) (h3 : p.kind = 3 → p.hasD = true) : FitsAB s (addQ s p) :=
  ins_fits ho (addAt_le s p) h2 h3

theorem asQs (s : Sig) (n : Nat) (h : s.length = n) : T.agg [C.fs (List.take n (List.drop 0 (s.map eQ)))] = T.agg (eG s) := by rw [takeAll eQ _ _ h]; rfl

theorem drawAdd_ct (bs : Str) : ACalls pk 17 [.one (.fs (bs.map rowB))] [] (fun r o => ∃ s p, SmallS s ∧ p.name.length ≤ 7 ∧ r = .tup [.agg (eG s), .agg (eQ p)] ∧ o = []) := by
  have hb : (bs.take 2000).length ≤ 2000 := by simp; omega
  refine acalls_of_body Tryz.func17 rfl (by kernel_rfl) rfl ?_
  refine rn rfl ?_
  refine goal_step (step_call [] rfl rfl rfl rfl rfl rfl (newReader_ct bs)) ?_
  rintro σ2 ⟨r, o', ⟨rfl, rfl⟩, hσ⟩
  obtain rfl := Option.some.inj hσ
  clear hσ
  refine rn rfl ?_
  refine rn rfl ?_
  refine goal_step (step_callE [2] rfl rfl rfl rfl rfl rfl (rfl) (of_ct (bs.take 2000) 0 [[110, 101, 119], [122], [97], [119], [110, 101, 119]] hb (by omega) (by omega) (by decide) (by decide))) ?_
  rintro σ2 ⟨r, o', ⟨⟨nm, hnm, rfl⟩, rfl⟩, hσ⟩
  obtain rfl := Option.some.inj hσ
  clear hσ
  refine rn rfl ?_
  have hnl : nm.length ≤ 7 := by
    have : ∀ v ∈ ([[110, 101, 119], [122], [97], [119], [110, 101, 119]] : List Str), v.length ≤ 7 := by decide
    exact this nm hnm
  refine rn rfl ?_
  refine goal_step (step_callE [2] rfl rfl rfl rfl rfl rfl (rfl) (one_ct (bs.take 2000) 1 [0, 1, 2, 3, 4, 1, 3, 5] hb (by omega) (by omega) (by decide) (by decide))) ?_
  rintro σ2 ⟨r, o', ⟨⟨kd, hkd, rfl⟩, rfl⟩, hσ⟩
  obtain rfl := Option.some.inj hσ
  clear hσ
  refine rn rfl ?_
  refine rn rfl ?_
  refine goal_step (step_callE [2] rfl rfl rfl rfl rfl rfl (rfl) (pick_ct (bs.take 2000) 2 2 hb (by omega) (by omega) (by omega))) ?_
  rintro σ2 ⟨r, o', ⟨⟨z, rfl, _, _⟩, rfl⟩, hσ⟩
  obtain rfl := Option.some.inj hσ
  clear hσ
  refine rn rfl ?_
  refine rt 6 rfl ?_
  refine goal_cutR (fun σ' => ∃ (p : Param) (k3 : Int), p.name.length ≤ 7 ∧ 0 ≤ k3 ∧ k3 ≤ 10 ∧ σ' = ⟨[(5, .one (.op 3 0 0)), (4, .one (.op 2 0 0)), (3, .one (.op 1 0 0)), (2, .one (.op 0 0 0))],
      [some ⟨1, [[.fs []]], false, false, true⟩, some ⟨4, [eQ zQ], false, false, true⟩, oR (bs.take 2000) k3, some ⟨4, [eQ p], false, false, true⟩], []⟩) ?_ ?_
  · refine rn rfl ?_
    refine goal_cond rfl (fun h1 => ?_) (fun h1 => ?_) <;> (try simp only [gt_iff_lt, ge_iff_le, bne_iff_ne, ne_eq, bne_eq_false_iff_eq, beq_iff_eq, beq_eq_false_iff_ne, Bool.not_eq_true', Bool.not_eq_false', decide_eq_true_eq, decide_eq_false_iff_not, List.length_map] at h1)
    · refine rn rfl ?_
      refine goal_step (step_callE [2] rfl rfl rfl rfl rfl rfl (rfl) (anyNumber_ct (bs.take 2000) 3 hb (by omega) (by omega))) ?_
      rintro σ2 ⟨r, o', ⟨⟨w, k2, hk1, hk2, rfl⟩, rfl⟩, hσ⟩
      obtain rfl := Option.some.inj hσ
      clear hσ
      refine rn rfl ?_
      refine rn rfl ?_
      exact cut_nrm [5, 4, 3, 2] [0, 1, 2, 5] rfl ⟨⟨nm, kd, true, w⟩, _, hnl, by omega, by omega, rfl⟩
    · refine rn rfl ?_
      exact cut_nrm [5, 4, 3, 2] [0, 1, 2, 5] rfl ⟨⟨nm, kd, false, 0⟩, _, hnl, by omega, by omega, rfl⟩
  rintro _ ⟨p, k3, hpn, hk1, hk2, rfl⟩
  refine rn rfl ?_
  refine goal_draw' [3] 5 rfl ?_
  refine drn [0, 2] (by kernel_rfl) (by kernel_rfl) rfl rfl ?_
  refine AH_one (i := 1) (by kernel_rfl) (step_callE [2] rfl rfl rfl rfl rfl rfl (rfl) (someSignature_ct (bs.take 2000) k3 hb (by omega) (by omega))) (by simp) ?_
  rintro σ2 ⟨r, o', ⟨s, k1, hs, _, _, rfl, rfl⟩, hσ⟩
  obtain rfl := Option.some.inj hσ
  clear hσ
  refine AH_oneDid 3 rfl (by kernel_rfl) rfl (dA_step rfl) (mdOk rfl) ?_
  refine AH_oneDid 4 rfl (by kernel_rfl) rfl (dA_step rfl) (mdOk rfl) ?_
  refine AH_end (by kernel_rfl) ?_
  refine rn rfl ?_
  exact rn rfl (fin_is [] rfl ⟨s, p, hs, hpn, rfl, rfl⟩)

theorem addQ_names {s : Sig} {p : Param} (ls : LenS s) (hp : p.name.length ≤ 9223372036854775807) : ∀ q ∈ addQ s p, q.name.length ≤ 9223372036854775807 := fun q hq => by
  unfold addQ at hq
  simp only [List.mem_append, List.mem_cons] at hq
  rcases hq with h | rfl | h
  · exact ls.names q (List.mem_of_mem_take h)
  · exact hp
  · exact ls.names q (List.mem_of_mem_drop h)

theorem addAt_next {s : Sig} {p q : Param} {i : Nat} (hb : ∀ (j : Nat) (q : Param), j < i → s[j]? = some q → q.kind ≤ p.kind) (hq : s[i]? = some q) (h : ¬ q.kind ≤ p.kind) : i = addAt s p := by
  unfold addAt
  rw [takeWhile_upto hq (fun j y hj hy => by simpa using hb j y hj hy) (by simpa using h)]

theorem addAt_end {s : Sig} {p : Param} {i : Nat} (hb : ∀ (j : Nat) (q : Param), j < i → s[j]? = some q → q.kind ≤ p.kind) (h : s.length ≤ i) : s.length = addAt s p := by
  unfold addAt
  rw [takeWhile_all (fun j y hy => by simpa using hb j y (by have := lt_of_some hy; omega) hy)]

theorem addAt_stop {s : Sig} {p w : Param} {i : Nat} (hend : i = addAt s p) (hw : s[i]? = some w) : ¬ w.kind ≤ p.kind := fun h0 => by
  have h2 : (s.takeWhile (fun q => decide (q.kind ≤ p.kind))).length = i := hend.symm
  have h3 := List.takeWhile_append_dropWhile (p := fun q : Param => decide (q.kind ≤ p.kind)) (l := s)
  have h4 : (s.dropWhile (fun q : Param => decide (q.kind ≤ p.kind)))[0]? = some w := by
    have : (s.takeWhile (fun q : Param => decide (q.kind ≤ p.kind)) ++ s.dropWhile (fun q : Param => decide (q.kind ≤ p.kind)))[i]? = some w := by rw [h3]; exact hw
    rw [List.getElem?_append_right (by omega), h2, Nat.sub_self] at this
    exact this
  have h5 := List.head?_dropWhile_not (fun q : Param => decide (q.kind ≤ p.kind)) s
  rw [List.head?_eq_getElem?, h4] at h5
  simp at h5
  omega

theorem iAdd_ct (s : Sig) (p : Param) (ls : LenS s) (hpn : p.name.length ≤ 9223372036854775807) : ACalls pk 18 [.agg (eG s), .agg (eQ p)] [] (fun r o => r = .tup [.agg (eG (AddF s p).1), .one (.bool (AddF s p).2)] ∧ o = []) := by
  obtain ⟨s1, s2⟩ := id ls
  refine acalls_of_body Tryz.func18 rfl (by kernel_rfl) rfl ?_
  refine rn rfl ?_
  refine goal_step (step_call [] rfl rfl rfl rfl rfl rfl (ivalidSig_ct s (by omega) s2)) ?_
  rintro σ2 ⟨r, o', ⟨rfl, rfl⟩, hσ⟩
  obtain rfl := Option.some.inj hσ
  clear hσ
  refine rn rfl ?_
  refine goal_cond rfl (fun h => ?_) (fun h => ?_) <;> (try simp only [gt_iff_lt, ge_iff_le, bne_iff_ne, ne_eq, bne_eq_false_iff_eq, beq_iff_eq, beq_eq_false_iff_ne, Bool.not_eq_true', Bool.not_eq_false', decide_eq_true_eq, decide_eq_false_iff_not, List.length_map] at h)
  · have hz : AddF s p = ([], false) := by unfold AddF; rw [h]; rfl
    rw [hz]
    exact rn rfl (fin_is [] rfl ⟨rfl, rfl⟩)
  have os := okSig_iff.1 h
  have hsl := os.len
  have hz : AddF s p = if okSig (addQ s p) then (addQ s p, true) else ([], false) := by unfold AddF; rw [h, Bool.true_and]
  rw [hz]
  have hka := addAt_le s p
  have hV := ivalidSig_ct (addQ s p) (by rw [addQ_len]; omega) (addQ_names ls hpn)
  have hlen := addQ_len s p
  refine rn rfl ?_
  refine goal_loop_keep (fun m σ => ∃ (q : Int) (i : Nat), q = i ∧ i ≤ s.length ∧ m = s.length - i ∧ (∀ (j : Nat) (q : Param), j < i → s[j]? = some q → q.kind ≤ p.kind) ∧
      σ = ⟨[(6, .one (.int .i64 q)), (5, .one (.bool false)), (4, .one (.op 2 0 0)), (3, .one (.op 1 0 0)), (2, .one (.op 0 0 0))],
        [some ⟨1, [eG s], false, false, true⟩, some ⟨4, [eQ p], false, false, true⟩, some ⟨1, [[.fs []]], false, false, true⟩], []⟩) s.length [6, 5, 4, 3, 2] [0, 1, 2] rfl
    ⟨_, 0, rfl, by omega, by omega, fun j q hj => by omega, rfl⟩ ?_
  rintro m σ ⟨q, i, rfl, hi, rfl, hall, rfl⟩
  by_cases hend : i = addAt s p
  · refine rt1 4 rfl ?_
    refine goal_cutR (fun σ' => σ' = ⟨[(27, .one (.bool false)), (6, .one (.int .i64 i)), (5, .one (.bool false)), (4, .one (.op 2 0 0)), (3, .one (.op 1 0 0)), (2, .one (.op 0 0 0))],
        [some ⟨1, [eG s], false, false, true⟩, some ⟨4, [eQ p], false, false, true⟩, some ⟨1, [[.fs []]], false, false, true⟩], []⟩) ?_ ?_
    · refine goal_draw' [0, 1] 16 rfl ?_
      refine drn [0, 1, 2, 3, 4, 5] (by kernel_rfl) (by kernel_rfl) rfl rfl ?_
      refine AH_guard (i := 6) rfl rfl rfl (fun h1 => ?_) (fun h1 => ?_) <;> (try simp only [gt_iff_lt, ge_iff_le, bne_iff_ne, ne_eq, bne_eq_false_iff_eq, beq_iff_eq, beq_eq_false_iff_ne, Bool.not_eq_true', Bool.not_eq_false', decide_eq_true_eq, decide_eq_false_iff_not, List.length_map] at h1)
      · obtain ⟨w, hw⟩ := at_some (xs := s) (i := i) (by omega)
        have hd : decide (w.kind ≤ p.kind) = false := by simpa using addAt_stop hend hw
        refine drn [6, 7, 8, 12, 13] (by kernel_rfl) (by kernel_rfl) rfl rfl ?_
        refine AH_did 9 rfl (by kernel_rfl) (by kernel_rfl) (by kernel_rfl) rfl rfl (dA_index (eQ w) rfl rfl rfl rfl rfl rfl rfl (by omega) (by (try simp); omega) (map_at (by simpa using hw)) rfl) ?_
        refine drn [10, 11, 14, 15] (by kernel_rfl) (by kernel_rfl) rfl rfl ?_
        refine AH_end (by kernel_rfl) ?_
        refine rn rfl ?_
        rw [hd]
        exact cut_nrm [27, 6, 5, 4, 3, 2] [0, 1, 2] rfl rfl
      · refine drn [6, 7, 8, 9, 10, 11, 12, 13, 14, 15] (by kernel_rfl) (by kernel_rfl) rfl rfl ?_
        refine AH_end (by kernel_rfl) ?_
        refine rn rfl ?_
        exact cut_nrm [27, 6, 5, 4, 3, 2] [0, 1, 2] rfl rfl
    rintro _ rfl
    refine goal_cond rfl (fun h0 => by cases h0) (fun _ => ?_)
    refine rn rfl (round_ext ?_)
    have hc := concatQ_ct [s.take i, [p], s.drop i] (by simp) (by simp; omega)
    have hfl : [s.take i, [p], s.drop i].flatten = addQ s p := by unfold addQ; rw [← hend]; simp
    rw [hfl] at hc
    have hclip := clipQ_ct (addQ s p) _ (Nat.le_refl _)
    have hil : i ≤ s.length := hi
    generalize addQ s p = A at *
    refine rt1 6 rfl ?_
    refine goal_cutR (fun σ' => σ' = ⟨[(7, .one (.op 1 0 0)), (5, .one (.bool false)), (4, .one (.op 0 0 0))],
        [some ⟨1, [[.fs []]], false, false, true⟩, some ⟨1, [[.os 2 0 A.length A.length]], false, false, true⟩, ownQ A], []⟩) ?_ ?_
    · refine goal_draw' [0, 1] 16 rfl ?_
      refine drn [0, 1, 2, 4, 6, 7, 8] (by kernel_rfl) (by kernel_rfl) rfl rfl ?_
      refine AH_did 3 rfl (by kernel_rfl) (by kernel_rfl) (by kernel_rfl) rfl rfl (dA_slice 0 i ((s.take i).map eQ) rfl rfl rfl rfl rfl Bnd.none_ (Bnd.some_ rfl rfl) (rows_len eQ_len _) (by omega) (by simp; omega) rfl (by simp)) ?_
      refine AH_did 9 rfl (by kernel_rfl) (by kernel_rfl) (by kernel_rfl) rfl rfl (dA_slice i s.length ((s.drop i).map eQ) rfl rfl rfl rfl rfl (Bnd.some_ rfl rfl) (by simp [Bnd]) (rows_len eQ_len _) (by omega) (by simp) rfl (by rw [List.map_drop, List.take_of_length_le (by simp)])) ?_
      refine AH_two (i := 5) (j := 14) (by kernel_rfl) (step_did rfl rfl (dA_step rfl)) (mdOk rfl) (step_did rfl rfl (dA_step rfl)) (mdOk rfl) ?_ ?_
      · rintro _ rfl
        refine AH_two (i := 10) (j := 14) (by kernel_rfl) (step_did rfl rfl (dA_step rfl)) (mdOk rfl) (step_did rfl rfl (dA_step rfl)) (mdOk rfl) ?_ ?_
        · rintro _ rfl
          refine AH_two (i := 11) (j := 14) (by kernel_rfl) (step_call [] rfl rfl rfl rfl rfl rfl (hc)) (by simp) (step_did rfl rfl (dA_step rfl)) (mdOk rfl) ?_ ?_
          · rintro σ2 ⟨r, o', ⟨rfl, rfl⟩, hσ⟩
            obtain rfl := Option.some.inj hσ
            clear hσ
            refine AH_two (i := 12) (j := 14) (by kernel_rfl) (step_call [5] rfl rfl rfl rfl rfl rfl (hclip)) (by simp) (step_did rfl rfl (dA_step rfl)) (mdOk rfl) ?_ ?_
            · rintro σ2 ⟨r, o', ⟨rfl, rfl⟩, hσ⟩
              obtain rfl := Option.some.inj hσ
              clear hσ
              refine drn [13] (by kernel_rfl) (by kernel_rfl) rfl rfl ?_
              refine AH_oneDid 14 rfl (by kernel_rfl) rfl (dA_step rfl) (mdOk rfl) ?_
              refine AH_oneDid 15 rfl (by kernel_rfl) rfl (dA_step rfl) (mdOk rfl) ?_
              refine AH_end (by kernel_rfl) ?_
              refine rn rfl ?_
              exact cut_nrm [7, 5, 4] [2, 6, 5] rfl rfl
            · rintro _ rfl
              refine AH_one (i := 12) (by kernel_rfl) (step_call [5] rfl rfl rfl rfl rfl rfl (hclip)) (by simp) ?_
              rintro σ2 ⟨r, o', ⟨rfl, rfl⟩, hσ⟩
              obtain rfl := Option.some.inj hσ
              clear hσ
              refine drn [13] (by kernel_rfl) (by kernel_rfl) rfl rfl ?_
              refine AH_oneDid 15 rfl (by kernel_rfl) rfl (dA_step rfl) (mdOk rfl) ?_
              refine AH_end (by kernel_rfl) ?_
              refine rn rfl ?_
              exact cut_nrm [7, 5, 4] [2, 6, 5] rfl rfl
          · rintro _ rfl
            refine AH_one (i := 11) (by kernel_rfl) (step_call [] rfl rfl rfl rfl rfl rfl (hc)) (by simp) ?_
            rintro σ2 ⟨r, o', ⟨rfl, rfl⟩, hσ⟩
            obtain rfl := Option.some.inj hσ
            clear hσ
            refine AH_one (i := 12) (by kernel_rfl) (step_call [6] rfl rfl rfl rfl rfl rfl (hclip)) (by simp) ?_
            rintro σ2 ⟨r, o', ⟨rfl, rfl⟩, hσ⟩
            obtain rfl := Option.some.inj hσ
            clear hσ
            refine drn [13] (by kernel_rfl) (by kernel_rfl) rfl rfl ?_
            refine AH_oneDid 15 rfl (by kernel_rfl) rfl (dA_step rfl) (mdOk rfl) ?_
            refine AH_end (by kernel_rfl) ?_
            refine rn rfl ?_
            exact cut_nrm [7, 5, 4] [2, 5, 6] rfl rfl
        · rintro _ rfl
          refine AH_oneDid 10 rfl (by kernel_rfl) rfl (dA_step rfl) (mdOk rfl) ?_
          refine AH_one (i := 11) (by kernel_rfl) (step_call [] rfl rfl rfl rfl rfl rfl (hc)) (by simp) ?_
          rintro σ2 ⟨r, o', ⟨rfl, rfl⟩, hσ⟩
          obtain rfl := Option.some.inj hσ
          clear hσ
          refine AH_one (i := 12) (by kernel_rfl) (step_call [6] rfl rfl rfl rfl rfl rfl (hclip)) (by simp) ?_
          rintro σ2 ⟨r, o', ⟨rfl, rfl⟩, hσ⟩
          obtain rfl := Option.some.inj hσ
          clear hσ
          refine drn [13] (by kernel_rfl) (by kernel_rfl) rfl rfl ?_
          refine AH_oneDid 15 rfl (by kernel_rfl) rfl (dA_step rfl) (mdOk rfl) ?_
          refine AH_end (by kernel_rfl) ?_
          refine rn rfl ?_
          exact cut_nrm [7, 5, 4] [2, 4, 6] rfl rfl
      · rintro _ rfl
        refine AH_oneDid 5 rfl (by kernel_rfl) rfl (dA_step rfl) (mdOk rfl) ?_
        refine AH_oneDid 10 rfl (by kernel_rfl) rfl (dA_step rfl) (mdOk rfl) ?_
        refine AH_one (i := 11) (by kernel_rfl) (step_call [] rfl rfl rfl rfl rfl rfl (hc)) (by simp) ?_
        rintro σ2 ⟨r, o', ⟨rfl, rfl⟩, hσ⟩
        obtain rfl := Option.some.inj hσ
        clear hσ
        refine AH_one (i := 12) (by kernel_rfl) (step_call [6] rfl rfl rfl rfl rfl rfl (hclip)) (by simp) ?_
        rintro σ2 ⟨r, o', ⟨rfl, rfl⟩, hσ⟩
        obtain rfl := Option.some.inj hσ
        clear hσ
        refine drn [13] (by kernel_rfl) (by kernel_rfl) rfl rfl ?_
        refine AH_oneDid 15 rfl (by kernel_rfl) rfl (dA_step rfl) (mdOk rfl) ?_
        refine AH_end (by kernel_rfl) ?_
        refine rn rfl ?_
        exact cut_nrm [7, 5, 4] [2, 3, 6] rfl rfl
    rintro _ rfl
    refine rn rfl ?_
    refine goal_step (step_lendE [] rfl rfl rfl rfl rfl rfl rfl (cons_eq (asQs A A.length rfl) rfl) (hV) (by rintro r o ⟨rfl, rfl⟩; exact ⟨rfl, rfl⟩)) ?_
    rintro σ2 ⟨r, o', ⟨rfl, rfl⟩, hσ⟩
    obtain rfl := Option.some.inj hσ
    clear hσ
    refine rn rfl ?_
    refine goal_cond rfl (fun h2 => ?_) (fun h2 => ?_) <;> (try simp only [gt_iff_lt, ge_iff_le, bne_iff_ne, ne_eq, bne_eq_false_iff_eq, beq_iff_eq, beq_eq_false_iff_ne, Bool.not_eq_true', Bool.not_eq_false', decide_eq_true_eq, decide_eq_false_iff_not, List.length_map] at h2)
    · rw [h2]
      exact rn rfl (fin_is [] rfl ⟨rfl, rfl⟩)
    · rw [h2]
      refine rn rfl (fin_is [] rfl ⟨?_, rfl⟩)
      rw [takeAll eQ _ _ rfl]; rfl
  · have hlt : i < s.length := Classical.byContradiction fun h0 => hend (by have := addAt_end hall (by omega); omega)
    obtain ⟨w, hw⟩ := at_some (xs := s) (i := i) hlt
    have hk : w.kind ≤ p.kind := Classical.byContradiction fun h0 => hend (addAt_next hall hw h0)
    refine rn rfl ?_
    refine goal_draw' [0, 1] 16 rfl ?_
    refine drn [0, 1, 2, 3, 4, 5] (by kernel_rfl) (by kernel_rfl) rfl rfl ?_
    refine AH_guard (i := 6) rfl rfl rfl (fun h1 => ?_) (fun h1 => ?_) <;> (try simp only [gt_iff_lt, ge_iff_le, bne_iff_ne, ne_eq, bne_eq_false_iff_eq, beq_iff_eq, beq_eq_false_iff_ne, Bool.not_eq_true', Bool.not_eq_false', decide_eq_true_eq, decide_eq_false_iff_not, List.length_map] at h1)
    · refine drn [6, 7, 8, 12, 13] (by kernel_rfl) (by kernel_rfl) rfl rfl ?_
      refine AH_did 9 rfl (by kernel_rfl) (by kernel_rfl) (by kernel_rfl) rfl rfl (dA_index (eQ w) rfl rfl rfl rfl rfl rfl rfl (by omega) (by (try simp); omega) (map_at (by simpa using hw)) rfl) ?_
      refine drn [10, 11, 14, 15] (by kernel_rfl) (by kernel_rfl) rfl rfl ?_
      refine AH_end (by kernel_rfl) ?_
      refine rn rfl ?_
      refine goal_cond rfl (fun _ => ?_) (fun h0 => by simp at h0; omega)
      refine rn rfl ?_
      refine round_keep (s.length - (i + 1)) [6, 5, 4, 3, 2] [0, 1, 2] (by omega) rfl ⟨_, i + 1, wrap64 (by omega) (by omega), by omega, rfl, fun j y hj hy => ?_, rfl⟩
      by_cases hji : j = i
      · subst hji; rw [hw] at hy; cases hy; exact hk
      · exact hall j y (by omega) hy
    · exfalso; simp at h1; omega

theorem sAdd_ct (s : Sig) (p : Param) (ls : LenS s) (hpn : p.name.length ≤ 9223372036854775807) : ACalls pk 19 [.agg (eG s), .agg (eQ p)] [] (fun r o => r = .tup [.agg (eG (AddF s p).1), .one (.bool (AddF s p).2)] ∧ o = []) := by
  obtain ⟨s1, s2⟩ := id ls
  refine acalls_of_body Tryz.func19 rfl (by kernel_rfl) rfl ?_
  refine rn rfl ?_
  refine goal_step (step_call [] rfl rfl rfl rfl rfl rfl (svalidSig_ct s (by omega) s2)) ?_
  rintro σ2 ⟨r, o', ⟨rfl, rfl⟩, hσ⟩
  obtain rfl := Option.some.inj hσ
  clear hσ
  refine rn rfl ?_
  refine goal_cond rfl (fun h => ?_) (fun h => ?_) <;> (try simp only [gt_iff_lt, ge_iff_le, bne_iff_ne, ne_eq, bne_eq_false_iff_eq, beq_iff_eq, beq_eq_false_iff_ne, Bool.not_eq_true', Bool.not_eq_false', decide_eq_true_eq, decide_eq_false_iff_not, List.length_map] at h)
  · have hz : AddF s p = ([], false) := by unfold AddF; rw [h]; rfl
    rw [hz]
    exact rn rfl (fin_is [] rfl ⟨rfl, rfl⟩)
  have os := okSig_iff.1 h
  have hsl := os.len
  have hz : AddF s p = checkG (addQ s p) := by unfold AddF checkG; rw [h, Bool.true_and]
  rw [hz]
  have hka := addAt_le s p
  have hlen := addQ_len s p
  have hC := checkedSig_ct (addQ s p) (by omega) (addQ_names ls hpn)
  refine rn rfl ?_
  refine goal_loop_keep (fun m σ => ∃ (q : Int) (i : Nat), q = i ∧ i ≤ s.length ∧ m = s.length - i ∧ (∀ (j : Nat) (q : Param), j < i → s[j]? = some q → q.kind ≤ p.kind) ∧
      σ = ⟨[(6, .one (.int .i64 q)), (5, .one (.bool false)), (4, .one (.op 2 0 0)), (3, .one (.op 1 0 0)), (2, .one (.op 0 0 0))],
        [some ⟨1, [eG s], false, false, true⟩, some ⟨4, [eQ p], false, false, true⟩, some ⟨1, [[.fs []]], false, false, true⟩], []⟩) s.length [6, 5, 4, 3, 2] [0, 1, 2] rfl
    ⟨_, 0, rfl, by omega, by omega, fun j q hj => by omega, rfl⟩ ?_
  rintro m σ ⟨q, i, rfl, hi, rfl, hall, rfl⟩
  by_cases hend : i = addAt s p
  · refine rt1 4 rfl ?_
    refine goal_cutR (fun σ' => σ' = ⟨[(26, .one (.bool false)), (6, .one (.int .i64 i)), (5, .one (.bool false)), (4, .one (.op 2 0 0)), (3, .one (.op 1 0 0)), (2, .one (.op 0 0 0))],
        [some ⟨1, [eG s], false, false, true⟩, some ⟨4, [eQ p], false, false, true⟩, some ⟨1, [[.fs []]], false, false, true⟩], []⟩) ?_ ?_
    · refine goal_draw' [0, 1] 16 rfl ?_
      refine drn [0, 1, 2, 3, 4, 5] (by kernel_rfl) (by kernel_rfl) rfl rfl ?_
      refine AH_guard (i := 6) rfl rfl rfl (fun h1 => ?_) (fun h1 => ?_) <;> (try simp only [gt_iff_lt, ge_iff_le, bne_iff_ne, ne_eq, bne_eq_false_iff_eq, beq_iff_eq, beq_eq_false_iff_ne, Bool.not_eq_true', Bool.not_eq_false', decide_eq_true_eq, decide_eq_false_iff_not, List.length_map] at h1)
      · obtain ⟨w, hw⟩ := at_some (xs := s) (i := i) (by omega)
        have hd : decide (w.kind ≤ p.kind) = false := by simpa using addAt_stop hend hw
        refine drn [6, 7, 8, 12, 13] (by kernel_rfl) (by kernel_rfl) rfl rfl ?_
        refine AH_did 9 rfl (by kernel_rfl) (by kernel_rfl) (by kernel_rfl) rfl rfl (dA_index (eQ w) rfl rfl rfl rfl rfl rfl rfl (by omega) (by (try simp); omega) (map_at (by simpa using hw)) rfl) ?_
        refine drn [10, 11, 14, 15] (by kernel_rfl) (by kernel_rfl) rfl rfl ?_
        refine AH_end (by kernel_rfl) ?_
        refine rn rfl ?_
        rw [hd]
        exact cut_nrm [26, 6, 5, 4, 3, 2] [0, 1, 2] rfl rfl
      · refine drn [6, 7, 8, 9, 10, 11, 12, 13, 14, 15] (by kernel_rfl) (by kernel_rfl) rfl rfl ?_
        refine AH_end (by kernel_rfl) ?_
        refine rn rfl ?_
        exact cut_nrm [26, 6, 5, 4, 3, 2] [0, 1, 2] rfl rfl
    rintro _ rfl
    refine goal_cond rfl (fun h0 => by cases h0) (fun _ => ?_)
    refine rn rfl (round_ext ?_)
    have hA : addQ s p = s.take i ++ [p] ++ s.drop i := by unfold addQ; rw [← hend]; simp
    have hil : i ≤ s.length := hi
    have hcp := copyParams_ct (s.take i) (by simp; omega)
    rw [hA] at hlen hC ⊢
    refine rt1 6 rfl ?_
    refine goal_cutR (fun σ' => σ' = ⟨[(5, .one (.bool (checkG (s.take i ++ [p] ++ s.drop i)).2)), (4, .one (.op 0 0 0))],
        [some ⟨1, [eG (checkG (s.take i ++ [p] ++ s.drop i)).1], false, false, true⟩], []⟩) ?_ ?_
    · refine goal_draw' [0, 1] 18 rfl ?_
      refine drn [0, 1, 2, 5, 8, 9, 10] (by kernel_rfl) (by kernel_rfl) rfl rfl ?_
      refine AH_did 3 rfl (by kernel_rfl) (by kernel_rfl) (by kernel_rfl) rfl rfl (dA_slice 0 i ((s.take i).map eQ) rfl rfl rfl rfl rfl Bnd.none_ (Bnd.some_ rfl rfl) (rows_len eQ_len _) (by omega) (by simp; omega) rfl (by simp)) ?_
      refine AH_did 11 rfl (by kernel_rfl) (by kernel_rfl) (by kernel_rfl) rfl rfl (dA_slice i s.length ((s.drop i).map eQ) rfl rfl rfl rfl rfl (Bnd.some_ rfl rfl) (by simp [Bnd]) (rows_len eQ_len _) (by omega) (by simp) rfl (by rw [List.map_drop, List.take_of_length_le (by simp)])) ?_
      refine AH_two (i := 4) (j := 6) (by kernel_rfl) (step_call [] rfl rfl rfl rfl rfl rfl (hcp)) (by simp) (step_did rfl rfl (dA_step rfl)) (mdOk rfl) ?_ ?_
      · rintro σ2 ⟨r, o', ⟨rfl, rfl⟩, hσ⟩
        obtain rfl := Option.some.inj hσ
        clear hσ
        refine AH_oneDid 6 rfl (by kernel_rfl) rfl (dA_step rfl) (mdOk rfl) ?_
        refine AH_oneDid 7 rfl (by kernel_rfl) rfl (dA_append (old := (s.take i).map eQ) (rows := ([p] : List Param).map eQ) (((s.take i) ++ ([p] : List Param)).map eQ) ((s.take i).length + 1) true (Dst.own rfl rfl rfl rfl rfl (by first | (simp; done) | (simp; omega)) (whole (by first | (simp; done) | (simp; omega)))) (Src.os rfl rfl (Nat.le_refl 1) rfl) rfl rfl rfl rfl rfl rfl rfl rfl (rows_len eQ_len _) (rows_len eQ_len _) (by (try simp only [List.length_map, List.length_append, List.length_cons, List.length_nil, List.length_take, List.length_drop]); show _ * 40 ≤ _; omega) (by first | (simp; done) | (simp; omega)) (by simp) (by first | (simp; done) | (simp; omega)) (fun _ => noOwnR_map _ eQ_noOwn _)) (mdOk rfl) ?_
        refine AH_oneDid 12 rfl (by kernel_rfl) rfl (dA_append (old := (s.take i ++ [p]).map eQ) (rows := (s.drop i : List Param).map eQ) (((s.take i ++ [p]) ++ (s.drop i : List Param)).map eQ) (s.length + 1) true (Dst.own rfl rfl rfl rfl rfl (by first | (simp; done) | (simp; omega)) (whole (by first | (simp; done) | (simp; omega)))) (Src.fs rfl) rfl rfl rfl rfl rfl rfl rfl rfl (rows_len eQ_len _) (rows_len eQ_len _) (by (try simp only [List.length_map, List.length_append, List.length_cons, List.length_nil, List.length_take, List.length_drop]); show _ * 40 ≤ _; omega) (by first | (simp; done) | (simp; omega)) (by simp) (by first | (simp; done) | (simp; omega)) (fun _ => noOwnR_map _ eQ_noOwn _)) (mdOk rfl) ?_
        refine AH_one (i := 13) (by kernel_rfl) (step_callE [] rfl rfl rfl rfl rfl rfl (cons_eq (congrArg (fun x => T.one (C.fs x)) (takeAll eQ (s.take i ++ [p] ++ s.drop i) _ hlen)) rfl) (hC)) (by simp) ?_
        rintro σ2 ⟨r, o', ⟨rfl, rfl⟩, hσ⟩
        obtain rfl := Option.some.inj hσ
        clear hσ
        refine drn [14, 15] (by kernel_rfl) (by kernel_rfl) rfl rfl ?_
        refine AH_oneDid 16 rfl (by kernel_rfl) rfl (dA_step rfl) (mdOk rfl) ?_
        refine drn [17] (by kernel_rfl) (by kernel_rfl) rfl rfl ?_
        refine AH_end (by kernel_rfl) ?_
        refine rn rfl ?_
        exact cut_nrm [5, 4] [2] rfl rfl
      · rintro _ rfl
        refine AH_one (i := 4) (by kernel_rfl) (step_call [] rfl rfl rfl rfl rfl rfl (hcp)) (by simp) ?_
        rintro σ2 ⟨r, o', ⟨rfl, rfl⟩, hσ⟩
        obtain rfl := Option.some.inj hσ
        clear hσ
        refine AH_oneDid 7 rfl (by kernel_rfl) rfl (dA_append (old := (s.take i).map eQ) (rows := ([p] : List Param).map eQ) (((s.take i) ++ ([p] : List Param)).map eQ) ((s.take i).length + 1) true (Dst.own rfl rfl rfl rfl rfl (by first | (simp; done) | (simp; omega)) (whole (by first | (simp; done) | (simp; omega)))) (Src.os rfl rfl (Nat.le_refl 1) rfl) rfl rfl rfl rfl rfl rfl rfl rfl (rows_len eQ_len _) (rows_len eQ_len _) (by (try simp only [List.length_map, List.length_append, List.length_cons, List.length_nil, List.length_take, List.length_drop]); show _ * 40 ≤ _; omega) (by first | (simp; done) | (simp; omega)) (by simp) (by first | (simp; done) | (simp; omega)) (fun _ => noOwnR_map _ eQ_noOwn _)) (mdOk rfl) ?_
        refine AH_oneDid 12 rfl (by kernel_rfl) rfl (dA_append (old := (s.take i ++ [p]).map eQ) (rows := (s.drop i : List Param).map eQ) (((s.take i ++ [p]) ++ (s.drop i : List Param)).map eQ) (s.length + 1) true (Dst.own rfl rfl rfl rfl rfl (by first | (simp; done) | (simp; omega)) (whole (by first | (simp; done) | (simp; omega)))) (Src.fs rfl) rfl rfl rfl rfl rfl rfl rfl rfl (rows_len eQ_len _) (rows_len eQ_len _) (by (try simp only [List.length_map, List.length_append, List.length_cons, List.length_nil, List.length_take, List.length_drop]); show _ * 40 ≤ _; omega) (by first | (simp; done) | (simp; omega)) (by simp) (by first | (simp; done) | (simp; omega)) (fun _ => noOwnR_map _ eQ_noOwn _)) (mdOk rfl) ?_
        refine AH_one (i := 13) (by kernel_rfl) (step_callE [] rfl rfl rfl rfl rfl rfl (cons_eq (congrArg (fun x => T.one (C.fs x)) (takeAll eQ (s.take i ++ [p] ++ s.drop i) _ hlen)) rfl) (hC)) (by simp) ?_
        rintro σ2 ⟨r, o', ⟨rfl, rfl⟩, hσ⟩
        obtain rfl := Option.some.inj hσ
        clear hσ
        refine drn [14, 15] (by kernel_rfl) (by kernel_rfl) rfl rfl ?_
        refine AH_oneDid 16 rfl (by kernel_rfl) rfl (dA_step rfl) (mdOk rfl) ?_
        refine drn [17] (by kernel_rfl) (by kernel_rfl) rfl rfl ?_
        refine AH_end (by kernel_rfl) ?_
        refine rn rfl ?_
        exact cut_nrm [5, 4] [2] rfl rfl
    rintro _ rfl
    exact rn rfl (fin_is [] rfl ⟨rfl, rfl⟩)
  · have hlt : i < s.length := Classical.byContradiction fun h0 => hend (by have := addAt_end hall (by omega); omega)
    obtain ⟨w, hw⟩ := at_some (xs := s) (i := i) hlt
    have hk : w.kind ≤ p.kind := Classical.byContradiction fun h0 => hend (addAt_next hall hw h0)
    refine rn rfl ?_
    refine goal_draw' [0, 1] 16 rfl ?_
    refine drn [0, 1, 2, 3, 4, 5] (by kernel_rfl) (by kernel_rfl) rfl rfl ?_
    refine AH_guard (i := 6) rfl rfl rfl (fun h1 => ?_) (fun h1 => ?_) <;> (try simp only [gt_iff_lt, ge_iff_le, bne_iff_ne, ne_eq, bne_eq_false_iff_eq, beq_iff_eq, beq_eq_false_iff_ne, Bool.not_eq_true', Bool.not_eq_false', decide_eq_true_eq, decide_eq_false_iff_not, List.length_map] at h1)
    · refine drn [6, 7, 8, 12, 13] (by kernel_rfl) (by kernel_rfl) rfl rfl ?_
      refine AH_did 9 rfl (by kernel_rfl) (by kernel_rfl) (by kernel_rfl) rfl rfl (dA_index (eQ w) rfl rfl rfl rfl rfl rfl rfl (by omega) (by (try simp); omega) (map_at (by simpa using hw)) rfl) ?_
      refine drn [10, 11, 14, 15] (by kernel_rfl) (by kernel_rfl) rfl rfl ?_
      refine AH_end (by kernel_rfl) ?_
      refine rn rfl ?_
      refine goal_cond rfl (fun _ => ?_) (fun h0 => by simp at h0; omega)
      refine rn rfl ?_
      refine round_keep (s.length - (i + 1)) [6, 5, 4, 3, 2] [0, 1, 2] (by omega) rfl ⟨_, i + 1, wrap64 (by omega) (by omega), by omega, rfl, fun j y hj hy => ?_, rfl⟩
      by_cases hji : j = i
      · subst hji; rw [hw] at hy; cases hy; exact hk
      · exact hall j y (by omega) hy
    · exfalso; simp at h1; omega

theorem addF_len {s : Sig} (hs : SmallS s) (p : Param) : (AddF s p).1.length ≤ 9 := by
  unfold AddF; split <;> simp [addQ_len]; exact hs.len

theorem fnAddParamFits_ct (bs : Str) (hl : bs.length ≤ 9223372036854775807) : ACalls pk 4 [.one (.fs (bs.map rowB))] [] (fun r o => r = .one (.bool true) ∧ o = []) := by
  refine acalls_of_body Tryz.func4 rfl (by kernel_rfl) rfl ?_
  refine rn rfl ?_
  refine goal_cond rfl (fun h => ?_) (fun h => ?_) <;> (try simp only [gt_iff_lt, ge_iff_le, bne_iff_ne, ne_eq, bne_eq_false_iff_eq, beq_iff_eq, beq_eq_false_iff_ne, Bool.not_eq_true', Bool.not_eq_false', decide_eq_true_eq, decide_eq_false_iff_not, List.length_map] at h)
  · exact rn rfl (fin_is [] rfl ⟨rfl, rfl⟩)
  · refine rn rfl ?_
    refine goal_step (step_call [] rfl rfl rfl rfl rfl rfl (drawAdd_ct bs)) ?_
    rintro σ2 ⟨r, o', ⟨s, p, hs, hpn, rfl, rfl⟩, hσ⟩
    obtain rfl := Option.some.inj hσ
    clear hσ
    have ls := hs.lens
    have hsl := hs.len
    have hI := iAdd_ct s p ls (by omega)
    have hS := sAdd_ct s p ls (by omega)
    have hol := addF_len hs p
    have hEq := equalSigSelf_ct (AddF s p).1 (by omega)
    have hok := add_ok (s := s) (p := p)
    have hlen : (AddF s p).2 = true → (AddF s p).1.length = s.length + 1 := fun h0 => by rw [(hok h0).2.1, addQ_len]
    have hfit : (AddF s p).2 = true → 2 ≤ p.kind → (p.kind = 3 → p.hasD = true) → ACalls pk 16 [.agg (eG s), .agg (eG (AddF s p).1)] [] (fun r o => r = .one (.bool true) ∧ o = []) := fun h0 h2 h3 => by
      obtain ⟨a1, a2, a3⟩ := hok h0
      rw [a2]
      exact ifits_ct s (addQ s p) a1 a3 ((add_fits a3 h2 h3).fits a1 a3)
    have hkr : (AddF s p).2 = true → 0 ≤ p.kind := fun h0 => by
      obtain ⟨a1, a2, a3⟩ := hok h0
      exact (a3.kindRange (p := p) (by unfold addQ; simp)).1
    clear hok
    generalize (AddF s p).1 = A at *
    generalize (AddF s p).2 = c at *
    refine rn rfl ?_
    refine goal_step (step_call [] rfl rfl rfl rfl rfl rfl (hI)) ?_
    rintro σ2 ⟨r, o', ⟨rfl, rfl⟩, hσ⟩
    obtain rfl := Option.some.inj hσ
    clear hσ
    refine rn rfl ?_
    refine rn rfl ?_
    refine goal_step (step_call [] rfl rfl rfl rfl rfl rfl (hS)) ?_
    rintro σ2 ⟨r, o', ⟨rfl, rfl⟩, hσ⟩
    obtain rfl := Option.some.inj hσ
    clear hσ
    refine rn rfl ?_
    refine rn rfl ?_
    refine goal_step (step_call [] rfl rfl rfl rfl rfl rfl (hEq)) ?_
    rintro σ2 ⟨r, o', ⟨rfl, rfl⟩, hσ⟩
    obtain rfl := Option.some.inj hσ
    clear hσ
    refine rn rfl ?_
    refine goal_guard rfl rfl rfl (fun h1 => by cases h1) (fun _ => ?_)
    refine rn rfl ?_
    refine goal_guard rfl rfl rfl (fun h2 => by simp at h2) (fun _ => ?_)
    refine rn rfl ?_
    refine goal_cond rfl (fun h3 => ?_) (fun h3 => ?_)
    · refine rn rfl ?_
      refine goal_step (step_call [] rfl rfl rfl rfl rfl rfl (hEq)) ?_
      rintro σ2 ⟨r, o', ⟨rfl, rfl⟩, hσ⟩
      obtain rfl := Option.some.inj hσ
      clear hσ
      refine rn rfl ?_
      refine goal_guard rfl rfl rfl (fun _ => ?_) (fun h4 => by cases h4)
      refine rn rfl (fin_is [] rfl ⟨?_, rfl⟩)
      simp
    · have hc : c = true := by simpa using h3
      have hln := hlen hc
      have hft := hfit hc
      have hk0 := hkr hc
      refine rn rfl ?_
      refine goal_guard rfl rfl rfl (fun k0 => ?_) (fun k0 => ?_) <;> (try simp only [gt_iff_lt, ge_iff_le, bne_iff_ne, ne_eq, bne_eq_false_iff_eq, beq_iff_eq, beq_eq_false_iff_ne, Bool.not_eq_true', Bool.not_eq_false', decide_eq_true_eq, decide_eq_false_iff_not, List.length_map] at k0)
      · refine rn rfl (fin_is [] rfl ⟨?_, rfl⟩)
        rw [List.length_map, List.length_map, wrap64 (by omega) (by omega)]; simp; omega
      · refine rn rfl ?_
        refine goal_guard rfl rfl rfl (fun k1 => ?_) (fun k1 => ?_) <;> (try simp only [gt_iff_lt, ge_iff_le, bne_iff_ne, ne_eq, bne_eq_false_iff_eq, beq_iff_eq, beq_eq_false_iff_ne, Bool.not_eq_true', Bool.not_eq_false', decide_eq_true_eq, decide_eq_false_iff_not, List.length_map] at k1)
        · refine rn rfl (fin_is [] rfl ⟨?_, rfl⟩)
          rw [List.length_map, List.length_map, wrap64 (by omega) (by omega)]; simp; omega
        · refine rn rfl ?_
          refine goal_guard rfl rfl rfl (fun k3 => ?_) (fun k3 => ?_) <;> (try simp only [gt_iff_lt, ge_iff_le, bne_iff_ne, ne_eq, bne_eq_false_iff_eq, beq_iff_eq, beq_eq_false_iff_ne, Bool.not_eq_true', Bool.not_eq_false', decide_eq_true_eq, decide_eq_false_iff_not, List.length_map] at k3)
          · refine rn rfl ?_
            refine goal_cond rfl (fun kd => ?_) (fun kd => ?_) <;> (try simp only [gt_iff_lt, ge_iff_le, bne_iff_ne, ne_eq, bne_eq_false_iff_eq, beq_iff_eq, beq_eq_false_iff_ne, Bool.not_eq_true', Bool.not_eq_false', decide_eq_true_eq, decide_eq_false_iff_not, List.length_map] at kd)
            · refine rn rfl ?_
              refine rn rfl (fin_is [] rfl ⟨?_, rfl⟩)
              rw [List.length_map, List.length_map, wrap64 (by omega) (by omega)]; simp; omega
            · refine rn rfl ?_
              refine goal_step (step_call [] rfl rfl rfl rfl rfl rfl (hft (by omega) (fun _ => by simpa using kd))) ?_
              rintro σ2 ⟨r, o', ⟨rfl, rfl⟩, hσ⟩
              obtain rfl := Option.some.inj hσ
              clear hσ
              refine rn rfl ?_
              exact rn rfl (fin_is [] rfl ⟨rfl, rfl⟩)
          · refine rn rfl ?_
            refine goal_step (step_call [] rfl rfl rfl rfl rfl rfl (hft (by omega) (fun h0 => by omega))) ?_
            rintro σ2 ⟨r, o', ⟨rfl, rfl⟩, hσ⟩
            obtain rfl := Option.some.inj hσ
            clear hσ
            refine rn rfl ?_
            exact rn rfl (fin_is [] rfl ⟨rfl, rfl⟩)

end Go.Proofs.YtbaglnfffgonlaaGreatDoor
