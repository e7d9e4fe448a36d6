/- Part 3 of the proof: an abstract machine over the model; contracts of the functions that the law reaches. -/
import Derived.Test.YthbnieiohbpacaaGreatKTBS2
set_option linter.unusedVariables false
set_option linter.unusedSimpArgs false
namespace Go.Proofs.YthbnieiohbpacaaGreat
open Go
set_option maxRecDepth 100000
set_option maxHeartbeats 1000000

theorem equalInts_ct (xs ys : List Int) (hx : xs.length ≤ 16777216) :
    ACalls pk 11 [.one (.fs (xs.map eI)), .one (.fs (ys.map eI))] [] (fun r o => r = .one (.bool (decide (xs = ys))) ∧ o = []) := by
  refine acalls_of_body Tryz.func11 rfl (by kernel_rfl) rfl ?_
  refine rn rfl ?_
  refine goal_cond rfl (fun h => ?_) (fun h => ?_) <;> simp only [List.length_map, bne_iff_ne, ne_eq, bne_eq_false_iff_eq] at h
  · refine rn rfl (fin_is [] rfl ⟨?_, rfl⟩)
    have : xs ≠ ys := fun h0 => h (by rw [h0])
    simp [this]
  · have hlen : xs.length = ys.length := by omega
    refine rn rfl ?_
    refine goal_loop_keep (fun m σ => ∃ (n : Int) (i : Nat), n = i ∧ i ≤ xs.length ∧ m = xs.length - i ∧ xs.take i = ys.take i ∧
        σ = ⟨[(5, .one (.int .i64 n)), (1, .one (.fs (ys.map eI))), (0, .one (.fs (xs.map eI)))], [], []⟩) xs.length [5, 1, 0] [] rfl
      ⟨_, 0, rfl, by omega, by omega, rfl, rfl⟩ ?_
    rintro m σ ⟨n, i, rfl, hi, rfl, hpre, rfl⟩
    refine rn rfl ?_
    refine goal_cond rfl (fun h => ?_) (fun h => ?_) <;> simp only [decide_eq_true_eq, decide_eq_false_iff_not, List.length_map] at h
    · obtain ⟨x, hxi⟩ := at_some (xs := xs) (i := i) (by omega)
      obtain ⟨y, hyi⟩ := at_some (xs := ys) (i := i) (by omega)
      refine rn rfl ?_
      refine goal_draw' [] 9 rfl ?_
      refine drn [0, 1, 4, 5] (by kernel_rfl) (by kernel_rfl) rfl rfl ?_
      refine AH_did 2 rfl (by kernel_rfl) (by kernel_rfl) (by kernel_rfl) rfl rfl (dA_index (eI x) rfl rfl rfl rfl rfl rfl rfl (by omega) (by simp; omega) (map_at (by simpa using hxi)) rfl) ?_
      refine AH_did 6 rfl (by kernel_rfl) (by kernel_rfl) (by kernel_rfl) rfl rfl (dA_index (eI y) rfl rfl rfl rfl rfl rfl rfl (by omega) (by simp; omega) (map_at (by simpa using hyi)) rfl) ?_
      refine drn [3, 7, 8] (by kernel_rfl) (by kernel_rfl) rfl rfl ?_
      refine AH_end (by kernel_rfl) ?_
      refine rn rfl ?_
      have hstep := take_eq_step hpre hxi hyi
      refine goal_cond rfl (fun h2 => ?_) (fun h2 => ?_) <;> simp only [bne_iff_ne, ne_eq, bne_eq_false_iff_eq] at h2
      · refine rn rfl ?_
        refine round_ret (fin_is [] rfl ⟨?_, rfl⟩)
        have : xs ≠ ys := fun h0 => h2 (hstep.1 (by rw [h0]))
        simp [this]
      · refine rn rfl ?_
        refine round_keep (xs.length - (i + 1)) [5, 1, 0] [] (by omega) rfl ⟨_, i + 1, ?_, by omega, rfl, hstep.2 h2, rfl⟩
        exact wrap64 (by omega) (by omega)
    · refine rn rfl ?_
      refine round_ext ?_
      refine rn rfl (fin_is [] rfl ⟨?_, rfl⟩)
      rw [show i = xs.length by omega, List.take_length, hlen, List.take_length] at hpre
      simp [hpre]

theorem eqPair_b (x y : Pair) : eqCells (eP x) (eP y) = some (decide (x = y)) := by
  obtain ⟨n, v⟩ := x
  obtain ⟨n', v'⟩ := y
  simp only [eP, eqCells, eqCell, eqKind, Pair.mk.injEq, Bool.and_true, Option.some.injEq]
  by_cases h1 : n = n' <;> by_cases h2 : v = v' <;> simp [h1, h2]

theorem equalPairs_ct (xs ys : List Pair) (hx : xs.length ≤ 16777216) :
    ACalls pk 12 [.one (.fs (xs.map eP)), .one (.fs (ys.map eP))] [] (fun r o => r = .one (.bool (decide (xs = ys))) ∧ o = []) := by
  refine acalls_of_body Tryz.func12 rfl (by kernel_rfl) rfl ?_
  refine rn rfl ?_
  refine goal_cond rfl (fun h => ?_) (fun h => ?_) <;> simp only [List.length_map, bne_iff_ne, ne_eq, bne_eq_false_iff_eq] at h
  · refine rn rfl (fin_is [] rfl ⟨?_, rfl⟩)
    have : xs ≠ ys := fun h0 => h (by rw [h0])
    simp [this]
  · have hlen : xs.length = ys.length := by omega
    refine rn rfl ?_
    refine goal_loop_keep (fun m σ => ∃ (n : Int) (i : Nat), n = i ∧ i ≤ xs.length ∧ m = xs.length - i ∧ xs.take i = ys.take i ∧
        σ = ⟨[(5, .one (.int .i64 n)), (1, .one (.fs (ys.map eP))), (0, .one (.fs (xs.map eP)))], [], []⟩) xs.length [5, 1, 0] [] rfl
      ⟨_, 0, rfl, by omega, by omega, rfl, rfl⟩ ?_
    rintro m σ ⟨n, i, rfl, hi, rfl, hpre, rfl⟩
    refine rn rfl ?_
    refine goal_cond rfl (fun h => ?_) (fun h => ?_) <;> simp only [decide_eq_true_eq, decide_eq_false_iff_not, List.length_map] at h
    · obtain ⟨x, hxi⟩ := at_some (xs := xs) (i := i) (by omega)
      obtain ⟨y, hyi⟩ := at_some (xs := ys) (i := i) (by omega)
      refine rn rfl ?_
      refine goal_draw' [] 9 rfl ?_
      refine drn [0, 1, 4, 5] (by kernel_rfl) (by kernel_rfl) rfl rfl ?_
      refine AH_did 2 rfl (by kernel_rfl) (by kernel_rfl) (by kernel_rfl) rfl rfl (dA_index (eP x) rfl rfl rfl rfl rfl rfl rfl (by omega) (by simp; omega) (map_at (by simpa using hxi)) rfl) ?_
      refine AH_did 6 rfl (by kernel_rfl) (by kernel_rfl) (by kernel_rfl) rfl rfl (dA_index (eP y) rfl rfl rfl rfl rfl rfl rfl (by omega) (by simp; omega) (map_at (by simpa using hyi)) rfl) ?_
      refine drn [3, 7] (by kernel_rfl) (by kernel_rfl) rfl rfl ?_
      refine AH_did 8 rfl (by kernel_rfl) (by kernel_rfl) (by kernel_rfl) rfl rfl (dA_eqStruct (b := decide (x = y)) (!decide (x = y)) (.inr ⟨rfl, rfl⟩) rfl rfl rfl rfl rfl rfl (eqPair_b x y) (by kernel_rfl) (by kernel_rfl) (by kernel_rfl) rfl) ?_
      refine AH_end (by kernel_rfl) ?_
      refine rn rfl ?_
      have hstep := take_eq_step hpre hxi hyi
      refine goal_cond rfl (fun h2 => ?_) (fun h2 => ?_) <;> simp only [Bool.not_eq_true', Bool.not_eq_false', decide_eq_true_eq, decide_eq_false_iff_not] at h2
      · refine rn rfl ?_
        refine round_ret (fin_is [] rfl ⟨?_, rfl⟩)
        have : xs ≠ ys := fun h0 => h2 (hstep.1 (by rw [h0]))
        simp [this]
      · refine rn rfl ?_
        refine round_keep (xs.length - (i + 1)) [5, 1, 0] [] (by omega) rfl ⟨_, i + 1, ?_, by omega, rfl, hstep.2 h2, rfl⟩
        exact wrap64 (by omega) (by omega)
    · refine rn rfl ?_
      refine round_ext ?_
      refine rn rfl (fin_is [] rfl ⟨?_, rfl⟩)
      rw [show i = xs.length by omega, List.take_length, hlen, List.take_length] at hpre
      simp [hpre]

theorem libEqualI_ct (xs ys : List Int) (hx : xs.length ≤ 16777216) :
    ACalls pk 40 [.one (.fs (xs.map eI)), .one (.fs (ys.map eI))] [] (fun r o => r = .one (.bool (decide (xs = ys))) ∧ o = []) := by
  refine acalls_of_body Tryz.func40 rfl (by kernel_rfl) rfl ?_
  refine rn rfl ?_
  refine goal_cond rfl (fun h => ?_) (fun h => ?_) <;> simp only [List.length_map, bne_iff_ne, ne_eq, bne_eq_false_iff_eq] at h
  · refine rn rfl (fin_is [] rfl ⟨?_, rfl⟩)
    have : xs ≠ ys := fun h0 => h (by rw [h0])
    simp [this]
  · have hlen : xs.length = ys.length := by omega
    refine rn rfl ?_
    refine goal_loop_keep (fun m σ => ∃ (n L : Int) (i : Nat), n = i ∧ L = xs.length ∧ i ≤ xs.length ∧ m = xs.length - i ∧ xs.take i = ys.take i ∧
        σ = ⟨[(13, .one (.int .i64 n)), (12, .one (.int .i64 L)), (1, .one (.fs (ys.map eI))), (0, .one (.fs (xs.map eI)))], [], []⟩) xs.length [13, 12, 1, 0] [] rfl
      ⟨_, _, 0, rfl, by simp, by omega, by omega, rfl, rfl⟩ ?_
    rintro m σ ⟨n, L, i, rfl, rfl, hi, rfl, hpre, rfl⟩
    refine rn rfl ?_
    refine goal_cond rfl (fun h => ?_) (fun h => ?_) <;> simp only [decide_eq_true_eq, decide_eq_false_iff_not] at h
    · obtain ⟨x, hxi⟩ := at_some (xs := xs) (i := i) (by omega)
      obtain ⟨y, hyi⟩ := at_some (xs := ys) (i := i) (by omega)
      refine rn rfl ?_
      refine goal_draw' [] 9 rfl ?_
      refine drn [0, 1, 4, 5] (by kernel_rfl) (by kernel_rfl) rfl rfl ?_
      refine AH_did 2 rfl (by kernel_rfl) (by kernel_rfl) (by kernel_rfl) rfl rfl (dA_index (eI x) rfl rfl rfl rfl rfl rfl rfl (by omega) (by simp; omega) (map_at (by simpa using hxi)) rfl) ?_
      refine AH_did 6 rfl (by kernel_rfl) (by kernel_rfl) (by kernel_rfl) rfl rfl (dA_index (eI y) rfl rfl rfl rfl rfl rfl rfl (by omega) (by simp; omega) (map_at (by simpa using hyi)) rfl) ?_
      refine drn [3, 7, 8] (by kernel_rfl) (by kernel_rfl) rfl rfl ?_
      refine AH_end (by kernel_rfl) ?_
      refine rn rfl ?_
      have hstep := take_eq_step hpre hxi hyi
      refine goal_cond rfl (fun h2 => ?_) (fun h2 => ?_) <;> simp only [bne_iff_ne, ne_eq, bne_eq_false_iff_eq] at h2
      · refine rn rfl ?_
        refine round_ret (fin_is [] rfl ⟨?_, rfl⟩)
        have : xs ≠ ys := fun h0 => h2 (hstep.1 (by rw [h0]))
        simp [this]
      · refine rn rfl ?_
        refine round_keep (xs.length - (i + 1)) [13, 12, 1, 0] [] (by omega) rfl ⟨_, _, i + 1, ?_, rfl, by omega, rfl, hstep.2 h2, rfl⟩
        exact wrap64 (by omega) (by omega)
    · refine rn rfl ?_
      refine round_ext ?_
      refine rn rfl (fin_is [] rfl ⟨?_, rfl⟩)
      rw [show i = xs.length by omega, List.take_length, hlen, List.take_length] at hpre
      simp [hpre]

theorem libEqualP_ct (xs ys : List Pair) (hx : xs.length ≤ 16777216) :
    ACalls pk 41 [.one (.fs (xs.map eP)), .one (.fs (ys.map eP))] [] (fun r o => r = .one (.bool (decide (xs = ys))) ∧ o = []) := by
  refine acalls_of_body Tryz.func41 rfl (by kernel_rfl) rfl ?_
  refine rn rfl ?_
  refine goal_cond rfl (fun h => ?_) (fun h => ?_) <;> simp only [List.length_map, bne_iff_ne, ne_eq, bne_eq_false_iff_eq] at h
  · refine rn rfl (fin_is [] rfl ⟨?_, rfl⟩)
    have : xs ≠ ys := fun h0 => h (by rw [h0])
    simp [this]
  · have hlen : xs.length = ys.length := by omega
    refine rn rfl ?_
    refine goal_loop_keep (fun m σ => ∃ (n L : Int) (i : Nat), n = i ∧ L = xs.length ∧ i ≤ xs.length ∧ m = xs.length - i ∧ xs.take i = ys.take i ∧
        σ = ⟨[(13, .one (.int .i64 n)), (12, .one (.int .i64 L)), (1, .one (.fs (ys.map eP))), (0, .one (.fs (xs.map eP)))], [], []⟩) xs.length [13, 12, 1, 0] [] rfl
      ⟨_, _, 0, rfl, by simp, by omega, by omega, rfl, rfl⟩ ?_
    rintro m σ ⟨n, L, i, rfl, rfl, hi, rfl, hpre, rfl⟩
    refine rn rfl ?_
    refine goal_cond rfl (fun h => ?_) (fun h => ?_) <;> simp only [decide_eq_true_eq, decide_eq_false_iff_not] at h
    · obtain ⟨x, hxi⟩ := at_some (xs := xs) (i := i) (by omega)
      obtain ⟨y, hyi⟩ := at_some (xs := ys) (i := i) (by omega)
      refine rn rfl ?_
      refine goal_draw' [] 9 rfl ?_
      refine drn [0, 1, 4, 5] (by kernel_rfl) (by kernel_rfl) rfl rfl ?_
      refine AH_did 2 rfl (by kernel_rfl) (by kernel_rfl) (by kernel_rfl) rfl rfl (dA_index (eP x) rfl rfl rfl rfl rfl rfl rfl (by omega) (by simp; omega) (map_at (by simpa using hxi)) rfl) ?_
      refine AH_did 6 rfl (by kernel_rfl) (by kernel_rfl) (by kernel_rfl) rfl rfl (dA_index (eP y) rfl rfl rfl rfl rfl rfl rfl (by omega) (by simp; omega) (map_at (by simpa using hyi)) rfl) ?_
      refine drn [3, 7] (by kernel_rfl) (by kernel_rfl) rfl rfl ?_
      refine AH_did 8 rfl (by kernel_rfl) (by kernel_rfl) (by kernel_rfl) rfl rfl (dA_eqStruct (b := decide (x = y)) (!decide (x = y)) (.inr ⟨rfl, rfl⟩) rfl rfl rfl rfl rfl rfl (eqPair_b x y) (by kernel_rfl) (by kernel_rfl) (by kernel_rfl) rfl) ?_
      refine AH_end (by kernel_rfl) ?_
      refine rn rfl ?_
      have hstep := take_eq_step hpre hxi hyi
      refine goal_cond rfl (fun h2 => ?_) (fun h2 => ?_) <;> simp only [Bool.not_eq_true', Bool.not_eq_false', decide_eq_true_eq, decide_eq_false_iff_not] at h2
      · refine rn rfl ?_
        refine round_ret (fin_is [] rfl ⟨?_, rfl⟩)
        have : xs ≠ ys := fun h0 => h2 (hstep.1 (by rw [h0]))
        simp [this]
      · refine rn rfl ?_
        refine round_keep (xs.length - (i + 1)) [13, 12, 1, 0] [] (by omega) rfl ⟨_, _, i + 1, ?_, rfl, by omega, rfl, hstep.2 h2, rfl⟩
        exact wrap64 (by omega) (by omega)
    · refine rn rfl ?_
      refine round_ext ?_
      refine rn rfl (fin_is [] rfl ⟨?_, rfl⟩)
      rw [show i = xs.length by omega, List.take_length, hlen, List.take_length] at hpre
      simp [hpre]

theorem equalFlat_ct (f g : Flat) (h1 : f.places.length ≤ 16777216) (h2 : f.named.length ≤ 16777216) :
    ACalls pk 5 [.agg (eF f), .agg (eF g)] [] (fun r o => r = .one (.bool (decide (f = g))) ∧ o = []) := by
  obtain ⟨a, b⟩ := f
  obtain ⟨a', b'⟩ := g
  refine acalls_of_body Tryz.func5 rfl (by kernel_rfl) rfl ?_
  refine rn rfl ?_
  refine goal_step (step_call [] rfl rfl rfl rfl rfl rfl (equalInts_ct a a' h1)) ?_
  rintro σ2 ⟨r, o', ⟨rfl, rfl⟩, hσ⟩
  obtain rfl := Option.some.inj hσ
  refine rn rfl ?_
  refine goal_guard rfl rfl rfl (fun h => ?_) (fun h => ?_) <;> simp only [decide_eq_true_eq, decide_eq_false_iff_not] at h
  · refine rn rfl ?_
    refine goal_step (step_call [] rfl rfl rfl rfl rfl rfl (equalPairs_ct b b' h2)) ?_
    rintro σ2 ⟨r, o', ⟨rfl, rfl⟩, hσ⟩
    obtain rfl := Option.some.inj hσ
    exact rn rfl (fin_is [] rfl ⟨by simp [h], rfl⟩)
  · exact rn rfl (fin_is [] rfl ⟨by simp [h], rfl⟩)

theorem copyOf_ct (f : Flat) (h1 : f.places.length ≤ 16777216) (h2 : f.named.length ≤ 16777216) :
    ACalls pk 21 [.agg (eF f)] [] (fun r o => r = rF f ∧ o = oF f) := by
  refine acalls_of_body Tryz.func21 rfl (by kernel_rfl) rfl ?_
  refine rn rfl ?_
  refine goal_draw' [0] 8 rfl ?_
  refine drn [0, 1, 3, 4] (by kernel_rfl) (by kernel_rfl) rfl rfl ?_
  refine AH_one (i := 2) (by kernel_rfl) (step_call [] rfl rfl rfl rfl rfl rfl (clonInt_ct f.places h1)) (by simp) ?_
  rintro σ2 ⟨r, o', ⟨rfl, rfl⟩, hσ⟩
  obtain rfl := Option.some.inj hσ
  refine AH_one (i := 5) (by kernel_rfl) (step_call [] rfl rfl rfl rfl rfl rfl (clonPair_ct f.named h2)) (by simp) ?_
  rintro σ2 ⟨r, o', ⟨rfl, rfl⟩, hσ⟩
  obtain rfl := Option.some.inj hσ
  refine drn [6] (by kernel_rfl) (by kernel_rfl) rfl rfl ?_
  refine AH_oneDid 7 rfl (by kernel_rfl) rfl (dA_step rfl) (mdOk rfl) ?_
  refine AH_end (by kernel_rfl) ?_
  exact rn rfl (fin_is [2, 3] rfl ⟨rfl, rfl⟩)

def putP (ps : List Pair) (n : Str) (v : Int) : List Pair :=
  if ps.any (nameIs n) then ps.modify (ps.findIdx (nameIs n)) (fun p => ⟨p.name, v⟩) else ps ++ [⟨n, v⟩]

theorem putP_length (ps : List Pair) (n : Str) (v : Int) : (putP ps n v).length ≤ ps.length + 1 := by
  unfold putP; split <;> simp

theorem putP_mem {ps : List Pair} {n : Str} {v : Int} {p : Pair} (h : p ∈ putP ps n v) : p.name = n ∨ ∃ q ∈ ps, p.name = q.name := by
  unfold putP at h
  split at h
  · rename_i hy
    obtain ⟨j, hj⟩ := List.getElem?_of_mem h
    rw [List.getElem?_modify] at hj
    cases hq : ps[j]? with
    | none => rw [hq] at hj; simp at hj
    | some q =>
      rw [hq] at hj
      right
      refine ⟨q, List.mem_of_getElem? hq, ?_⟩
      simp at hj
      split at hj <;> (subst hj; rfl)
  · rcases List.mem_append.1 h with h | h
    · exact .inr ⟨p, h, rfl⟩
    · simp at h; subst h; exact .inl rfl

/-- What draws give: small flats. -/
structure Small (f : Flat) (a b : Nat) : Prop where
  places : f.places.length ≤ a
  named : f.named.length ≤ b
  names : ∀ p ∈ f.named, p.name.length ≤ 7
  vals : ∀ p ∈ f.named, -100 ≤ p.value ∧ p.value ≤ 100
  nums : ∀ n ∈ f.places, -100 ≤ n ∧ n ≤ 100

theorem takeAll {α : Type} (enc : α → List C) (xs : List α) (n : Nat) (h : xs.length = n) : List.take n (List.drop 0 (xs.map enc)) = xs.map enc := by
  subst h; simp [List.take_of_length_le]

theorem Small.long {f : Flat} {a b : Nat} (h : Small f a b) : ∀ p ∈ f.named, p.name.length ≤ 9223372036854775807 := fun p hp => by have := h.names p hp; omega

theorem insL_perm (p : Pair) (S : List Pair) : (insL p S).Perm (p :: S) := by
  unfold insL
  have h := List.takeWhile_append_dropWhile (p := fun q => ltN q p) (l := S)
  exact (List.perm_middle).trans (by rw [h])

theorem foldl_insL_perm : ∀ (xs S : List Pair), (xs.foldl (fun out p => insL p out) S).Perm (xs ++ S)
  | [], S => by simp
  | x :: xs, S => by
    simp only [List.foldl_cons]
    exact (foldl_insL_perm xs (insL x S)).trans ((List.Perm.append_left xs (insL_perm x S)).trans List.perm_middle)

theorem sortL_perm (xs : List Pair) : (sortL xs).Perm xs := by simpa [sortL] using foldl_insL_perm xs []

theorem foldl_insL_sorted : ∀ (xs S : List Pair), Sorted S → (namesOf (xs ++ S)).Nodup → Sorted (xs.foldl (fun out p => insL p out) S)
  | [], S, h, _ => h
  | x :: xs, S, h, hn => by
    simp only [List.foldl_cons]
    have hx : ∀ q ∈ S, q.name ≠ x.name := by
      intro q hq he
      simp only [namesOf, List.cons_append, List.map_cons, List.nodup_cons, List.map_append, List.mem_append, not_or] at hn
      exact hn.1.2 (he ▸ List.mem_map_of_mem hq)
    refine foldl_insL_sorted xs _ (insL_sorted h hx) ?_
    refine (List.Perm.nodup_iff ?_).1 hn
    exact (List.Perm.map _ ((List.Perm.append_left xs (insL_perm x S)).trans List.perm_middle)).symm

theorem sortL_sorted {xs : List Pair} (h : (namesOf xs).Nodup) : Sorted (sortL xs) := foldl_insL_sorted xs [] List.Pairwise.nil (by simpa using h)

theorem sorted_eq {a b : List Pair} (ha : Sorted a) (hb : Sorted b) (h : a.Perm b) : a = b := by
  refine List.Perm.eq_of_pairwise (le := fun x y => ltN x y = true) ?_ ha hb h
  intro x y _ _ h1 h2
  exact absurd h1 (by rw [show ltN x y = false from ltS_asymm h2]; simp)

theorem sort_iff {a b : List Pair} (ha : (namesOf a).Nodup) (hb : (namesOf b).Nodup) : isortL ltN a = isortL ltN b ↔ a.Perm b := by
  rw [sorts_eq a ha, sorts_eq b hb]
  constructor
  · intro h; exact (sortL_perm a).symm.trans (h ▸ sortL_perm b)
  · intro h; exact sorted_eq (sortL_sorted ha) (sortL_sorted hb) ((sortL_perm a).trans (h.trans (sortL_perm b).symm))

structure OkF (f : Flat) : Prop where
  pairs : ∀ p ∈ f.named, okPair p = true
  nodup : (namesOf f.named).Nodup
  vals : ∀ n ∈ f.places, okVal n = true
  places : f.places.length ≤ 8
  named : f.named.length ≤ 8

theorem okFlat_iff {f : Flat} : okFlat f = true ↔ OkF f := by
  simp only [okFlat, Bool.and_eq_true, List.all_eq_true, decide_eq_true_eq]
  exact ⟨fun ⟨⟨⟨⟨a, b⟩, c⟩, d⟩, e⟩ => ⟨a, b, c, d, e⟩, fun ⟨a, b, c, d, e⟩ => ⟨⟨⟨⟨a, b⟩, c⟩, d⟩, e⟩⟩

structure Param where
  name : Str
  kind : Int
  hasD : Bool
  dflt : Int
deriving DecidableEq

def eQ (p : Param) : List C := [.str p.name, .int .i64 p.kind, .bool p.hasD, .int .i64 p.dflt]

abbrev Sig := List Param

def eG (s : Sig) : List C := [.fs (s.map eQ)]

theorem eQ_len (p : Param) : (eQ p).length = 4 := rfl

def placedQ (p : Param) : Bool := p.kind == 0 || p.kind == 1

def namedQ (p : Param) : Bool := p.kind == 1 || p.kind == 3

def singleQ (p : Param) : Bool := placedQ p || p.kind == 3

theorem singleQ' (p : Param) : (placedQ p || namedQ p) = singleQ p := by
  simp only [singleQ, placedQ, namedQ]
  cases (p.kind == 0) <;> cases (p.kind == 1) <;> cases (p.kind == 3) <;> rfl

theorem iplaced_ct (p : Param) : ACalls pk 19 [.agg (eQ p)] [] (fun r o => r = .one (.bool (placedQ p)) ∧ o = []) := by
  refine acalls_of_body Tryz.func19 rfl (by kernel_rfl) rfl ?_
  refine rn rfl ?_
  refine goal_guard rfl rfl rfl (fun h => ?_) (fun h => ?_)
  · exact rn rfl (fin_is [] rfl ⟨by simp [placedQ, h], rfl⟩)
  · exact rn rfl (fin_is [] rfl ⟨by simp [placedQ, h], rfl⟩)

theorem splaced_ct (p : Param) : ACalls pk 28 [.agg (eQ p)] [] (fun r o => r = .one (.bool (placedQ p)) ∧ o = []) := by
  refine acalls_of_body Tryz.func28 rfl (by kernel_rfl) rfl ?_
  refine rn rfl ?_
  refine goal_guard rfl rfl rfl (fun h => ?_) (fun h => ?_)
  · exact rn rfl (fin_is [] rfl ⟨by simp [placedQ, h], rfl⟩)
  · exact rn rfl (fin_is [] rfl ⟨by simp [placedQ, h], rfl⟩)

theorem inamed_ct (p : Param) : ACalls pk 58 [.agg (eQ p)] [] (fun r o => r = .one (.bool (namedQ p)) ∧ o = []) := by
  refine acalls_of_body Tryz.func58 rfl (by kernel_rfl) rfl ?_
  refine rn rfl ?_
  refine goal_guard rfl rfl rfl (fun h => ?_) (fun h => ?_)
  · exact rn rfl (fin_is [] rfl ⟨by simp [namedQ, h], rfl⟩)
  · exact rn rfl (fin_is [] rfl ⟨by simp [namedQ, h], rfl⟩)

theorem snamed_ct (p : Param) : ACalls pk 75 [.agg (eQ p)] [] (fun r o => r = .one (.bool (namedQ p)) ∧ o = []) := by
  refine acalls_of_body Tryz.func75 rfl (by kernel_rfl) rfl ?_
  refine rn rfl ?_
  refine goal_guard rfl rfl rfl (fun h => ?_) (fun h => ?_)
  · exact rn rfl (fin_is [] rfl ⟨by simp [namedQ, h], rfl⟩)
  · exact rn rfl (fin_is [] rfl ⟨by simp [namedQ, h], rfl⟩)

theorem isingle_ct (p : Param) : ACalls pk 20 [.agg (eQ p)] [] (fun r o => r = .one (.bool (singleQ p)) ∧ o = []) := by
  refine acalls_of_body Tryz.func20 rfl (by kernel_rfl) rfl ?_
  refine rn rfl ?_
  refine goal_step (step_call [] rfl rfl rfl rfl rfl rfl (iplaced_ct p)) ?_
  rintro σ2 ⟨r, o', ⟨rfl, rfl⟩, hσ⟩
  obtain rfl := Option.some.inj hσ
  clear hσ
  refine rn rfl ?_
  refine goal_guard rfl rfl rfl (fun h => ?_) (fun h => ?_)
  · exact rn rfl (fin_is [] rfl ⟨by simp [singleQ, h], rfl⟩)
  · exact rn rfl (fin_is [] rfl ⟨by simp [singleQ, h], rfl⟩)

theorem ssingle_ct (p : Param) : ACalls pk 71 [.agg (eQ p)] [] (fun r o => r = .one (.bool (singleQ p)) ∧ o = []) := by
  refine acalls_of_body Tryz.func71 rfl (by kernel_rfl) rfl ?_
  refine rn rfl ?_
  refine goal_step (step_call [] rfl rfl rfl rfl rfl rfl (splaced_ct p)) ?_
  rintro σ2 ⟨r, o', ⟨rfl, rfl⟩, hσ⟩
  obtain rfl := Option.some.inj hσ
  clear hσ
  refine rn rfl ?_
  refine goal_guard rfl rfl rfl (fun h => ?_) (fun h => ?_)
  · exact rn rfl (fin_is [] rfl ⟨by simp [← singleQ', h], rfl⟩)
  · refine rn rfl ?_
    refine goal_step (step_call [] rfl rfl rfl rfl rfl rfl (snamed_ct p)) ?_
    rintro σ2 ⟨r, o', ⟨rfl, rfl⟩, hσ⟩
    obtain rfl := Option.some.inj hσ
    clear hσ
    refine rn rfl ?_
    exact rn rfl (fin_is [] rfl ⟨by simp [← singleQ', h], rfl⟩)

def qIs (n : Str) (p : Param) : Bool := p.name == n

def kIs (k : Int) (p : Param) : Bool := p.kind == k

theorem findC_ct (p : Param) (n : Str) : ACalls pk 56 [.agg (eQ p), .one (.fp [.str n])] [] (fun r o => r = .one (.bool (qIs n p)) ∧ o = []) := by
  refine acalls_of_body Tryz.func56 rfl (by kernel_rfl) rfl ?_
  refine rn rfl ?_
  exact rn rfl (fin_is [] rfl ⟨rfl, rfl⟩)

theorem takesC_ct (p : Param) : ACalls pk 59 [.agg (eQ p)] [] (fun r o => r = .one (.bool (kIs 4 p)) ∧ o = []) := by
  refine acalls_of_body Tryz.func59 rfl (by kernel_rfl) rfl ?_
  refine rn rfl ?_
  exact rn rfl (fin_is [] rfl ⟨rfl, rfl⟩)

theorem indexQ_ct (xs : List Param) (hb : xs.length ≤ 9223372036854775807) (pred : Param → Bool) (f : FuncId) (cs : List C)
    (hcl : ∀ p, ACalls pk f [.agg (eQ p), .one (.fp cs)] [] (fun r o => r = .one (.bool (pred p)) ∧ o = [])) :
    ACalls pk 55 [.one (.fs (xs.map eQ)), .one (.fn f [.fp cs])] [] (fun r o => r = .one (.int .i64 (idxI pred xs 0)) ∧ o = []) := by
  refine acalls_of_body Tryz.func55 rfl (by kernel_rfl) rfl ?_
  refine rn rfl ?_
  refine goal_loop_keep (fun m σ => ∃ (n L : Int) (i : Nat), n = i ∧ L = xs.length ∧ i ≤ xs.length ∧ m = xs.length - i ∧ idxI pred xs 0 = idxI pred (xs.drop i) i ∧
      σ = ⟨[(8, .one (.int .i64 n)), (7, .one (.int .i64 L)), (1, .one (.fn f [.fp cs])), (0, .one (.fs (xs.map eQ)))], [], []⟩) xs.length [8, 7, 1, 0] [] rfl
    ⟨_, _, 0, rfl, by simp, by omega, by omega, by simp, rfl⟩ ?_
  rintro m σ ⟨n, L, i, rfl, rfl, hi, rfl, hidx, rfl⟩
  refine rn rfl ?_
  refine goal_cond rfl (fun h => ?_) (fun h => ?_) <;> (try simp only [gt_iff_lt, ge_iff_le, bne_iff_ne, ne_eq, bne_eq_false_iff_eq, beq_iff_eq, beq_eq_false_iff_ne, Bool.not_eq_true', Bool.not_eq_false', decide_eq_true_eq, decide_eq_false_iff_not, List.length_map] at h)
  · obtain ⟨p, hp⟩ := at_some (xs := xs) (i := i) (by omega)
    refine rn rfl ?_
    refine goal_did rfl rfl (dA_index (eQ p) rfl rfl rfl rfl rfl rfl rfl (by omega) (by (try simp); omega) (map_at (by simpa using hp)) rfl) ?_
    refine rn rfl ?_
    refine goal_step (step_call [] rfl rfl rfl rfl rfl rfl (hcl p)) ?_
    rintro σ2 ⟨r, o', ⟨rfl, rfl⟩, hσ⟩
    obtain rfl := Option.some.inj hσ
    clear hσ
    refine rn rfl ?_
    refine goal_cond rfl (fun h2 => ?_) (fun h2 => ?_)
    · refine rn rfl (round_ret (fin_is [] rfl ⟨?_, rfl⟩))
      rw [hidx, drop_at hp]; simp [idxI, h2]
    · refine rn rfl ?_
      refine round_keep (xs.length - (i + 1)) [8, 7, 1, 0] [] (by omega) rfl ⟨_, _, i + 1, wrap64 (by omega) (by omega), rfl, by omega, rfl, ?_, rfl⟩
      rw [hidx, drop_at hp]; simp [idxI, h2]
  · refine rn rfl (round_ext ?_)
    refine rn rfl (fin_is [] rfl ⟨?_, rfl⟩)
    rw [hidx, List.drop_eq_nil_of_le (by omega)]; rfl

theorem indexQ0_ct (xs : List Param) (hb : xs.length ≤ 9223372036854775807) (pred : Param → Bool) (f : FuncId)
    (hcl : ∀ p, ACalls pk f [.agg (eQ p)] [] (fun r o => r = .one (.bool (pred p)) ∧ o = [])) :
    ACalls pk 55 [.one (.fs (xs.map eQ)), .one (.fn f [])] [] (fun r o => r = .one (.int .i64 (idxI pred xs 0)) ∧ o = []) := by
  refine acalls_of_body Tryz.func55 rfl (by kernel_rfl) rfl ?_
  refine rn rfl ?_
  refine goal_loop_keep (fun m σ => ∃ (n L : Int) (i : Nat), n = i ∧ L = xs.length ∧ i ≤ xs.length ∧ m = xs.length - i ∧ idxI pred xs 0 = idxI pred (xs.drop i) i ∧
      σ = ⟨[(8, .one (.int .i64 n)), (7, .one (.int .i64 L)), (1, .one (.fn f [])), (0, .one (.fs (xs.map eQ)))], [], []⟩) xs.length [8, 7, 1, 0] [] rfl
    ⟨_, _, 0, rfl, by simp, by omega, by omega, by simp, rfl⟩ ?_
  rintro m σ ⟨n, L, i, rfl, rfl, hi, rfl, hidx, rfl⟩
  refine rn rfl ?_
  refine goal_cond rfl (fun h => ?_) (fun h => ?_) <;> (try simp only [gt_iff_lt, ge_iff_le, bne_iff_ne, ne_eq, bne_eq_false_iff_eq, beq_iff_eq, beq_eq_false_iff_ne, Bool.not_eq_true', Bool.not_eq_false', decide_eq_true_eq, decide_eq_false_iff_not, List.length_map] at h)
  · obtain ⟨p, hp⟩ := at_some (xs := xs) (i := i) (by omega)
    refine rn rfl ?_
    refine goal_did rfl rfl (dA_index (eQ p) rfl rfl rfl rfl rfl rfl rfl (by omega) (by (try simp); omega) (map_at (by simpa using hp)) rfl) ?_
    refine rn rfl ?_
    refine goal_step (step_call [] rfl rfl rfl rfl rfl rfl (hcl p)) ?_
    rintro σ2 ⟨r, o', ⟨rfl, rfl⟩, hσ⟩
    obtain rfl := Option.some.inj hσ
    clear hσ
    refine rn rfl ?_
    refine goal_cond rfl (fun h2 => ?_) (fun h2 => ?_)
    · refine rn rfl (round_ret (fin_is [] rfl ⟨?_, rfl⟩))
      rw [hidx, drop_at hp]; simp [idxI, h2]
    · refine rn rfl ?_
      refine round_keep (xs.length - (i + 1)) [8, 7, 1, 0] [] (by omega) rfl ⟨_, _, i + 1, wrap64 (by omega) (by omega), rfl, by omega, rfl, ?_, rfl⟩
      rw [hidx, drop_at hp]; simp [idxI, h2]
  · refine rn rfl (round_ext ?_)
    refine rn rfl (fin_is [] rfl ⟨?_, rfl⟩)
    rw [hidx, List.drop_eq_nil_of_le (by omega)]; rfl

theorem find_ct (s : Sig) (n : Str) (hb : s.length ≤ 9223372036854775807) : ACalls pk 32 [.one (.fs (s.map eQ)), .one (.str n)] [] (fun r o => r = .one (.int .i64 (idxI (qIs n) s 0)) ∧ o = []) := by
  refine acalls_of_body Tryz.func32 rfl (by kernel_rfl) rfl ?_
  refine rn rfl ?_
  refine goal_step (step_call [] rfl rfl rfl rfl rfl rfl (indexQ_ct s hb (qIs n) _ _ (fun p => findC_ct p n))) ?_
  rintro σ2 ⟨r, o', ⟨rfl, rfl⟩, hσ⟩
  obtain rfl := Option.some.inj hσ
  clear hσ
  refine rn rfl ?_
  exact rn rfl (fin_is [] rfl ⟨rfl, rfl⟩)

theorem sfind_ct (xs : List Param) (n : Str) (hb : xs.length ≤ 9223372036854775807) :
    ACalls pk 70 [.one (.fs (xs.map eQ)), .one (.str n)] [] (fun r o => r = .one (.int .i64 (idxI (qIs n) xs 0)) ∧ o = []) := by
  refine acalls_of_body Tryz.func70 rfl (by kernel_rfl) rfl ?_
  refine rn rfl ?_
  refine goal_loop_keep (fun m σ => ∃ (q : Int) (i : Nat), q = i ∧ i ≤ xs.length ∧ m = xs.length - i ∧ idxI (qIs n) xs 0 = idxI (qIs n) (xs.drop i) i ∧
      σ = ⟨[(5, .one (.int .i64 q)), (1, .one (.str n)), (0, .one (.fs (xs.map eQ)))], [], []⟩) xs.length [5, 1, 0] [] rfl
    ⟨_, 0, rfl, by omega, by omega, by simp, rfl⟩ ?_
  rintro m σ ⟨q, i, rfl, hi, rfl, hidx, rfl⟩
  refine rn rfl ?_
  refine goal_cond rfl (fun h => ?_) (fun h => ?_) <;> (try simp only [gt_iff_lt, ge_iff_le, bne_iff_ne, ne_eq, bne_eq_false_iff_eq, beq_iff_eq, beq_eq_false_iff_ne, Bool.not_eq_true', Bool.not_eq_false', decide_eq_true_eq, decide_eq_false_iff_not, List.length_map] at h)
  · obtain ⟨p, hp⟩ := at_some (xs := xs) (i := i) (by omega)
    refine rn rfl ?_
    refine goal_did rfl rfl (dA_index (eQ p) rfl rfl rfl rfl rfl rfl rfl (by omega) (by (try simp); omega) (map_at (by simpa using hp)) rfl) ?_
    refine rn rfl ?_
    refine goal_cond rfl (fun h2 => ?_) (fun h2 => ?_) <;> (try simp only [gt_iff_lt, ge_iff_le, bne_iff_ne, ne_eq, bne_eq_false_iff_eq, beq_iff_eq, beq_eq_false_iff_ne, Bool.not_eq_true', Bool.not_eq_false', decide_eq_true_eq, decide_eq_false_iff_not, List.length_map] at h2)
    · refine rn rfl (round_ret (fin_is [] rfl ⟨?_, rfl⟩))
      rw [hidx, drop_at hp]; simp [idxI, qIs, h2]
    · refine rn rfl ?_
      refine round_keep (xs.length - (i + 1)) [5, 1, 0] [] (by omega) rfl ⟨_, i + 1, wrap64 (by omega) (by omega), by omega, rfl, ?_, rfl⟩
      rw [hidx, drop_at hp]; simp [idxI, qIs, h2]
  · refine rn rfl (round_ext ?_)
    refine rn rfl (fin_is [] rfl ⟨?_, rfl⟩)
    rw [hidx, List.drop_eq_nil_of_le (by omega)]; rfl

theorem kindAt_ct (xs : List Param) (n : Int) (hb : xs.length ≤ 9223372036854775807) :
    ACalls pk 52 [.one (.fs (xs.map eQ)), .one (.int .i64 n)] [] (fun r o => r = .one (.int .i64 (idxI (kIs n) xs 0)) ∧ o = []) := by
  refine acalls_of_body Tryz.func52 rfl (by kernel_rfl) rfl ?_
  refine rn rfl ?_
  refine goal_loop_keep (fun m σ => ∃ (q : Int) (i : Nat), q = i ∧ i ≤ xs.length ∧ m = xs.length - i ∧ idxI (kIs n) xs 0 = idxI (kIs n) (xs.drop i) i ∧
      σ = ⟨[(5, .one (.int .i64 q)), (1, .one (.int .i64 n)), (0, .one (.fs (xs.map eQ)))], [], []⟩) xs.length [5, 1, 0] [] rfl
    ⟨_, 0, rfl, by omega, by omega, by simp, rfl⟩ ?_
  rintro m σ ⟨q, i, rfl, hi, rfl, hidx, rfl⟩
  refine rn rfl ?_
  refine goal_cond rfl (fun h => ?_) (fun h => ?_) <;> (try simp only [gt_iff_lt, ge_iff_le, bne_iff_ne, ne_eq, bne_eq_false_iff_eq, beq_iff_eq, beq_eq_false_iff_ne, Bool.not_eq_true', Bool.not_eq_false', decide_eq_true_eq, decide_eq_false_iff_not, List.length_map] at h)
  · obtain ⟨p, hp⟩ := at_some (xs := xs) (i := i) (by omega)
    refine rn rfl ?_
    refine goal_did rfl rfl (dA_index (eQ p) rfl rfl rfl rfl rfl rfl rfl (by omega) (by (try simp); omega) (map_at (by simpa using hp)) rfl) ?_
    refine rn rfl ?_
    refine goal_cond rfl (fun h2 => ?_) (fun h2 => ?_) <;> (try simp only [gt_iff_lt, ge_iff_le, bne_iff_ne, ne_eq, bne_eq_false_iff_eq, beq_iff_eq, beq_eq_false_iff_ne, Bool.not_eq_true', Bool.not_eq_false', decide_eq_true_eq, decide_eq_false_iff_not, List.length_map] at h2)
    · refine rn rfl (round_ret (fin_is [] rfl ⟨?_, rfl⟩))
      rw [hidx, drop_at hp]; simp [idxI, kIs, h2]
    · refine rn rfl ?_
      refine round_keep (xs.length - (i + 1)) [5, 1, 0] [] (by omega) rfl ⟨_, i + 1, wrap64 (by omega) (by omega), by omega, rfl, ?_, rfl⟩
      rw [hidx, drop_at hp]; simp [idxI, kIs, h2]
  · refine rn rfl (round_ext ?_)
    refine rn rfl (fin_is [] rfl ⟨?_, rfl⟩)
    rw [hidx, List.drop_eq_nil_of_le (by omega)]; rfl

def okQ (p : Param) : Bool := okName p.name && inR p.kind 0 4 && okVal p.dflt && (p.hasD || p.dflt == 0) && (singleQ p || !p.hasD)

def nextQ (l p : Param) : Bool := decide (l.kind ≤ p.kind) && (p.kind != l.kind || singleQ p) && (!placedQ p || !l.hasD || p.hasD)

def stepQ (pre : Sig) (p : Param) : Bool := okQ p && !pre.any (qIs p.name) && (match pre.getLast? with
  | none => true
  | some l => nextQ l p)

def okQs : Sig → Sig → Bool
  | _, [] => true
  | pre, p :: r => stepQ pre p && okQs (pre ++ [p]) r

def okSig (s : Sig) : Bool := okQs [] s && decide (s.length ≤ 8)

theorem take_snoc {α : Type} {xs : List α} {i : Nat} {x : α} (h : xs[i]? = some x) : xs.take i ++ [x] = xs.take (i + 1) := by
  rw [List.take_add_one, h]; rfl

theorem okQs_at {s : Sig} {i : Nat} {p : Param} (h : okQs [] s = okQs (s.take i) (s.drop i)) (hp : s[i]? = some p) : okQs [] s = (stepQ (s.take i) p && okQs (s.take (i + 1)) (s.drop (i + 1))) := by
  rw [h, drop_at hp, okQs, take_snoc hp]

theorem okSig_stop {s : Sig} {i : Nat} {p : Param} (h : okQs [] s = okQs (s.take i) (s.drop i)) (hp : s[i]? = some p) (hf : stepQ (s.take i) p = false) : okSig s = false := by
  rw [okSig, okQs_at h hp, hf]; rfl

theorem okQs_go {s : Sig} {i : Nat} {p : Param} (h : okQs [] s = okQs (s.take i) (s.drop i)) (hp : s[i]? = some p) (hf : stepQ (s.take i) p = true) : okQs [] s = okQs (s.take (i + 1)) (s.drop (i + 1)) := by
  rw [okQs_at h hp, hf]; rfl

theorem last_take {α : Type} {xs : List α} {i : Nat} {x : α} (h : xs[i]? = some x) : (xs.take (i + 1)).getLast? = some x := by
  rw [← take_snoc h]; simp

theorem ivalidSig_ct (s : Sig) (hb : s.length ≤ 9223372036854775807) (hn : ∀ p ∈ s, p.name.length ≤ 9223372036854775807) :
    ACalls pk 15 [.agg (eG s)] [] (fun r o => r = .one (.bool (okSig s)) ∧ o = []) := by
  refine acalls_of_body Tryz.func15 rfl (by kernel_rfl) rfl ?_
  refine rn rfl ?_
  refine goal_loop_keep (fun m σ => ∃ (n L : Int) (i : Nat) (ob : Bool), n = i ∧ L = s.length ∧ i ≤ s.length ∧ m = s.length - i ∧ okQs [] s = okQs (s.take i) (s.drop i) ∧
      (∀ l, (s.take i).getLast? = some l → okQ l = true ∧ (placedQ l = true → ob = l.hasD)) ∧ (i = 0 → ob = false) ∧
      σ = ⟨[(10, .one (.int .i64 n)), (9, .one (.int .i64 L)), (8, .one (.fs (s.map eQ))), (3, .one (.bool ob)), (1, .one (.op 0 0 0))], [some ⟨1, [eG s], false, false, true⟩], []⟩) s.length [10, 9, 8, 3, 1] [0] rfl
    ⟨_, _, 0, _, rfl, by simp, by omega, by omega, by simp, by simp, fun _ => rfl, rfl⟩ ?_
  rintro m σ ⟨n, L, i, ob, rfl, rfl, hi, rfl, hok, hlast, hzero, rfl⟩
  refine rn rfl ?_
  refine goal_cond rfl (fun h => ?_) (fun h => ?_) <;> (try simp only [gt_iff_lt, ge_iff_le, bne_iff_ne, ne_eq, bne_eq_false_iff_eq, beq_iff_eq, beq_eq_false_iff_ne, Bool.not_eq_true', Bool.not_eq_false', decide_eq_true_eq, decide_eq_false_iff_not, List.length_map] at h)
  · obtain ⟨p, hp⟩ := at_some (xs := s) (i := i) (by omega)
    have hstop := okSig_stop hok hp
    have hgo := okQs_go hok hp
    have hpn := hn p (List.mem_of_getElem? hp)
    refine rn rfl ?_
    refine goal_did rfl rfl (dA_index (eQ p) rfl rfl rfl rfl rfl rfl rfl (by omega) (by (try simp); omega) (map_at (by simpa using hp)) rfl) ?_
    refine rt 5 rfl ?_
    refine goal_cutR (fun σ => okQ p = true ∧ σ = ⟨[(10, .one (.int .i64 i)), (9, .one (.int .i64 s.length)), (8, .one (.fs (s.map eQ))), (5, .one (.op 1 0 0)), (4, .one (.int .i64 i)), (3, .one (.bool ob)), (1, .one (.op 0 0 0))],
      [some ⟨1, [eG s], false, false, true⟩, some ⟨4, [eQ p], false, false, true⟩], []⟩) ?_ ?_
    · refine rn rfl ?_
      refine goal_step (step_call [] rfl rfl rfl rfl rfl rfl (isName_ct p.name hpn)) ?_
      rintro σ2 ⟨r, o', ⟨rfl, rfl⟩, hσ⟩
      obtain rfl := Option.some.inj hσ
      clear hσ
      refine rn rfl ?_
      refine goal_guard rfl rfl rfl (fun h1 => ?_) (fun h1 => ?_) <;> (try simp only [gt_iff_lt, ge_iff_le, bne_iff_ne, ne_eq, bne_eq_false_iff_eq, beq_iff_eq, beq_eq_false_iff_ne, Bool.not_eq_true', Bool.not_eq_false', decide_eq_true_eq, decide_eq_false_iff_not, List.length_map] at h1)
      · refine rn rfl ?_
        refine cut_ret ?_
        refine round_ret ?_
        refine fin_is [] rfl ⟨?_, rfl⟩
        rw [hstop (by simp [stepQ, okQ, h1])]
      refine rn rfl ?_
      refine goal_step (step_call [] rfl rfl rfl rfl rfl rfl (iin_ct p.kind 0 4)) ?_
      rintro σ2 ⟨r, o', ⟨rfl, rfl⟩, hσ⟩
      obtain rfl := Option.some.inj hσ
      clear hσ
      refine rn rfl ?_
      refine goal_guard rfl rfl rfl (fun h2 => ?_) (fun h2 => ?_) <;> (try simp only [gt_iff_lt, ge_iff_le, bne_iff_ne, ne_eq, bne_eq_false_iff_eq, beq_iff_eq, beq_eq_false_iff_ne, Bool.not_eq_true', Bool.not_eq_false', decide_eq_true_eq, decide_eq_false_iff_not, List.length_map] at h2)
      · refine rn rfl ?_
        refine cut_ret ?_
        refine round_ret ?_
        refine fin_is [] rfl ⟨?_, rfl⟩
        rw [hstop (by simp [stepQ, okQ, h2])]
      refine rn rfl ?_
      refine goal_step (step_call [] rfl rfl rfl rfl rfl rfl (isValue_ct p.dflt)) ?_
      rintro σ2 ⟨r, o', ⟨rfl, rfl⟩, hσ⟩
      obtain rfl := Option.some.inj hσ
      clear hσ
      refine rn rfl ?_
      refine goal_guard rfl rfl rfl (fun h3 => ?_) (fun h3 => ?_) <;> (try simp only [gt_iff_lt, ge_iff_le, bne_iff_ne, ne_eq, bne_eq_false_iff_eq, beq_iff_eq, beq_eq_false_iff_ne, Bool.not_eq_true', Bool.not_eq_false', decide_eq_true_eq, decide_eq_false_iff_not, List.length_map] at h3)
      · refine rn rfl ?_
        refine cut_ret ?_
        refine round_ret ?_
        refine fin_is [] rfl ⟨?_, rfl⟩
        rw [hstop (by simp [stepQ, okQ, h3])]
      refine rn rfl ?_
      refine goal_guard rfl rfl rfl (fun h4 => ?_) (fun h4 => ?_) <;> (try simp only [gt_iff_lt, ge_iff_le, bne_iff_ne, ne_eq, bne_eq_false_iff_eq, beq_iff_eq, beq_eq_false_iff_ne, Bool.not_eq_true', Bool.not_eq_false', decide_eq_true_eq, decide_eq_false_iff_not, List.length_map] at h4)
      · refine rn rfl ?_
        refine goal_guard rfl rfl rfl (fun h5 => ?_) (fun h5 => ?_) <;> (try simp only [gt_iff_lt, ge_iff_le, bne_iff_ne, ne_eq, bne_eq_false_iff_eq, beq_iff_eq, beq_eq_false_iff_ne, Bool.not_eq_true', Bool.not_eq_false', decide_eq_true_eq, decide_eq_false_iff_not, List.length_map] at h5)
        · refine rn rfl ?_
          refine cut_ret ?_
          refine round_ret ?_
          refine fin_is [] rfl ⟨?_, rfl⟩
          rw [hstop (by simp [stepQ, okQ, h4, h5])]
        · refine rn rfl ?_
          refine goal_guard rfl rfl rfl (fun h6 => by rw [h4] at h6; cases h6) (fun h6 => ?_)
          refine rn rfl ?_
          exact cut_nrm [10, 9, 8, 5, 4, 3, 1] [0, 1] rfl ⟨by rw [h5] at h3; simp [okQ, h1, h2, h3, h4, h5], rfl⟩
      · refine rn rfl ?_
        refine goal_guard rfl rfl rfl (fun h6 => ?_) (fun h6 => by rw [h4] at h6; cases h6)
        refine rn rfl ?_
        refine goal_step (step_call [] rfl rfl rfl rfl rfl rfl (isingle_ct p)) ?_
        rintro σ2 ⟨r, o', ⟨rfl, rfl⟩, hσ⟩
        obtain rfl := Option.some.inj hσ
        clear hσ
        refine rn rfl ?_
        refine goal_cond rfl (fun h7 => ?_) (fun h7 => ?_) <;> (try simp only [gt_iff_lt, ge_iff_le, bne_iff_ne, ne_eq, bne_eq_false_iff_eq, beq_iff_eq, beq_eq_false_iff_ne, Bool.not_eq_true', Bool.not_eq_false', decide_eq_true_eq, decide_eq_false_iff_not, List.length_map] at h7)
        · refine rn rfl ?_
          refine cut_ret ?_
          refine round_ret ?_
          refine fin_is [] rfl ⟨?_, rfl⟩
          rw [hstop (by simp [stepQ, okQ, h4, h7])]
        · refine rn rfl ?_
          exact cut_nrm [10, 9, 8, 5, 4, 3, 1] [0, 1] rfl ⟨by simp [okQ, h1, h2, h3, h4, h7], rfl⟩
    rintro _ ⟨hokq, rfl⟩
    refine rt 7 rfl ?_
    refine goal_cutR (fun σ => ∃ ob' : Bool, (placedQ p = true → ob = true → p.hasD = true) ∧ (placedQ p = true → ob' = p.hasD) ∧ (placedQ p = false → ob' = ob) ∧ σ = ⟨[(10, .one (.int .i64 i)), (9, .one (.int .i64 s.length)), (8, .one (.fs (s.map eQ))), (5, .one (.op 1 0 0)), (4, .one (.int .i64 i)), (3, .one (.bool ob')), (1, .one (.op 0 0 0))],
      [some ⟨1, [eG s], false, false, true⟩, some ⟨4, [eQ p], false, false, true⟩], []⟩) ?_ ?_
    · refine rn rfl ?_
      refine goal_step (step_call [] rfl rfl rfl rfl rfl rfl (iplaced_ct p)) ?_
      rintro σ2 ⟨r, o', ⟨rfl, rfl⟩, hσ⟩
      obtain rfl := Option.some.inj hσ
      clear hσ
      refine rn rfl ?_
      refine goal_cond rfl (fun h1 => ?_) (fun h1 => ?_) <;> (try simp only [gt_iff_lt, ge_iff_le, bne_iff_ne, ne_eq, bne_eq_false_iff_eq, beq_iff_eq, beq_eq_false_iff_ne, Bool.not_eq_true', Bool.not_eq_false', decide_eq_true_eq, decide_eq_false_iff_not, List.length_map] at h1)
      · refine rn rfl ?_
        refine goal_guard rfl rfl rfl (fun h2 => ?_) (fun h2 => ?_) <;> (try simp only [gt_iff_lt, ge_iff_le, bne_iff_ne, ne_eq, bne_eq_false_iff_eq, beq_iff_eq, beq_eq_false_iff_ne, Bool.not_eq_true', Bool.not_eq_false', decide_eq_true_eq, decide_eq_false_iff_not, List.length_map] at h2)
        · refine rn rfl ?_
          refine goal_cond rfl (fun h3 => ?_) (fun h3 => ?_) <;> (try simp only [gt_iff_lt, ge_iff_le, bne_iff_ne, ne_eq, bne_eq_false_iff_eq, beq_iff_eq, beq_eq_false_iff_ne, Bool.not_eq_true', Bool.not_eq_false', decide_eq_true_eq, decide_eq_false_iff_not, List.length_map] at h3)
          · refine rn rfl ?_
            refine cut_ret ?_
            refine round_ret ?_
            refine fin_is [] rfl ⟨?_, rfl⟩
            have hpre : i ≠ 0 := fun h0 => by rw [hzero h0] at h2; cases h2
            obtain ⟨l, hl⟩ := at_some (xs := s) (i := i - 1) (by omega)
            have hl' := last_take hl
            rw [show i - 1 + 1 = i by omega] at hl'
            obtain ⟨hlq, hlp⟩ := hlast l hl'
            rw [hstop ?_]
            have hk : nextQ l p = false := by
              cases hpl : placedQ l with
              | true => simp [nextQ, h1, h3, ← hlp hpl, h2]
              | false =>
                simp only [okQ, inR, Bool.and_eq_true, decide_eq_true_eq] at hlq
                simp only [placedQ, Bool.or_eq_true, Bool.or_eq_false_iff, beq_iff_eq, beq_eq_false_iff_ne] at hpl h1
                simp only [nextQ, Bool.and_eq_false_iff, decide_eq_false_iff_not]
                exact .inl (.inl (by omega))
            simp [stepQ, hl', hk]
          · refine rn rfl ?_
            refine cut_nrm [10, 9, 8, 5, 4, 3, 1] [0, 1] rfl ⟨_, ?_, ?_, ?_, rfl⟩ <;> simp [h1, h2, h3]
        · refine rn rfl ?_
          refine cut_nrm [10, 9, 8, 5, 4, 3, 1] [0, 1] rfl ⟨_, ?_, ?_, ?_, rfl⟩ <;> simp [h1, h2]
      · refine rn rfl ?_
        refine cut_nrm [10, 9, 8, 5, 4, 3, 1] [0, 1] rfl ⟨_, ?_, ?_, ?_, rfl⟩ <;> simp [h1]
    rintro _ ⟨ob', hd1, hd2, hd3, rfl⟩
    refine rt 11 rfl ?_
    refine goal_cutR (fun σ => (∀ l, (s.take i).getLast? = some l → l.kind ≤ p.kind ∧ (p.kind = l.kind → singleQ p = true)) ∧ σ = ⟨[(10, .one (.int .i64 i)), (9, .one (.int .i64 s.length)), (8, .one (.fs (s.map eQ))), (5, .one (.op 1 0 0)), (4, .one (.int .i64 i)), (3, .one (.bool ob')), (1, .one (.op 0 0 0))],
      [some ⟨1, [eG s], false, false, true⟩, some ⟨4, [eQ p], false, false, true⟩], []⟩) ?_ ?_
    · refine rn rfl ?_
      refine goal_cond rfl (fun h1 => ?_) (fun h1 => ?_) <;> (try simp only [gt_iff_lt, ge_iff_le, bne_iff_ne, ne_eq, bne_eq_false_iff_eq, beq_iff_eq, beq_eq_false_iff_ne, Bool.not_eq_true', Bool.not_eq_false', decide_eq_true_eq, decide_eq_false_iff_not, List.length_map] at h1)
      · obtain ⟨l, hl⟩ := at_some (xs := s) (i := i - 1) (by omega)
        have hl' := last_take hl
        rw [show i - 1 + 1 = i by omega] at hl'
        have hw : IntKind.i64.wrap ((i : Int) - 1) = ((i - 1 : Nat) : Int) := by rw [wrap64] <;> omega
        refine rn rfl ?_
        refine goal_did rfl rfl (dA_index (eQ l) rfl rfl rfl rfl rfl rfl rfl (by rw [hw]; omega) (by rw [hw]; simp; omega) (map_at (by rw [hw]; simpa using hl)) rfl) ?_
        refine rn rfl ?_
        refine goal_guard rfl rfl rfl (fun h2 => ?_) (fun h2 => ?_) <;> (try simp only [gt_iff_lt, ge_iff_le, bne_iff_ne, ne_eq, bne_eq_false_iff_eq, beq_iff_eq, beq_eq_false_iff_ne, Bool.not_eq_true', Bool.not_eq_false', decide_eq_true_eq, decide_eq_false_iff_not, List.length_map] at h2)
        · refine rn rfl ?_
          refine cut_ret ?_
          refine round_ret ?_
          refine fin_is [] rfl ⟨?_, rfl⟩
          rw [hstop (by simp [stepQ, hl', nextQ, show ¬ l.kind ≤ p.kind by omega])]
        · refine rn rfl ?_
          refine goal_guard rfl rfl rfl (fun h3 => ?_) (fun h3 => ?_) <;> (try simp only [gt_iff_lt, ge_iff_le, bne_iff_ne, ne_eq, bne_eq_false_iff_eq, beq_iff_eq, beq_eq_false_iff_ne, Bool.not_eq_true', Bool.not_eq_false', decide_eq_true_eq, decide_eq_false_iff_not, List.length_map] at h3)
          · refine rn rfl ?_
            refine goal_step (step_call [] rfl rfl rfl rfl rfl rfl (isingle_ct p)) ?_
            rintro σ2 ⟨r, o', ⟨rfl, rfl⟩, hσ⟩
            obtain rfl := Option.some.inj hσ
            clear hσ
            refine rn rfl ?_
            refine goal_cond rfl (fun h4 => ?_) (fun h4 => ?_) <;> (try simp only [gt_iff_lt, ge_iff_le, bne_iff_ne, ne_eq, bne_eq_false_iff_eq, beq_iff_eq, beq_eq_false_iff_ne, Bool.not_eq_true', Bool.not_eq_false', decide_eq_true_eq, decide_eq_false_iff_not, List.length_map] at h4)
            · refine rn rfl ?_
              refine cut_ret ?_
              refine round_ret ?_
              refine fin_is [] rfl ⟨?_, rfl⟩
              rw [hstop (by simp [stepQ, hl', nextQ, h3, h4])]
            · refine rn rfl ?_
              refine cut_nrm [10, 9, 8, 5, 4, 3, 1] [0, 1] rfl ⟨?_, rfl⟩
              intro l2 h0; rw [hl'] at h0; cases h0; exact ⟨by omega, fun _ => h4⟩
          · refine rn rfl ?_
            refine cut_nrm [10, 9, 8, 5, 4, 3, 1] [0, 1] rfl ⟨?_, rfl⟩
            intro l2 h0; rw [hl'] at h0; cases h0; exact ⟨by omega, fun h0 => absurd h0 h3⟩
      · refine rn rfl ?_
        refine cut_nrm [10, 9, 8, 5, 4, 3, 1] [0, 1] rfl ⟨?_, rfl⟩
        intro l2 h0; rw [show i = 0 by omega] at h0; simp at h0
    rintro _ ⟨hkind, rfl⟩
    refine rn rfl ?_
    refine goal_draw' [0, 1] 8 rfl ?_
    refine drn [0, 1, 2, 4, 5] (by kernel_rfl) (by kernel_rfl) rfl rfl ?_
    refine AH_did 3 rfl (by kernel_rfl) (by kernel_rfl) (by kernel_rfl) rfl rfl (dA_slice 0 i ((s.take i).map eQ) rfl rfl rfl rfl rfl Bnd.none_ (Bnd.some_ rfl rfl) (rows_len eQ_len _) (by omega) (by simp; omega) rfl (by simp)) ?_
    refine AH_one (i := 6) (by kernel_rfl) (step_call [] rfl rfl rfl rfl rfl rfl (find_ct (s.take i) p.name (by simp; omega))) (by simp) ?_
    rintro σ2 ⟨r, o', ⟨rfl, rfl⟩, hσ⟩
    obtain rfl := Option.some.inj hσ
    clear hσ
    refine drn [7] (by kernel_rfl) (by kernel_rfl) rfl rfl ?_
    refine AH_end (by kernel_rfl) ?_
    refine rn rfl ?_
    refine goal_cond rfl (fun h5 => ?_) (fun h5 => ?_) <;> (try simp only [gt_iff_lt, ge_iff_le, bne_iff_ne, ne_eq, bne_eq_false_iff_eq, beq_iff_eq, beq_eq_false_iff_ne, Bool.not_eq_true', Bool.not_eq_false', decide_eq_true_eq, decide_eq_false_iff_not, List.length_map, idxI_ge] at h5)
    · refine rn rfl ?_
      refine round_ret ?_
      refine fin_is [] rfl ⟨?_, rfl⟩
      rw [hstop (by simp [stepQ, h5])]
    · refine rn rfl ?_
      have hnx : stepQ (s.take i) p = true := by
        have hne : (s.take i).any (qIs p.name) = false := by
          cases hb : (s.take i).any (qIs p.name) with
          | false => rfl
          | true => exact absurd hb h5
        simp only [stepQ, hokq, hne, Bool.true_and, Bool.not_false]
        split
        · rfl
        · rename_i l hl
          obtain ⟨hk1, hk2⟩ := hkind l hl
          obtain ⟨hlq, hlp⟩ := hlast l hl
          simp only [nextQ, Bool.and_eq_true, decide_eq_true_eq, Bool.or_eq_true, bne_iff_ne, ne_eq, Bool.not_eq_true']
          refine ⟨⟨hk1, ?_⟩, ?_⟩
          · by_cases h0 : p.kind = l.kind
            · exact .inr (hk2 h0)
            · exact .inl h0
          · cases hpp : placedQ p with
            | false => exact .inl (.inl rfl)
            | true =>
              have hpl : placedQ l = true := by
                simp only [okQ, inR, Bool.and_eq_true, decide_eq_true_eq] at hlq
                simp only [placedQ, Bool.or_eq_true, beq_iff_eq] at hpp ⊢
                omega
              cases hld : l.hasD with
              | false => exact .inl (.inr rfl)
              | true => exact .inr (hd1 hpp ((hlp hpl).trans hld))
      refine round_keep (s.length - (i + 1)) [10, 9, 8, 3, 1] [0] (by omega) rfl ⟨_, _, i + 1, ob', wrap64 (by omega) (by omega), rfl, by omega, rfl, hgo hnx, ?_, fun h0 => by omega, rfl⟩
      intro l hl
      rw [last_take hp] at hl
      cases hl
      exact ⟨hokq, hd2⟩
  · refine rn rfl ?_
    refine round_ext ?_
    refine rn rfl (fin_is [] rfl ⟨?_, rfl⟩)
    rw [show i = s.length by omega, List.take_length, List.drop_length] at hok
    simp only [okSig, hok, okQs, List.length_map, Bool.true_and]
    congr 2
    rw [decide_eq_decide]
    omega

theorem svalidParam_ct (p : Param) (hpn : p.name.length ≤ 9223372036854775807) : ACalls pk 69 [.agg (eQ p)] [] (fun r o => r = .one (.bool (okQ p)) ∧ o = []) := by
  refine acalls_of_body Tryz.func69 rfl (by kernel_rfl) rfl ?_
  refine rn rfl ?_
  refine goal_step (step_call [] rfl rfl rfl rfl rfl rfl (validName_ct p.name hpn)) ?_
  rintro σ2 ⟨r, o', ⟨rfl, rfl⟩, hσ⟩
  obtain rfl := Option.some.inj hσ
  clear hσ
  refine rn rfl ?_
  refine goal_guard rfl rfl rfl (fun h1 => ?_) (fun h1 => ?_) <;> (try simp only [gt_iff_lt, ge_iff_le, bne_iff_ne, ne_eq, bne_eq_false_iff_eq, beq_iff_eq, beq_eq_false_iff_ne, Bool.not_eq_true', Bool.not_eq_false', decide_eq_true_eq, decide_eq_false_iff_not, List.length_map] at h1)
  · refine rn rfl ?_
    refine goal_step (step_call [] rfl rfl rfl rfl rfl rfl (sin_ct p.kind 0 4)) ?_
    rintro σ2 ⟨r, o', ⟨rfl, rfl⟩, hσ⟩
    obtain rfl := Option.some.inj hσ
    clear hσ
    refine rn rfl ?_
    refine goal_guard rfl rfl rfl (fun h2 => ?_) (fun h2 => ?_) <;> (try simp only [gt_iff_lt, ge_iff_le, bne_iff_ne, ne_eq, bne_eq_false_iff_eq, beq_iff_eq, beq_eq_false_iff_ne, Bool.not_eq_true', Bool.not_eq_false', decide_eq_true_eq, decide_eq_false_iff_not, List.length_map] at h2)
    · refine rn rfl ?_
      refine goal_step (step_call [] rfl rfl rfl rfl rfl rfl (validNumber_ct p.dflt)) ?_
      rintro σ2 ⟨r, o', ⟨rfl, rfl⟩, hσ⟩
      obtain rfl := Option.some.inj hσ
      clear hσ
      refine rn rfl ?_
      refine goal_guard rfl rfl rfl (fun h3 => ?_) (fun h3 => ?_) <;> (try simp only [gt_iff_lt, ge_iff_le, bne_iff_ne, ne_eq, bne_eq_false_iff_eq, beq_iff_eq, beq_eq_false_iff_ne, Bool.not_eq_true', Bool.not_eq_false', decide_eq_true_eq, decide_eq_false_iff_not, List.length_map] at h3)
      · refine rn rfl ?_
        refine goal_guard rfl rfl rfl (fun h4 => ?_) (fun h4 => ?_) <;> (try simp only [gt_iff_lt, ge_iff_le, bne_iff_ne, ne_eq, bne_eq_false_iff_eq, beq_iff_eq, beq_eq_false_iff_ne, Bool.not_eq_true', Bool.not_eq_false', decide_eq_true_eq, decide_eq_false_iff_not, List.length_map] at h4)
        · refine rn rfl ?_
          refine goal_step (step_call [] rfl rfl rfl rfl rfl rfl (ssingle_ct p)) ?_
          rintro σ2 ⟨r, o', ⟨rfl, rfl⟩, hσ⟩
          obtain rfl := Option.some.inj hσ
          clear hσ
          refine rn rfl ?_
          refine goal_guard rfl rfl rfl (fun h5 => ?_) (fun h5 => ?_) <;> (try simp only [gt_iff_lt, ge_iff_le, bne_iff_ne, ne_eq, bne_eq_false_iff_eq, beq_iff_eq, beq_eq_false_iff_ne, Bool.not_eq_true', Bool.not_eq_false', decide_eq_true_eq, decide_eq_false_iff_not, List.length_map] at h5)
          · refine rn rfl (fin_is [] rfl ⟨?_, rfl⟩)
            simp [okQ, h1, h2, h3, h4, h5]
          · refine rn rfl (fin_is [] rfl ⟨?_, rfl⟩)
            simp [okQ, h1, h2, h3, h4, h5]
        · refine rn rfl ?_
          refine goal_guard rfl rfl rfl (fun h5 => ?_) (fun h5 => ?_) <;> (try simp only [gt_iff_lt, ge_iff_le, bne_iff_ne, ne_eq, bne_eq_false_iff_eq, beq_iff_eq, beq_eq_false_iff_ne, Bool.not_eq_true', Bool.not_eq_false', decide_eq_true_eq, decide_eq_false_iff_not, List.length_map] at h5)
          · refine rn rfl ?_
            refine goal_step (step_call [] rfl rfl rfl rfl rfl rfl (ssingle_ct p)) ?_
            rintro σ2 ⟨r, o', ⟨rfl, rfl⟩, hσ⟩
            obtain rfl := Option.some.inj hσ
            clear hσ
            refine rn rfl ?_
            refine goal_guard rfl rfl rfl (fun h6 => ?_) (fun h6 => ?_) <;> (try simp only [gt_iff_lt, ge_iff_le, bne_iff_ne, ne_eq, bne_eq_false_iff_eq, beq_iff_eq, beq_eq_false_iff_ne, Bool.not_eq_true', Bool.not_eq_false', decide_eq_true_eq, decide_eq_false_iff_not, List.length_map] at h6)
            · refine rn rfl (fin_is [] rfl ⟨?_, rfl⟩)
              rw [h5] at h3
              simp [okQ, h1, h2, h3, h4, h5, h6]
            · refine rn rfl (fin_is [] rfl ⟨?_, rfl⟩)
              rw [h5] at h3
              simp [okQ, h1, h2, h3, h4, h5, h6]
          · refine rn rfl (fin_is [] rfl ⟨?_, rfl⟩)
            simp [okQ, h4, h5]
      · refine rn rfl (fin_is [] rfl ⟨?_, rfl⟩)
        simp [okQ, h3]
    · refine rn rfl (fin_is [] rfl ⟨?_, rfl⟩)
      simp [okQ, h2]
  · refine rn rfl (fin_is [] rfl ⟨?_, rfl⟩)
    simp [okQ, h1]

theorem svalidParams_ct (s : Sig) (hb : s.length ≤ 9223372036854775807) (hn : ∀ p ∈ s, p.name.length ≤ 9223372036854775807) :
    ACalls pk 45 [.one (.fs (s.map eQ))] [] (fun r o => r = .one (.bool (okSig s)) ∧ o = []) := by
  refine acalls_of_body Tryz.func45 rfl (by kernel_rfl) rfl ?_
  refine rn rfl ?_
  refine goal_loop_keep (fun m σ => ∃ (n : Int) (i : Nat), n = i ∧ i ≤ s.length ∧ m = s.length - i ∧ okQs [] s = okQs (s.take i) (s.drop i) ∧
      σ = ⟨[(3, .one (.int .i64 n)), (0, .one (.fs (s.map eQ)))], [], []⟩) s.length [3, 0] [] rfl
    ⟨_, 0, rfl, by omega, by omega, by simp, rfl⟩ ?_
  rintro m σ ⟨n, i, rfl, hi, rfl, hok, rfl⟩
  refine rn rfl ?_
  refine goal_cond rfl (fun h => ?_) (fun h => ?_) <;> (try simp only [gt_iff_lt, ge_iff_le, bne_iff_ne, ne_eq, bne_eq_false_iff_eq, beq_iff_eq, beq_eq_false_iff_ne, Bool.not_eq_true', Bool.not_eq_false', decide_eq_true_eq, decide_eq_false_iff_not, List.length_map] at h)
  · obtain ⟨p, hp⟩ := at_some (xs := s) (i := i) (by omega)
    have hstop := okSig_stop hok hp
    have hgo := okQs_go hok hp
    have hpn := hn p (List.mem_of_getElem? hp)
    have hend : stepQ (s.take i) p = true → okQs [] s = okQs (s.take (i + 1)) (s.drop (i + 1)) := hgo
    refine rn rfl ?_
    refine goal_did rfl rfl (dA_index (eQ p) rfl rfl rfl rfl rfl rfl rfl (by omega) (by (try simp); omega) (map_at (by simpa using hp)) rfl) ?_
    refine rn rfl ?_
    refine goal_draw' [0] 12 rfl ?_
    refine drn [0] (by kernel_rfl) (by kernel_rfl) rfl rfl ?_
    refine AH_one (i := 1) (by kernel_rfl) (step_call [] rfl rfl rfl rfl rfl rfl (svalidParam_ct p hpn)) (by simp) ?_
    rintro σ2 ⟨r, o', ⟨rfl, rfl⟩, hσ⟩
    obtain rfl := Option.some.inj hσ
    clear hσ
    refine drn [2, 3] (by kernel_rfl) (by kernel_rfl) rfl rfl ?_
    refine AH_guard (i := 4) rfl rfl rfl (fun h1 => ?_) (fun h1 => ?_) <;> (try simp only [gt_iff_lt, ge_iff_le, bne_iff_ne, ne_eq, bne_eq_false_iff_eq, beq_iff_eq, beq_eq_false_iff_ne, Bool.not_eq_true', Bool.not_eq_false', decide_eq_true_eq, decide_eq_false_iff_not, List.length_map] at h1)
    · refine drn [4, 5, 6, 7, 8, 9, 10, 11] (by kernel_rfl) (by kernel_rfl) rfl rfl ?_
      refine AH_end (by kernel_rfl) ?_
      refine rn rfl ?_
      refine rn rfl ?_
      refine round_ret ?_
      refine fin_is [] rfl ⟨?_, rfl⟩
      rw [hstop (by simp [stepQ, h1])]
    refine drn [4, 5, 7, 8] (by kernel_rfl) (by kernel_rfl) rfl rfl ?_
    refine AH_did 6 rfl (by kernel_rfl) (by kernel_rfl) (by kernel_rfl) rfl rfl (dA_slice 0 i ((s.take i).map eQ) rfl rfl rfl rfl rfl Bnd.none_ (Bnd.some_ rfl rfl) (rows_len eQ_len _) (by omega) (by simp; omega) rfl (by simp)) ?_
    refine AH_one (i := 9) (by kernel_rfl) (step_call [] rfl rfl rfl rfl rfl rfl (sfind_ct (s.take i) p.name (by simp; omega))) (by simp) ?_
    rintro σ2 ⟨r, o', ⟨rfl, rfl⟩, hσ⟩
    obtain rfl := Option.some.inj hσ
    clear hσ
    refine drn [10, 11] (by kernel_rfl) (by kernel_rfl) rfl rfl ?_
    refine AH_end (by kernel_rfl) ?_
    refine rn rfl ?_
    refine goal_cond rfl (fun h2 => ?_) (fun h2 => ?_) <;> (try simp only [gt_iff_lt, ge_iff_le, bne_iff_ne, ne_eq, bne_eq_false_iff_eq, beq_iff_eq, beq_eq_false_iff_ne, Bool.not_eq_true', Bool.not_eq_false', decide_eq_true_eq, decide_eq_false_iff_not, List.length_map, idxI_ge] at h2)
    · refine rn rfl ?_
      refine round_ret ?_
      refine fin_is [] rfl ⟨?_, rfl⟩
      rw [hstop (by simp [stepQ, h2])]
    refine rn rfl ?_
    refine goal_cond rfl (fun h3 => ?_) (fun h3 => ?_) <;> (try simp only [gt_iff_lt, ge_iff_le, bne_iff_ne, ne_eq, bne_eq_false_iff_eq, beq_iff_eq, beq_eq_false_iff_ne, Bool.not_eq_true', Bool.not_eq_false', decide_eq_true_eq, decide_eq_false_iff_not, List.length_map] at h3)
    · refine rn rfl ?_
      refine round_keep (s.length - (i + 1)) [3, 0] [] (by omega) rfl ⟨_, i + 1, wrap64 (by omega) (by omega), by omega, rfl, hgo ?_, rfl⟩
      rw [show i = 0 by omega] at h2 ⊢
      simp [stepQ, h1]
    obtain ⟨l, hl⟩ := at_some (xs := s) (i := i - 1) (by omega)
    have hl' := last_take hl
    rw [show i - 1 + 1 = i by omega] at hl'
    have hw : IntKind.i64.wrap ((i : Int) - 1) = ((i - 1 : Nat) : Int) := by rw [wrap64] <;> omega
    have hsn : nextQ l p = true → stepQ (s.take i) p = true := fun hx => by simp [stepQ, h1, h2, hl', hx]
    have hsf : nextQ l p = false → stepQ (s.take i) p = false := fun hx => by simp [stepQ, hl', hx]
    refine rn rfl ?_
    refine goal_did rfl rfl (dA_index (eQ l) rfl rfl rfl rfl rfl rfl rfl (by rw [hw]; omega) (by rw [hw]; simp; omega) (map_at (by rw [hw]; simpa using hl)) rfl) ?_
    refine rn rfl ?_
    refine goal_guard rfl rfl rfl (fun h4 => ?_) (fun h4 => ?_) <;> (try simp only [gt_iff_lt, ge_iff_le, bne_iff_ne, ne_eq, bne_eq_false_iff_eq, beq_iff_eq, beq_eq_false_iff_ne, Bool.not_eq_true', Bool.not_eq_false', decide_eq_true_eq, decide_eq_false_iff_not, List.length_map] at h4)
    · refine rn rfl ?_
      refine round_ret ?_
      refine fin_is [] rfl ⟨?_, rfl⟩
      rw [hstop (hsf (by simp [nextQ, show ¬ l.kind ≤ p.kind by omega]))]
    have part2 : (p.kind = l.kind → singleQ p = true) → (placedQ p = true → l.hasD = true → p.hasD = true) → stepQ (s.take i) p = true := fun ha hb => hsn (by
      simp only [nextQ, Bool.and_eq_true, decide_eq_true_eq, Bool.or_eq_true, bne_iff_ne, ne_eq, Bool.not_eq_true']
      refine ⟨⟨by omega, ?_⟩, ?_⟩
      · by_cases h0 : p.kind = l.kind
        · exact .inr (ha h0)
        · exact .inl h0
      · cases h7 : placedQ p with
        | false => exact .inl (.inl rfl)
        | true => cases h8 : l.hasD with
          | false => exact .inl (.inr rfl)
          | true => exact .inr (hb h7 h8))
    refine rn rfl ?_
    refine goal_guard rfl rfl rfl (fun h5 => ?_) (fun h5 => ?_) <;> (try simp only [gt_iff_lt, ge_iff_le, bne_iff_ne, ne_eq, bne_eq_false_iff_eq, beq_iff_eq, beq_eq_false_iff_ne, Bool.not_eq_true', Bool.not_eq_false', decide_eq_true_eq, decide_eq_false_iff_not, List.length_map] at h5)
    · refine rn rfl ?_
      refine goal_step (step_call [] rfl rfl rfl rfl rfl rfl (ssingle_ct p)) ?_
      rintro σ2 ⟨r, o', ⟨rfl, rfl⟩, hσ⟩
      obtain rfl := Option.some.inj hσ
      clear hσ
      refine rn rfl ?_
      refine goal_guard rfl rfl rfl (fun h6 => ?_) (fun h6 => ?_) <;> (try simp only [gt_iff_lt, ge_iff_le, bne_iff_ne, ne_eq, bne_eq_false_iff_eq, beq_iff_eq, beq_eq_false_iff_ne, Bool.not_eq_true', Bool.not_eq_false', decide_eq_true_eq, decide_eq_false_iff_not, List.length_map] at h6)
      · refine rn rfl ?_
        refine round_ret ?_
        refine fin_is [] rfl ⟨?_, rfl⟩
        rw [hstop (hsf (by simp [nextQ, h5, h6]))]
      refine rn rfl ?_
      refine goal_step (step_call [] rfl rfl rfl rfl rfl rfl (splaced_ct p)) ?_
      rintro σ2 ⟨r, o', ⟨rfl, rfl⟩, hσ⟩
      obtain rfl := Option.some.inj hσ
      clear hσ
      refine rn rfl ?_
      refine goal_guard rfl rfl rfl (fun h7 => ?_) (fun h7 => ?_) <;> (try simp only [gt_iff_lt, ge_iff_le, bne_iff_ne, ne_eq, bne_eq_false_iff_eq, beq_iff_eq, beq_eq_false_iff_ne, Bool.not_eq_true', Bool.not_eq_false', decide_eq_true_eq, decide_eq_false_iff_not, List.length_map] at h7)
      · refine rn rfl ?_
        refine goal_guard rfl rfl rfl (fun h8 => ?_) (fun h8 => ?_) <;> (try simp only [gt_iff_lt, ge_iff_le, bne_iff_ne, ne_eq, bne_eq_false_iff_eq, beq_iff_eq, beq_eq_false_iff_ne, Bool.not_eq_true', Bool.not_eq_false', decide_eq_true_eq, decide_eq_false_iff_not, List.length_map] at h8)
        · refine rn rfl ?_
          refine goal_cond rfl (fun h9 => ?_) (fun h9 => ?_) <;> (try simp only [gt_iff_lt, ge_iff_le, bne_iff_ne, ne_eq, bne_eq_false_iff_eq, beq_iff_eq, beq_eq_false_iff_ne, Bool.not_eq_true', Bool.not_eq_false', decide_eq_true_eq, decide_eq_false_iff_not, List.length_map] at h9)
          · refine rn rfl ?_
            refine round_ret ?_
            refine fin_is [] rfl ⟨?_, rfl⟩
            rw [hstop (hsf (by simp [nextQ, h7, h8, h9]))]
          · refine rn rfl ?_
            refine round_keep (s.length - (i + 1)) [3, 0] [] (by omega) rfl ⟨_, i + 1, wrap64 (by omega) (by omega), by omega, rfl, hgo (part2 (fun _ => h6) (fun _ _ => h9)), rfl⟩
        · refine rn rfl ?_
          refine round_keep (s.length - (i + 1)) [3, 0] [] (by omega) rfl ⟨_, i + 1, wrap64 (by omega) (by omega), by omega, rfl, hgo (part2 (fun _ => h6) (fun _ h0 => by rw [h8] at h0; cases h0)), rfl⟩
      · refine rn rfl ?_
        refine round_keep (s.length - (i + 1)) [3, 0] [] (by omega) rfl ⟨_, i + 1, wrap64 (by omega) (by omega), by omega, rfl, hgo (part2 (fun _ => h6) (fun h0 => by rw [h7] at h0; cases h0)), rfl⟩
    · refine rn rfl ?_
      refine goal_step (step_call [] rfl rfl rfl rfl rfl rfl (splaced_ct p)) ?_
      rintro σ2 ⟨r, o', ⟨rfl, rfl⟩, hσ⟩
      obtain rfl := Option.some.inj hσ
      clear hσ
      refine rn rfl ?_
      refine goal_guard rfl rfl rfl (fun h7 => ?_) (fun h7 => ?_) <;> (try simp only [gt_iff_lt, ge_iff_le, bne_iff_ne, ne_eq, bne_eq_false_iff_eq, beq_iff_eq, beq_eq_false_iff_ne, Bool.not_eq_true', Bool.not_eq_false', decide_eq_true_eq, decide_eq_false_iff_not, List.length_map] at h7)
      · refine rn rfl ?_
        refine goal_guard rfl rfl rfl (fun h8 => ?_) (fun h8 => ?_) <;> (try simp only [gt_iff_lt, ge_iff_le, bne_iff_ne, ne_eq, bne_eq_false_iff_eq, beq_iff_eq, beq_eq_false_iff_ne, Bool.not_eq_true', Bool.not_eq_false', decide_eq_true_eq, decide_eq_false_iff_not, List.length_map] at h8)
        · refine rn rfl ?_
          refine goal_cond rfl (fun h9 => ?_) (fun h9 => ?_) <;> (try simp only [gt_iff_lt, ge_iff_le, bne_iff_ne, ne_eq, bne_eq_false_iff_eq, beq_iff_eq, beq_eq_false_iff_ne, Bool.not_eq_true', Bool.not_eq_false', decide_eq_true_eq, decide_eq_false_iff_not, List.length_map] at h9)
          · refine rn rfl ?_
            refine round_ret ?_
            refine fin_is [] rfl ⟨?_, rfl⟩
            rw [hstop (hsf (by simp [nextQ, h7, h8, h9]))]
          · refine rn rfl ?_
            refine round_keep (s.length - (i + 1)) [3, 0] [] (by omega) rfl ⟨_, i + 1, wrap64 (by omega) (by omega), by omega, rfl, hgo (part2 (fun h0 => absurd h0 h5) (fun _ _ => h9)), rfl⟩
        · refine rn rfl ?_
          refine round_keep (s.length - (i + 1)) [3, 0] [] (by omega) rfl ⟨_, i + 1, wrap64 (by omega) (by omega), by omega, rfl, hgo (part2 (fun h0 => absurd h0 h5) (fun _ h0 => by rw [h8] at h0; cases h0)), rfl⟩
      · refine rn rfl ?_
        refine round_keep (s.length - (i + 1)) [3, 0] [] (by omega) rfl ⟨_, i + 1, wrap64 (by omega) (by omega), by omega, rfl, hgo (part2 (fun h0 => absurd h0 h5) (fun h0 => by rw [h7] at h0; cases h0)), rfl⟩
  · refine rn rfl ?_
    refine round_ext ?_
    refine rn rfl (fin_is [] rfl ⟨?_, rfl⟩)
    rw [show i = s.length by omega, List.take_length, List.drop_length] at hok
    simp only [okSig, hok, okQs, List.length_map, Bool.true_and]
    congr 2
    rw [decide_eq_decide]
    omega

theorem svalidSig_ct (s : Sig) (hb : s.length ≤ 9223372036854775807) (hn : ∀ p ∈ s, p.name.length ≤ 9223372036854775807) :
    ACalls pk 22 [.agg (eG s)] [] (fun r o => r = .one (.bool (okSig s)) ∧ o = []) := by
  refine acalls_of_body Tryz.func22 rfl (by kernel_rfl) rfl ?_
  refine rn rfl ?_
  refine goal_step (step_call [] rfl rfl rfl rfl rfl rfl (svalidParams_ct s hb hn)) ?_
  rintro σ2 ⟨r, o', ⟨rfl, rfl⟩, hσ⟩
  obtain rfl := Option.some.inj hσ
  clear hσ
  refine rn rfl ?_
  exact rn rfl (fin_is [] rfl ⟨rfl, rfl⟩)

def takesQ (s : Sig) (n : Str) : Int := if (match s.find? (qIs n) with
  | some p => namedQ p
  | none => false) then idxI (qIs n) s 0 else idxI (kIs 4) s 0

theorem idxI_find {α : Type} {pred : α → Bool} {xs : List α} (h : 0 ≤ idxI pred xs 0) : ∃ x, xs.find? pred = some x ∧ xs[(idxI pred xs 0).toNat]? = some x ∧ pred x = true ∧ idxI pred xs 0 < xs.length := by
  have ha := idxI_ge.1 h
  have hs := idxI_some (i := 0) ha
  have hlt : xs.findIdx pred < xs.length := by
    rw [List.findIdx_lt_length]; simpa using ha
  refine ⟨xs[xs.findIdx pred], ?_, ?_, List.findIdx_getElem, ?_⟩
  · rw [List.find?_eq_some_iff_getElem]
    refine ⟨List.findIdx_getElem, xs.findIdx pred, hlt, rfl, fun j hj => ?_⟩
    have := List.not_of_lt_findIdx hj
    simpa using this
  · rw [hs]; simp [hlt]
  · rw [hs]; omega

theorem idxI_none' {α : Type} {pred : α → Bool} {xs : List α} (h : ¬ 0 ≤ idxI pred xs 0) : xs.find? pred = none := by
  have : xs.any pred = false := by
    cases hb : xs.any pred with
    | false => rfl
    | true => exact absurd (idxI_ge.2 hb) h
  simpa using this

theorem itakes_ct (s : Sig) (n : Str) (hb : s.length ≤ 9223372036854775807) : ACalls pk 35 [.agg (eG s), .one (.str n)] [] (fun r o => r = .one (.int .i64 (takesQ s n)) ∧ o = []) := by
  refine acalls_of_body Tryz.func35 rfl (by kernel_rfl) rfl ?_
  refine rn rfl ?_
  refine goal_step (step_call [] rfl rfl rfl rfl rfl rfl (find_ct s n hb)) ?_
  rintro σ2 ⟨r, o', ⟨rfl, rfl⟩, hσ⟩
  obtain rfl := Option.some.inj hσ
  clear hσ
  refine rn rfl ?_
  refine goal_guard rfl rfl rfl (fun h => ?_) (fun h => ?_) <;> (try simp only [gt_iff_lt, ge_iff_le, bne_iff_ne, ne_eq, bne_eq_false_iff_eq, beq_iff_eq, beq_eq_false_iff_ne, Bool.not_eq_true', Bool.not_eq_false', decide_eq_true_eq, decide_eq_false_iff_not, List.length_map] at h)
  · obtain ⟨p, hf, hp, hq, hlt⟩ := idxI_find h
    refine rn rfl ?_
    refine goal_did rfl rfl (dA_index (eQ p) rfl rfl rfl rfl rfl rfl rfl h (by simp; exact hlt) (map_at hp) rfl) ?_
    refine rn rfl ?_
    refine goal_step (step_call [] rfl rfl rfl rfl rfl rfl (inamed_ct p)) ?_
    rintro σ2 ⟨r, o', ⟨rfl, rfl⟩, hσ⟩
    obtain rfl := Option.some.inj hσ
    clear hσ
    refine rn rfl ?_
    refine goal_cond rfl (fun h2 => ?_) (fun h2 => ?_) <;> (try simp only [gt_iff_lt, ge_iff_le, bne_iff_ne, ne_eq, bne_eq_false_iff_eq, beq_iff_eq, beq_eq_false_iff_ne, Bool.not_eq_true', Bool.not_eq_false', decide_eq_true_eq, decide_eq_false_iff_not, List.length_map] at h2)
    · refine rn rfl (fin_is [] rfl ⟨?_, rfl⟩)
      simp [takesQ, hf, h2]
    · refine rn rfl ?_
      refine goal_step (step_call [] rfl rfl rfl rfl rfl rfl (indexQ0_ct s hb (kIs 4) _ takesC_ct)) ?_
      rintro σ2 ⟨r, o', ⟨rfl, rfl⟩, hσ⟩
      obtain rfl := Option.some.inj hσ
      clear hσ
      refine rn rfl ?_
      refine rn rfl (fin_is [] rfl ⟨?_, rfl⟩)
      simp [takesQ, hf, h2]
  · refine rn rfl ?_
    refine goal_step (step_call [] rfl rfl rfl rfl rfl rfl (indexQ0_ct s hb (kIs 4) _ takesC_ct)) ?_
    rintro σ2 ⟨r, o', ⟨rfl, rfl⟩, hσ⟩
    obtain rfl := Option.some.inj hσ
    clear hσ
    refine rn rfl ?_
    refine rn rfl (fin_is [] rfl ⟨?_, rfl⟩)
    simp [takesQ, idxI_none' h]

theorem stakes_ct (s : Sig) (n : Str) (hb : s.length ≤ 9223372036854775807) : ACalls pk 53 [.agg (eG s), .one (.str n)] [] (fun r o => r = .one (.int .i64 (takesQ s n)) ∧ o = []) := by
  refine acalls_of_body Tryz.func53 rfl (by kernel_rfl) rfl ?_
  refine rn rfl ?_
  refine goal_step (step_call [] rfl rfl rfl rfl rfl rfl (sfind_ct s n hb)) ?_
  rintro σ2 ⟨r, o', ⟨rfl, rfl⟩, hσ⟩
  obtain rfl := Option.some.inj hσ
  clear hσ
  refine rn rfl ?_
  refine goal_guard rfl rfl rfl (fun h => ?_) (fun h => ?_) <;> (try simp only [gt_iff_lt, ge_iff_le, bne_iff_ne, ne_eq, bne_eq_false_iff_eq, beq_iff_eq, beq_eq_false_iff_ne, Bool.not_eq_true', Bool.not_eq_false', decide_eq_true_eq, decide_eq_false_iff_not, List.length_map] at h)
  · obtain ⟨p, hf, hp, hq, hlt⟩ := idxI_find h
    refine rn rfl ?_
    refine goal_did rfl rfl (dA_index (eQ p) rfl rfl rfl rfl rfl rfl rfl h (by simp; exact hlt) (map_at hp) rfl) ?_
    refine rn rfl ?_
    refine goal_step (step_call [] rfl rfl rfl rfl rfl rfl (snamed_ct p)) ?_
    rintro σ2 ⟨r, o', ⟨rfl, rfl⟩, hσ⟩
    obtain rfl := Option.some.inj hσ
    clear hσ
    refine rn rfl ?_
    refine goal_cond rfl (fun h2 => ?_) (fun h2 => ?_) <;> (try simp only [gt_iff_lt, ge_iff_le, bne_iff_ne, ne_eq, bne_eq_false_iff_eq, beq_iff_eq, beq_eq_false_iff_ne, Bool.not_eq_true', Bool.not_eq_false', decide_eq_true_eq, decide_eq_false_iff_not, List.length_map] at h2)
    · refine rn rfl (fin_is [] rfl ⟨?_, rfl⟩)
      simp [takesQ, hf, h2]
    · refine rn rfl ?_
      refine goal_step (step_call [] rfl rfl rfl rfl rfl rfl (kindAt_ct s 4 hb)) ?_
      rintro σ2 ⟨r, o', ⟨rfl, rfl⟩, hσ⟩
      obtain rfl := Option.some.inj hσ
      clear hσ
      refine rn rfl ?_
      refine rn rfl (fin_is [] rfl ⟨?_, rfl⟩)
      simp [takesQ, hf, h2]
  · refine rn rfl ?_
    refine goal_step (step_call [] rfl rfl rfl rfl rfl rfl (kindAt_ct s 4 hb)) ?_
    rintro σ2 ⟨r, o', ⟨rfl, rfl⟩, hσ⟩
    obtain rfl := Option.some.inj hσ
    clear hσ
    refine rn rfl ?_
    refine rn rfl (fin_is [] rfl ⟨?_, rfl⟩)
    simp [takesQ, idxI_none' h]

def placesQ (s : Sig) : Nat := s.countP placedQ

theorem countP_take_succ {α : Type} {p : α → Bool} {xs : List α} {i : Nat} {x : α} (h : xs[i]? = some x) : (xs.take (i + 1)).countP p = (xs.take i).countP p + (if p x then 1 else 0) := by
  rw [← take_snoc h, List.countP_append, List.countP_singleton]

theorem splaces_ct (s : Sig) (hb : s.length ≤ 9223372036854775807) : ACalls pk 51 [.agg (eG s)] [] (fun r o => r = .one (.int .i64 (placesQ s)) ∧ o = []) := by
  refine acalls_of_body Tryz.func51 rfl (by kernel_rfl) rfl ?_
  refine rn rfl ?_
  refine goal_loop_keep (fun m σ => ∃ (n q : Int) (i : Nat), n = i ∧ i ≤ s.length ∧ m = s.length - i ∧ q = ((s.take i).countP placedQ : Nat) ∧
      σ = ⟨[(4, .one (.int .i64 n)), (3, .one (.int .i64 q)), (1, .one (.op 0 0 0))], [some ⟨1, [eG s], false, false, true⟩], []⟩) s.length [4, 3, 1] [0] rfl
    ⟨_, _, 0, rfl, by omega, by omega, rfl, rfl⟩ ?_
  rintro m σ ⟨n, q, i, rfl, hi, rfl, rfl, rfl⟩
  refine rn rfl ?_
  refine goal_cond rfl (fun h => ?_) (fun h => ?_) <;> (try simp only [gt_iff_lt, ge_iff_le, bne_iff_ne, ne_eq, bne_eq_false_iff_eq, beq_iff_eq, beq_eq_false_iff_ne, Bool.not_eq_true', Bool.not_eq_false', decide_eq_true_eq, decide_eq_false_iff_not, List.length_map] at h)
  · obtain ⟨p, hp⟩ := at_some (xs := s) (i := i) (by omega)
    have hst := countP_take_succ (p := placedQ) hp
    have hle := List.countP_le_length (p := placedQ) (l := s.take i)
    rw [List.length_take] at hle
    refine rn rfl ?_
    refine goal_did rfl rfl (dA_index (eQ p) rfl rfl rfl rfl rfl rfl rfl (by omega) (by (try simp); omega) (map_at (by simpa using hp)) rfl) ?_
    refine rn rfl ?_
    refine goal_step (step_call [] rfl rfl rfl rfl rfl rfl (splaced_ct p)) ?_
    rintro σ2 ⟨r, o', ⟨rfl, rfl⟩, hσ⟩
    obtain rfl := Option.some.inj hσ
    clear hσ
    refine rn rfl ?_
    refine goal_cond rfl (fun h2 => ?_) (fun h2 => ?_) <;> (try simp only [gt_iff_lt, ge_iff_le, bne_iff_ne, ne_eq, bne_eq_false_iff_eq, beq_iff_eq, beq_eq_false_iff_ne, Bool.not_eq_true', Bool.not_eq_false', decide_eq_true_eq, decide_eq_false_iff_not, List.length_map] at h2)
    · refine rn rfl ?_
      refine round_keep (s.length - (i + 1)) [4, 3, 1] [0] (by omega) rfl ⟨_, _, i + 1, wrap64 (by omega) (by omega), by omega, rfl, ?_, rfl⟩
      rw [wrap64 (by omega) (by omega), hst, h2]; simp
    · refine rn rfl ?_
      refine round_keep (s.length - (i + 1)) [4, 3, 1] [0] (by omega) rfl ⟨_, _, i + 1, wrap64 (by omega) (by omega), by omega, rfl, ?_, rfl⟩
      rw [hst, h2]; simp
  · refine rn rfl ?_
    refine round_ext ?_
    refine rn rfl (fin_is [] rfl ⟨?_, rfl⟩)
    rw [show i = s.length by omega, List.take_length]; rfl

theorem okQs_all : ∀ (r pre : Sig), okQs pre r = true → ∀ (i : Nat) (p : Param), r[i]? = some p → stepQ (pre ++ r.take i) p = true
  | [], pre, _, i, p, hp => by simp at hp
  | q :: r, pre, h, 0, p, hp => by simp at hp; subst hp; simp only [okQs, Bool.and_eq_true] at h; simpa using h.1
  | q :: r, pre, h, i + 1, p, hp => by
    simp only [okQs, Bool.and_eq_true] at h
    have := okQs_all r (pre ++ [q]) h.2 i p (by simpa using hp)
    simpa using this

theorem okQs_of_all : ∀ (r pre : Sig), (∀ (i : Nat) (p : Param), r[i]? = some p → stepQ (pre ++ r.take i) p = true) → okQs pre r = true
  | [], pre, _ => rfl
  | q :: r, pre, h => by
    simp only [okQs, Bool.and_eq_true]
    refine ⟨by simpa using h 0 q rfl, okQs_of_all r (pre ++ [q]) fun i p hp => ?_⟩
    have := h (i + 1) p (by simpa using hp)
    simpa using this

structure OkS (s : Sig) : Prop where
  params : ∀ p ∈ s, okQ p = true
  nodup : (s.map Param.name).Nodup
  next : ∀ (i : Nat) (l p : Param), s[i]? = some l → s[i + 1]? = some p → nextQ l p = true
  len : s.length ≤ 8

theorem okSig_iff {s : Sig} : okSig s = true ↔ OkS s := by
  simp only [okSig, Bool.and_eq_true, decide_eq_true_eq]
  constructor
  · rintro ⟨h, hl⟩
    have hall := okQs_all s [] h
    simp only [List.nil_append] at hall
    refine ⟨fun p hp => ?_, ?_, fun i l p hl hp => ?_, hl⟩
    · obtain ⟨i, hi⟩ := List.getElem?_of_mem hp
      have := hall i p hi
      simp only [stepQ, Bool.and_eq_true] at this
      exact this.1.1
    · rw [List.nodup_iff_pairwise_ne, List.pairwise_iff_getElem]
      intro i j hi hj hij he
      simp only [List.length_map] at hi hj
      have := hall j s[j] (List.getElem?_eq_getElem hj)
      simp only [stepQ, Bool.and_eq_true, Bool.not_eq_true'] at this
      have h2 := this.1.2
      rw [List.any_eq_false] at h2
      refine h2 s[i] ?_ ?_
      · rw [List.mem_iff_getElem?]; exact ⟨i, by rw [List.getElem?_take, if_pos hij]; exact List.getElem?_eq_getElem hi⟩
      · simpa [qIs] using he
    · have := hall (i + 1) p hp
      simp only [stepQ, last_take hl, Bool.and_eq_true] at this
      exact this.2
  · intro h
    refine ⟨okQs_of_all s [] fun i p hp => ?_, h.len⟩
    simp only [List.nil_append, stepQ, Bool.and_eq_true, Bool.not_eq_true']
    refine ⟨⟨h.params p (List.mem_of_getElem? hp), ?_⟩, ?_⟩
    · rw [List.any_eq_false]
      intro q hq hqn
      obtain ⟨j, hj⟩ := List.getElem?_of_mem hq
      rw [List.getElem?_take] at hj
      split at hj
      · rename_i hji
        have hn := h.nodup
        rw [List.nodup_iff_pairwise_ne, List.pairwise_iff_getElem] at hn
        have hil := lt_of_some hp
        have hjl := lt_of_some hj
        refine hn j i (by simpa using hjl) (by simpa using hil) hji ?_
        rw [List.getElem?_eq_getElem hil] at hp
        rw [List.getElem?_eq_getElem hjl] at hj
        simp only [Option.some.injEq] at hp hj
        simp only [List.getElem_map, hp, hj]
        simpa [qIs] using hqn
      · cases hj
    · split
      · rfl
      · rename_i l hl
        cases i with
        | zero => simp at hl
        | succ i =>
          obtain ⟨l', hl'⟩ := at_some (xs := s) (i := i) (by have := lt_of_some hp; omega)
          rw [last_take hl'] at hl
          cases hl
          exact h.next i _ p hl' hp

theorem nextQ_kind {l p : Param} (h : nextQ l p = true) : l.kind ≤ p.kind ∧ (singleQ p = false → l.kind < p.kind) ∧ (placedQ p = true → l.hasD = true → p.hasD = true) := by
  simp only [nextQ, Bool.and_eq_true, decide_eq_true_eq, Bool.or_eq_true, bne_iff_ne, ne_eq, Bool.not_eq_true'] at h
  refine ⟨h.1.1, fun hs => ?_, fun h1 h2 => ?_⟩
  · rcases h.1.2 with h3 | h3
    · omega
    · rw [hs] at h3; cases h3
  · rcases h.2 with (h3 | h3) | h3
    · rw [h1] at h3; cases h3
    · rw [h2] at h3; cases h3
    · exact h3

theorem OkS.sorted {s : Sig} (h : OkS s) : ∀ (d i : Nat) (l p : Param), s[i]? = some l → s[i + d]? = some p → l.kind ≤ p.kind
  | 0, i, l, p, hl, hp => by rw [Nat.add_zero, hl] at hp; cases hp; exact Int.le_refl _
  | d + 1, i, l, p, hl, hp => by
    obtain ⟨q, hq⟩ := at_some (xs := s) (i := i + d) (by have := lt_of_some hp; omega)
    have h1 := OkS.sorted h d i l q hl hq
    have h2 := (nextQ_kind (h.next (i + d) q p hq hp)).1
    omega

theorem OkS.sortedLt {s : Sig} (h : OkS s) {i j : Nat} {l p : Param} (hij : i < j) (hl : s[i]? = some l) (hp : s[j]? = some p) (hs : singleQ p = false) : l.kind < p.kind := by
  obtain ⟨q, hq⟩ := at_some (xs := s) (i := j - 1) (by have := lt_of_some hp; omega)
  have h1 := h.sorted (j - 1 - i) i l q hl (by rw [show i + (j - 1 - i) = j - 1 by omega]; exact hq)
  have h2 := (nextQ_kind (h.next (j - 1) q p hq (by rw [show j - 1 + 1 = j by omega]; exact hp))).2.1 hs
  omega

theorem OkS.kindRange {s : Sig} (h : OkS s) {p : Param} (hp : p ∈ s) : 0 ≤ p.kind ∧ p.kind ≤ 4 := by
  have := h.params p hp
  simp only [okQ, inR, Bool.and_eq_true, decide_eq_true_eq] at this
  exact this.1.1.1.2

theorem OkS.nameLen {s : Sig} (h : OkS s) {p : Param} (hp : p ∈ s) : p.name.length ≤ 6 ∧ 1 ≤ p.name.length := by
  have := h.params p hp
  simp only [okQ, okName, inR, Bool.and_eq_true, decide_eq_true_eq] at this
  omega

theorem single_kind {p : Param} : singleQ p = true ↔ p.kind = 0 ∨ p.kind = 1 ∨ p.kind = 3 := by
  simp only [singleQ, placedQ, Bool.or_eq_true, beq_iff_eq]; omega

theorem placed_kind {p : Param} : placedQ p = true ↔ p.kind = 0 ∨ p.kind = 1 := by
  simp only [placedQ, Bool.or_eq_true, beq_iff_eq]

theorem named_kind {p : Param} : namedQ p = true ↔ p.kind = 1 ∨ p.kind = 3 := by
  simp only [namedQ, Bool.or_eq_true, beq_iff_eq]

/-- Of the kinds of which there is one parameter at most. -/
theorem OkS.one {s : Sig} (h : OkS s) {i j : Nat} {l p : Param} (hl : s[i]? = some l) (hp : s[j]? = some p) (hk : l.kind = p.kind) (hs : singleQ p = false) : i = j := by
  have hs' : singleQ l = false := by
    cases hx : singleQ l with
    | false => rfl
    | true => rw [single_kind, hk, ← single_kind, hs] at hx; cases hx
  rcases Nat.lt_trichotomy i j with h1 | h1 | h1
  · have := h.sortedLt h1 hl hp hs; omega
  · exact h1
  · have := h.sortedLt h1 hp hl hs'; omega

theorem countP_all {α : Type} {p : α → Bool} : ∀ {xs : List α}, (∀ x ∈ xs, p x = true) → xs.countP p = xs.length
  | [], _ => rfl
  | x :: xs, h => by rw [List.countP_cons_of_pos (h x (by simp)), countP_all (fun y hy => h y (by simp [hy]))]; rfl

theorem countP_none {α : Type} {p : α → Bool} : ∀ {xs : List α}, (∀ x ∈ xs, p x = false) → xs.countP p = 0
  | [], _ => rfl
  | x :: xs, h => by rw [List.countP_cons_of_neg (by rw [h x (by simp)]; simp), countP_none (fun y hy => h y (by simp [hy]))]

/-- The parameters that are found by their place come first. -/
theorem OkS.placed_iff {s : Sig} (h : OkS s) {i : Nat} {p : Param} (hp : s[i]? = some p) : placedQ p = true ↔ i < placesQ s := by
  have hsp := List.take_append_drop (i + 1) s
  have hspi := List.take_append_drop i s
  constructor
  · intro hpp
    have h1 : (s.take (i + 1)).countP placedQ = i + 1 := by
      rw [countP_all]
      · simp; have := lt_of_some hp; omega
      · intro q hq
        obtain ⟨j, hj⟩ := List.getElem?_of_mem hq
        rw [List.getElem?_take] at hj
        split at hj
        · have hk := h.sorted (i - j) j q p hj (by rw [show j + (i - j) = i by omega]; exact hp)
          have hr := h.kindRange (List.mem_of_getElem? hj)
          rw [placed_kind] at hpp ⊢
          omega
        · cases hj
    have h2 : placesQ s = (s.take (i + 1)).countP placedQ + (s.drop (i + 1)).countP placedQ := by
      unfold placesQ; rw [← List.countP_append, hsp]
    omega
  · intro hlt
    cases hpp : placedQ p with
    | true => rfl
    | false =>
      exfalso
      have h1 : (s.drop i).countP placedQ = 0 := by
        refine countP_none fun q hq => ?_
        obtain ⟨j, hj⟩ := List.getElem?_of_mem hq
        rw [List.getElem?_drop] at hj
        have hk := h.sorted j i p q hp hj
        have hr := h.kindRange (List.mem_of_getElem? hp)
        cases hqq : placedQ q with
        | false => rfl
        | true =>
          rw [placed_kind] at hqq
          have : placedQ p = true := placed_kind.2 (by omega)
          rw [hpp] at this; cases this
      have h2 : placesQ s = (s.take i).countP placedQ + (s.drop i).countP placedQ := by
        unfold placesQ; rw [← List.countP_append, hspi]
      have h3 := List.countP_le_length (p := placedQ) (l := s.take i)
      rw [List.length_take] at h3
      omega

theorem placesQ_le (s : Sig) : placesQ s ≤ s.length := List.countP_le_length

structure Slot where
  given : Bool
  list : List Int
  pairs : List Pair
deriving DecidableEq

def eL (x : Slot) : List C := [.bool x.given, .fs (x.list.map eI), .fs (x.pairs.map eP)]

def zL : Slot := ⟨false, [], []⟩

abbrev Bnds := List Slot

def eBi (b : Bnds) : List C := [.fs (b.map eL)]

structure Problem where
  kind : Int
  name : Str
deriving DecidableEq

def eB (p : Problem) : List C := [.int .i64 p.kind, .str p.name]

theorem eL_noOwn (p : Slot) : noOwnL (eL p) = true := rfl

theorem eB_len (p : Problem) : (eB p).length = 2 := rfl

theorem eB_noOwn (p : Problem) : noOwnL (eB p) = true := rfl

def ownL (xs : List Slot) : Option AObj := some ⟨3, xs.map eL, true, false, false⟩

def ownB (xs : List Problem) : Option AObj := some ⟨2, xs.map eB, true, false, false⟩

/-- What the places give to parameter number 'i'. -/
def place1 (np : Nat) (pl : List Int) (i : Nat) (p : Param) : Slot :=
  if placedQ p && decide (i < pl.length) then ⟨true, [pl.getD i 0], []⟩ else if p.kind == 2 then ⟨false, pl.drop np, []⟩ else zL

def phase1 (s : Sig) (pl : List Int) : Bnds := s.mapIdx (place1 (placesQ s) pl)

def manyQ (s : Sig) (pl : List Int) : List Problem := if decide (placesQ s < pl.length) && !s.any (kIs 2) then [⟨0, []⟩] else []

/-- What a name gives. -/
def stepB (s : Sig) (st : Bnds × List Problem) (q : Pair) : Bnds × List Problem :=
  if takesQ s q.name < 0 then (st.1, st.2 ++ [⟨1, q.name⟩]) else
  match s[(takesQ s q.name).toNat]?, st.1[(takesQ s q.name).toNat]? with
  | some p, some x => if p.kind = 4 then (st.1.set (takesQ s q.name).toNat ⟨x.given, x.list, x.pairs ++ [q]⟩, st.2) else
      if x.given then (st.1, st.2 ++ [⟨2, q.name⟩]) else (st.1.set (takesQ s q.name).toNat ⟨true, [q.value], []⟩, st.2)
  | _, _ => st

def boundQ (s : Sig) (f : Flat) : Bnds × List Problem := f.named.foldl (stepB s) (phase1 s f.places, manyQ s f.places)

def lackQ (px : Param × Slot) : Option Problem := if singleQ px.1 && !px.1.hasD && !px.2.given then some ⟨3, px.1.name⟩ else none

def missingQ (s : Sig) (b : Bnds) : List Problem := (s.zip b).filterMap lackQ

def bindQ (s : Sig) (f : Flat) : Bnds × List Problem := ((boundQ s f).1, (boundQ s f).2 ++ missingQ s (boundQ s f).1)

theorem phase1_len (s : Sig) (pl : List Int) : (phase1 s pl).length = s.length := by simp [phase1]

theorem stepB_len (s : Sig) (st : Bnds × List Problem) (q : Pair) : (stepB s st q).1.length = st.1.length := by
  unfold stepB
  split
  · rfl
  · split
    · split
      · simp
      · split <;> simp
    · rfl

theorem foldB_len (s : Sig) : ∀ (qs : List Pair) (st : Bnds × List Problem), (qs.foldl (stepB s) st).1.length = st.1.length
  | [], st => rfl
  | q :: qs, st => by rw [List.foldl_cons, foldB_len s qs, stepB_len]

theorem boundQ_len (s : Sig) (f : Flat) : (boundQ s f).1.length = s.length := by rw [boundQ, foldB_len, phase1_len]

theorem stepB_wr (s : Sig) (st : Bnds × List Problem) (q : Pair) : (stepB s st q).2.length ≤ st.2.length + 1 := by
  unfold stepB
  split
  · simp
  · split
    · split
      · simp
      · split <;> simp
    · simp

theorem foldB_wr (s : Sig) : ∀ (qs : List Pair) (st : Bnds × List Problem), (qs.foldl (stepB s) st).2.length ≤ st.2.length + qs.length
  | [], st => by simp
  | q :: qs, st => by
    rw [List.foldl_cons]
    have h1 := foldB_wr s qs (stepB s st q)
    have h2 := stepB_wr s st q
    simp only [List.length_cons]
    omega

theorem manyQ_len (s : Sig) (pl : List Int) : (manyQ s pl).length ≤ 1 := by unfold manyQ; split <;> simp

theorem missingQ_len (s : Sig) (b : Bnds) : (missingQ s b).length ≤ s.length := by
  have h1 := List.length_filterMap_le lackQ (s.zip b)
  have h2 : (s.zip b).length ≤ s.length := by rw [List.length_zip]; omega
  unfold missingQ; omega

def cellOr (b : Bool) (c : Option C) (d : C) : C := match b, c with
  | true, some c => c
  | _, _ => d

def rowM (cr cm : Option C) (p : Param) (x : Slot) : List C := [.bool x.given, cellOr (p.kind == 2) cr (.fs (x.list.map eI)), cellOr (p.kind == 4) cm (.fs (x.pairs.map eP))]

def rowsM (cr cm : Option C) (s : Sig) (b : Bnds) : List (List C) := List.zipWith (rowM cr cm) s b

theorem rowsM_at {cr cm : Option C} {s : Sig} {b : Bnds} {i : Nat} {p : Param} {x : Slot} (hp : s[i]? = some p) (hx : b[i]? = some x) : (rowsM cr cm s b)[i]? = some (rowM cr cm p x) := by
  simp [rowsM, List.getElem?_zipWith, hp, hx]

theorem rowsM_set {cr cm : Option C} : ∀ {s : Sig} {b : Bnds} {i : Nat} {p : Param} {y : Slot}, s[i]? = some p → (rowsM cr cm s b).set i (rowM cr cm p y) = rowsM cr cm s (b.set i y)
  | [], b, i, p, y, hp => by simp at hp
  | q :: s, [], i, p, y, hp => by simp [rowsM]
  | q :: s, x :: b, 0, p, y, hp => by simp at hp; subst hp; simp [rowsM]
  | q :: s, x :: b, i + 1, p, y, hp => by
    have := rowsM_set (cr := cr) (cm := cm) (s := s) (b := b) (i := i) (p := p) (y := y) (by simpa using hp)
    simp only [rowsM, List.zipWith_cons_cons, List.set_cons_succ] at this ⊢
    rw [this]

theorem cellOr_map {f : C → C} {b : Bool} {c : Option C} {d : C} (hd : f d = d) : f (cellOr b c d) = cellOr b (c.map f) d := by
  cases b <;> cases c <;> simp [cellOr, hd]

theorem rowsM_re {f : C → C} (hb : ∀ b, f (.bool b) = .bool b) (hf : ∀ xs, f (.fs xs) = .fs xs) (cr cm : Option C) (s : Sig) (b : Bnds) : mapR f (rowsM cr cm s b) = rowsM (cr.map f) (cm.map f) s b := by
  rw [mapR_eq]
  simp only [rowsM, List.map_zipWith]
  congr 1
  funext p x
  simp only [rowM, mapC, hb, cellOr_map (hf _)]

theorem rowsM_none {s : Sig} {b : Bnds} (h : b.length = s.length) : rowsM none none s b = b.map eL := by
  apply List.ext_getElem?
  intro i
  simp only [rowsM, List.getElem?_zipWith, List.getElem?_map]
  by_cases hi : i < s.length
  · rw [List.getElem?_eq_getElem hi, List.getElem?_eq_getElem (by omega)]
    simp only [Option.map_some, rowM, eL]
    cases (s[i].kind == 2) <;> cases (s[i].kind == 4) <;> rfl
  · rw [List.getElem?_eq_none (by omega), List.getElem?_eq_none (by omega)]; rfl

/-- Own memory that holds what is said of it, told zs data. -/
theorem rowsM_freeM {cr : Option C} {s : Sig} {b : Bnds} {ps : List Pair} (h : ∀ (i : Nat) (p : Param) (x : Slot), s[i]? = some p → b[i]? = some x → p.kind = 4 → x.pairs = ps) : rowsM cr (some (.fs (ps.map eP))) s b = rowsM cr none s b := by
  apply List.ext_getElem?
  intro i
  simp only [rowsM, List.getElem?_zipWith]
  cases hp : s[i]? with
  | none => rfl
  | some p =>
    cases hx : b[i]? with
    | none => rfl
    | some x =>
      simp only [rowM, Option.some.injEq, List.cons.injEq, true_and, and_true]
      cases hk : (p.kind == 4) with
      | false => rfl
      | true => simp only [cellOr]; rw [h i p x hp hx (by simpa using hk)]

theorem rowsM_freeR {cm : Option C} {s : Sig} {b : Bnds} {ns : List Int} (h : ∀ (i : Nat) (p : Param) (x : Slot), s[i]? = some p → b[i]? = some x → p.kind = 2 → x.list = ns) : rowsM (some (.fs (ns.map eI))) cm s b = rowsM none cm s b := by
  apply List.ext_getElem?
  intro i
  simp only [rowsM, List.getElem?_zipWith]
  cases hp : s[i]? with
  | none => rfl
  | some p =>
    cases hx : b[i]? with
    | none => rfl
    | some x =>
      simp only [rowM, Option.some.injEq, List.cons.injEq, true_and, and_true]
      cases hk : (p.kind == 2) with
      | false => rfl
      | true => simp only [cellOr]; rw [h i p x hp hx (by simpa using hk)]

/-- The rows that 'make' gives. -/
def nilRow : List C := [.bool false, nilSl, nilSl]

def nilRows (n : Nat) : List (List C) := List.replicate n nilRow

theorem rowM_noOwn {cr cm : Option C} {p : Param} {x : Slot} (h2 : p.kind = 2 → cr = none) (h4 : p.kind = 4 → cm = none) : rowM cr cm p x = eL x := by
  simp only [rowM, eL]
  congr 1
  congr 1
  · cases hk : (p.kind == 2) with
    | false => rfl
    | true => rw [h2 (by simpa using hk)]; rfl
  · congr 1
    cases hk : (p.kind == 4) with
    | false => rfl
    | true => rw [h4 (by simpa using hk)]; rfl

/-- The index of the one parameter of a kind. -/
theorem kind_ix {s : Sig} (h : OkS s) (k : Int) (hk : k = 2 ∨ k = 4) : (∀ p ∈ s, p.kind ≠ k) ∨ ∃ (m : Nat) (q : Param), s[m]? = some q ∧ q.kind = k ∧ ∀ (i : Nat) (p : Param), s[i]? = some p → (p.kind = k ↔ i = m) := by
  by_cases hx : ∃ p ∈ s, p.kind = k
  · obtain ⟨q, hq, hqk⟩ := hx
    obtain ⟨m, hm⟩ := List.getElem?_of_mem hq
    refine .inr ⟨m, q, hm, hqk, fun i p hp => ⟨fun hpk => ?_, fun hi => by subst hi; rw [hm] at hp; cases hp; exact hqk⟩⟩
    refine h.one hp hm (by omega) ?_
    cases hs : singleQ q with
    | false => rfl
    | true => rw [single_kind] at hs; omega
  · exact .inl fun p hp hpk => hx ⟨p, hp, hpk⟩

/-- The rows that 'make' gives; some nil cells are own memory that is empty. -/
def rowN (a b : Option C) (p : Param) : List C := [.bool false, cellOr (p.kind == 2) a nilSl, cellOr (p.kind == 4) b nilSl]

def rowsN (a b : Option C) (s : Sig) : List (List C) := s.map (rowN a b)

theorem rowsN_none (s : Sig) : rowsN none none s = List.replicate s.length nilRow := by
  have : rowN none none = fun _ => nilRow := by
    funext p; simp only [rowN]; cases (p.kind == 2) <;> cases (p.kind == 4) <;> rfl
  rw [rowsN, this, List.map_const']

variable {N np : Nat} {σ : State}

theorem map_set_same {α β : Type} {f g : α → β} {xs : List α} {m : Nat} {y : β} (hm : m < xs.length) (h : ∀ (i : Nat) (x : α), xs[i]? = some x → if i = m then g x = y else g x = f x) : (xs.map f).set m y = xs.map g := by
  apply List.ext_getElem?
  intro i
  rw [List.getElem?_set, List.getElem?_map, List.getElem?_map]
  cases hx : xs[i]? with
  | none =>
    have : xs.length ≤ i := by simpa using hx
    rw [if_neg (by omega)]; rfl
  | some x =>
    have := h i x hx
    by_cases him : i = m
    · subst him; rw [if_pos rfl] at this ⊢; simp [hm, this]
    · rw [if_neg him] at this; rw [if_neg (fun h0 => him h0.symm)]; simp [this]

theorem adoptR {s : Sig} (hs : OkS s) {id : Nat} {b : Option C} {cl : Bool} {ob : AObj} (P : Nat) (hP : σ.o.length = P) (hob : getObj? σ id = some ob) (hr : ob = ⟨3, rowsN none b s, cl, false, false⟩) :
    Weak N np σ ⟨σ.ρ, setNth (snocO σ.o ⟨1, [], true, false, false⟩) id (some ⟨3, rowsN (some (.os P 0 0 0)) b s, false, false, false⟩), σ.k⟩ := by
  subst hP
  refine Weak.adoptRows hob hr ?_
  rcases kind_ix hs 2 (.inl rfl) with hno | ⟨m, q, hm, hq, hall⟩
  · left
    apply List.map_congr_left
    intro p hp
    have : (p.kind == 2) = false := by simpa using hno p hp
    simp only [rowN, this, cellOr]
  · right
    refine ⟨m, 1, rowN none b q, by simp [rowsN, hm], (map_set_same (lt_of_some hm) fun i x hx => ?_).symm⟩
    have hk := hall i x hx
    split
    · rename_i him
      subst him; rw [hm] at hx; cases hx
      simp [rowN, cellOr, adoptAt, adoptC, nilSl, nilB, hq]
    · rename_i him
      have : (x.kind == 2) = false := by simpa using fun h0 => him (hk.1 h0)
      simp only [rowN, this, cellOr]

theorem adoptM {s : Sig} (hs : OkS s) {id : Nat} {b : Option C} {cl : Bool} {ob : AObj} (P : Nat) (hP : σ.o.length = P) (hob : getObj? σ id = some ob) (hr : ob = ⟨3, rowsN b none s, cl, false, false⟩) :
    Weak N np σ ⟨σ.ρ, setNth (snocO σ.o ⟨2, [], true, false, false⟩) id (some ⟨3, rowsN b (some (.os P 0 0 0)) s, false, false, false⟩), σ.k⟩ := by
  subst hP
  refine Weak.adoptRows hob hr ?_
  rcases kind_ix hs 4 (.inr rfl) with hno | ⟨m, q, hm, hq, hall⟩
  · left
    apply List.map_congr_left
    intro p hp
    have : (p.kind == 4) = false := by simpa using hno p hp
    simp only [rowN, this, cellOr]
  · right
    refine ⟨m, 2, rowN b none q, by simp [rowsN, hm], (map_set_same (lt_of_some hm) fun i x hx => ?_).symm⟩
    have hk := hall i x hx
    split
    · rename_i him
      subst him; rw [hm] at hx; cases hx
      simp [rowN, cellOr, adoptAt, adoptC, nilSl, nilB, hq]
    · rename_i him
      have : (x.kind == 4) = false := by simpa using fun h0 => him (hk.1 h0)
      simp only [rowN, this, cellOr]

/-- All nil cells told zs data. -/
theorem rowsN_re {f : C → C} (hb : f (.bool false) = .bool false) (hn : f nilSl = .fs []) (a b : Option C) (s : Sig) : mapR f (rowsN a b s) = rowsM (a.map f) (b.map f) s (List.replicate s.length zL) := by
  rw [mapR_eq]
  apply List.ext_getElem?
  intro i
  simp only [rowsN, rowsM, List.getElem?_map, List.getElem?_zipWith, List.getElem?_replicate]
  cases hp : s[i]? with
  | none => rfl
  | some p =>
    rw [if_pos (lt_of_some hp)]
    simp only [Option.map_some, Option.some.injEq, rowN, rowM, mapC, hb, zL, List.map_nil]
    congr 1
    congr 1
    · cases (p.kind == 2) <;> cases a <;> simp [cellOr, hn]
    · congr 1
      cases (p.kind == 4) <;> cases b <;> simp [cellOr, hn]

def part1 (s : Sig) (pl : List Int) (i : Nat) : Bnds := s.mapIdx fun j p => if j < i then place1 (placesQ s) pl j p else zL

theorem part1_zero (s : Sig) (pl : List Int) : part1 s pl 0 = List.replicate s.length zL := by
  apply List.ext_getElem?
  intro i
  simp only [part1, List.getElem?_mapIdx, List.getElem?_replicate]
  by_cases h : i < s.length
  · simp [h]
  · simp [h]

theorem part1_full (s : Sig) (pl : List Int) : part1 s pl s.length = phase1 s pl := by
  apply List.ext_getElem?
  intro i
  simp only [part1, phase1, List.getElem?_mapIdx]
  cases hp : s[i]? with
  | none => rfl
  | some p => simp [lt_of_some hp]

theorem part1_at {s : Sig} {pl : List Int} {i : Nat} {p : Param} (hp : s[i]? = some p) : (part1 s pl i)[i]? = some zL := by
  simp [part1, hp]

theorem part1_step {s : Sig} {pl : List Int} {i : Nat} {p : Param} (hp : s[i]? = some p) : (part1 s pl i).set i (place1 (placesQ s) pl i p) = part1 s pl (i + 1) := by
  apply List.ext_getElem?
  intro j
  have hl := lt_of_some hp
  simp only [List.getElem?_set, part1, List.getElem?_mapIdx, List.length_mapIdx]
  by_cases hij : i = j
  · subst hij
    have h1 : s[i] = p := by rw [List.getElem?_eq_getElem hl] at hp; simpa using hp
    simp [hl, h1]
  · rw [if_neg hij]
    cases hj : s[j]? with
    | none => rfl
    | some q =>
      simp only [Option.map_some, Option.some.injEq]
      by_cases h1 : j < i
      · rw [if_pos h1, if_pos (by omega)]
      · rw [if_neg h1, if_neg (by omega)]

/-- The places that are left ahead of parameter number 'i'. -/
def leftQ (s : Sig) (pl : List Int) (i : Nat) : List Int := if (s.take i).any (kIs 2) then [] else pl.drop (min i (placesQ s))

theorem any_take_succ {α : Type} {p : α → Bool} {xs : List α} {i : Nat} {x : α} (h : xs[i]? = some x) : (xs.take (i + 1)).any p = ((xs.take i).any p || p x) := by
  rw [← take_snoc h, List.any_append]; simp

theorem noRest {s : Sig} (hs : OkS s) {i : Nat} {p : Param} (hp : s[i]? = some p) (hk : p.kind ≤ 2) : (s.take i).any (kIs 2) = false := by
  rw [List.any_eq_false]
  intro q hq hqk
  obtain ⟨j, hj⟩ := List.getElem?_of_mem hq
  rw [List.getElem?_take] at hj
  split at hj
  · rename_i hji
    have hqk' : q.kind = 2 := by simpa [kIs] using hqk
    have h1 := hs.sorted (i - j) j q p hj (by rw [show j + (i - j) = i by omega]; exact hp)
    have h2 := hs.one hj hp (by omega) (by
      cases hx : singleQ p with
      | false => rfl
      | true => rw [single_kind] at hx; omega)
    omega
  · cases hj

theorem left_placed {s : Sig} (hs : OkS s) {pl : List Int} {i : Nat} {p : Param} (hp : s[i]? = some p) (hpl : placedQ p = true) : leftQ s pl i = pl.drop i ∧ leftQ s pl (i + 1) = pl.drop (i + 1) := by
  have hlt := (hs.placed_iff hp).1 hpl
  have hk := placed_kind.1 hpl
  have h1 := noRest hs hp (by omega)
  have h2 : (s.take (i + 1)).any (kIs 2) = false := by
    rw [any_take_succ hp, h1, Bool.false_or]; simp [kIs]; omega
  simp only [leftQ, h1, h2, Bool.false_eq_true, if_false]
  rw [show min i (placesQ s) = i by omega, show min (i + 1) (placesQ s) = i + 1 by omega]
  exact ⟨rfl, rfl⟩

theorem left_rest {s : Sig} (hs : OkS s) {pl : List Int} {i : Nat} {p : Param} (hp : s[i]? = some p) (hk : p.kind = 2) : leftQ s pl i = pl.drop (placesQ s) ∧ leftQ s pl (i + 1) = [] := by
  have h1 := noRest hs hp (by omega)
  have hnp : ¬ i < placesQ s := by
    rw [← hs.placed_iff hp, placed_kind]; omega
  simp only [leftQ, h1, any_take_succ hp, show kIs 2 p = true by simp [kIs, hk], Bool.or_true, if_true, Bool.false_eq_true, if_false]
  rw [show min i (placesQ s) = placesQ s by omega]
  exact ⟨rfl, trivial⟩

theorem left_other {s : Sig} (hs : OkS s) {pl : List Int} {i : Nat} {p : Param} (hp : s[i]? = some p) (hk : p.kind ≠ 2) (hnp : placedQ p = false) : leftQ s pl (i + 1) = leftQ s pl i := by
  have h2 : ¬ i < placesQ s := by rw [← hs.placed_iff hp, hnp]; simp
  have h3 : kIs 2 p = false := by simp [kIs, hk]
  simp only [leftQ, any_take_succ hp, h3, Bool.or_false]
  rw [show min i (placesQ s) = placesQ s by omega, show min (i + 1) (placesQ s) = placesQ s by omega]

theorem left_end (s : Sig) (pl : List Int) : decide (0 < (leftQ s pl s.length).length) = (decide (placesQ s < pl.length) && !s.any (kIs 2)) := by
  unfold leftQ
  rw [List.take_length, show min s.length (placesQ s) = placesQ s by have := placesQ_le s; omega]
  cases h : s.any (kIs 2) with
  | true => simp
  | false =>
    simp only [Bool.false_eq_true, if_false, List.length_drop, Bool.not_false, Bool.and_true]
    rw [decide_eq_decide]; omega

theorem storeRow {cr cm : Option C} {s : Sig} {b : Bnds} {i j : Nat} {p : Param} {x y : Slot} (hp : s[i]? = some p) (h2 : p.kind = 2 → cr = none) (h4 : p.kind = 4 → cm = none) (hj : j = i) :
    rowsM cr cm s (b.set i y) = (rowsM cr cm s b).set j (patch (rowM cr cm p x) 0 (eL y)) := by
  subst hj
  rw [patch_full (rowM cr cm p x) (eL y) rfl, ← rowM_noOwn (x := y) h2 h4, rowsM_set hp]

theorem storeList {cm : Option C} {s : Sig} {b : Bnds} {i j : Nat} {p : Param} {x : Slot} {ns : List Int} (hp : s[i]? = some p) (hj : j = i) :
    rowsM none cm s (b.set i ⟨x.given, ns, x.pairs⟩) = (rowsM none cm s b).set j (patch (rowM none cm p x) 1 [.fs (ns.map eI)]) := by
  subst hj
  rw [← rowsM_set hp]
  congr 1
  simp only [rowM, patch]
  cases (p.kind == 2) <;> rfl

theorem rowM_map {cr : Option C} {c' : C} {p : Param} {x : Slot} (h : p.kind = 4) : rowM cr (some c') p x = [.bool x.given, .fs (x.list.map eI), c'] := by
  simp only [rowM, h]; rfl

theorem rowM_two {cm : Option C} {c' : C} {p : Param} {x : Slot} (h : p.kind = 2) : rowM (some c') cm p x = [.bool x.given, c', .fs (x.pairs.map eP)] := by
  simp only [rowM, h]; cases cm <;> rfl

theorem rowM_plain {cr cm : Option C} {p : Param} {x : Slot} (h2 : p.kind ≠ 2) (h4 : p.kind ≠ 4) : rowM cr cm p x = eL x := rowM_noOwn (fun h => absurd h h2) (fun h => absurd h h4)

theorem single_four {p : Param} (h : p.kind = 4) : singleQ p = false := by
  cases hz : singleQ p with
  | false => rfl
  | true => rw [single_kind] at hz; omega

theorem storePairs {s : Sig} (hs : OkS s) {cr : Option C} {c c' : C} {b : Bnds} {i j : Nat} {p : Param} {x : Slot} {ps : List Pair} (hp : s[i]? = some p) (hx : b[i]? = some x) (hk : p.kind = 4) (hj : j = i) :
    rowsM cr (some c') s (b.set i ⟨x.given, x.list, ps⟩) = (rowsM cr (some c) s b).set j (patch [.bool x.given, .fs (x.list.map eI), c] 2 [c']) := by
  subst hj
  apply List.ext_getElem?
  intro k
  have hlen : j < (rowsM cr (some c) s b).length := by
    have h1 := lt_of_some hp; have h2 := lt_of_some hx; simp [rowsM]; omega
  rw [List.getElem?_set]
  by_cases hjk : j = k
  · subst hjk
    rw [if_pos rfl, if_pos hlen, rowsM_at hp (by rw [List.getElem?_set]; simp [lt_of_some hx]; rfl), rowM_map hk]
    rfl
  · rw [if_neg hjk]
    simp only [rowsM, List.getElem?_zipWith, List.getElem?_set, if_neg hjk]
    cases hq : s[k]? with
    | none => rfl
    | some q =>
      cases hy : b[k]? with
      | none => rfl
      | some y =>
        have h4 : (q.kind == 4) = false := by
          have : q.kind ≠ 4 := fun h0 => hjk (hs.one hp hq (by omega) (single_four h0))
          simpa using this
        simp only [rowM, h4, cellOr]

theorem takesQ_some {s : Sig} {n : Str} (h : ¬ takesQ s n < 0) : ∃ p, s[(takesQ s n).toNat]? = some p ∧ takesQ s n < s.length ∧ ((namedQ p = true ∧ p.name = n) ∨ p.kind = 4) := by
  have four : takesQ s n = idxI (kIs 4) s 0 → ∃ p, s[(takesQ s n).toNat]? = some p ∧ takesQ s n < s.length ∧ ((namedQ p = true ∧ p.name = n) ∨ p.kind = 4) := fun ht => by
    rw [ht] at h ⊢
    obtain ⟨p, hf, hp, hq, hlt⟩ := idxI_find (show 0 ≤ idxI (kIs 4) s 0 by omega)
    exact ⟨p, hp, hlt, .inr (by simpa [kIs] using hq)⟩
  cases hf : s.find? (qIs n) with
  | none => exact four (by simp [takesQ, hf])
  | some q =>
    cases hn : namedQ q with
    | false => exact four (by simp [takesQ, hf, hn])
    | true =>
      have ht : takesQ s n = idxI (qIs n) s 0 := by simp [takesQ, hf, hn]
      rw [ht] at h ⊢
      obtain ⟨p, hf', hp, hq, hlt⟩ := idxI_find (show 0 ≤ idxI (qIs n) s 0 by omega)
      rw [hf] at hf'
      cases hf'
      exact ⟨_, hp, hlt, .inl ⟨hn, by simpa [qIs] using hq⟩⟩

theorem stepB_neg {s : Sig} {st : Bnds × List Problem} {q : Pair} (h : takesQ s q.name < 0) : stepB s st q = (st.1, st.2 ++ [⟨1, q.name⟩]) := by simp [stepB, h]

theorem stepB_map {s : Sig} {st : Bnds × List Problem} {q : Pair} {i : Nat} {p : Param} {x : Slot} (h : takesQ s q.name = (i : Nat)) (hp : s[i]? = some p) (hx : st.1[i]? = some x) (hk : p.kind = 4) : stepB s st q = (st.1.set i ⟨x.given, x.list, x.pairs ++ [q]⟩, st.2) := by
  simp [stepB, h, hp, hx, hk]

theorem stepB_twice {s : Sig} {st : Bnds × List Problem} {q : Pair} {i : Nat} {p : Param} {x : Slot} (h : takesQ s q.name = (i : Nat)) (hp : s[i]? = some p) (hx : st.1[i]? = some x) (hk : p.kind ≠ 4) (hg : x.given = true) : stepB s st q = (st.1, st.2 ++ [⟨2, q.name⟩]) := by
  simp [stepB, h, hp, hx, hk, hg]

theorem stepB_set {s : Sig} {st : Bnds × List Problem} {q : Pair} {i : Nat} {p : Param} {x : Slot} (h : takesQ s q.name = (i : Nat)) (hp : s[i]? = some p) (hx : st.1[i]? = some x) (hk : p.kind ≠ 4) (hg : x.given = false) : stepB s st q = (st.1.set i ⟨true, [q.value], []⟩, st.2) := by
  simp [stepB, h, hp, hx, hk, hg]

/-- What the map has got. -/
def MapHas (s : Sig) (b : Bnds) (ps : List Pair) : Prop := ∀ (i : Nat) (p : Param) (x : Slot), s[i]? = some p → b[i]? = some x → p.kind = 4 → x.pairs = ps

theorem MapHas.set {s : Sig} {b : Bnds} {ps : List Pair} (h : MapHas s b ps) {i : Nat} {p : Param} {y : Slot} (hp : s[i]? = some p) (hk : p.kind ≠ 4) : MapHas s (b.set i y) ps := by
  intro j q x hq hx hqk
  rw [List.getElem?_set] at hx
  by_cases hij : i = j
  · subst hij; rw [hp] at hq; cases hq; exact absurd hqk hk
  · rw [if_neg hij] at hx; exact h j q x hq hx hqk

theorem MapHas.put {s : Sig} (hs : OkS s) {b : Bnds} {ps : List Pair} {i : Nat} {p : Param} {y : Slot} (hp : s[i]? = some p) (hk : p.kind = 4) (hy : y.pairs = ps) : MapHas s (b.set i y) ps := by
  intro j q x hq hx hqk
  have hij : i = j := hs.one hp hq (by omega) (single_four hqk)
  subst hij
  rw [List.getElem?_set] at hx
  split at hx
  · split at hx
    · cases hx; exact hy
    · cases hx
  · rename_i h0; exact absurd rfl h0

theorem phase1_map {s : Sig} (hs : OkS s) (pl : List Int) : MapHas s (phase1 s pl) [] := by
  intro i p x hp hx hk
  simp only [phase1, List.getElem?_mapIdx, hp, Option.map_some, Option.some.injEq] at hx
  subst hx
  unfold place1
  split
  · rfl
  · split <;> rfl

/-- clip of data. -/
theorem clipPd_ct (xs : List Pair) :
    ACalls pk 61 [.one (.fs (xs.map eP))] [] (fun r o => r = .one (.fs (xs.map eP)) ∧ o = []) := by
  refine acalls_of_body Tryz.func61 rfl (by kernel_rfl) rfl ?_
  refine rn rfl ?_
  refine goal_did rfl rfl (dA_slice3 0 xs.length xs.length (xs.map eP) rfl rfl rfl rfl rfl Bnd.none_ (Bnd.some_ rfl (by simp)) (by simp) (Bnd.some_ rfl (by simp)) (rows_len eP_len _) (by omega) (by omega) (by simp) rfl (by simp [List.take_of_length_le])) ?_
  refine rn rfl ?_
  exact rn rfl (fin_is [] rfl ⟨rfl, rfl⟩)

theorem clipB_ct (xs : List Problem) (kc : Nat) (hk : xs.length ≤ kc) :
    ACalls pk 62 [.one (.os 0 0 xs.length kc)] [ownB xs] (fun r o => r = .one (.os 0 0 xs.length xs.length) ∧ o = [ownB xs]) := by
  refine acalls_of_body Tryz.func62 rfl (by kernel_rfl) rfl ?_
  refine rn rfl ?_
  refine goal_did rfl rfl (dA_sliceOwn 0 xs.length xs.length 0 xs.length xs.length rfl rfl rfl rfl rfl rfl rfl Bnd.none_ (Bnd.some_ rfl rfl) (.inr ⟨by simp, by simp, Bnd.some_ rfl rfl⟩) (by omega) (by omega) hk (by simp) rfl rfl rfl rfl) ?_
  refine rn rfl ?_
  exact rn rfl (fin_is [] rfl ⟨rfl, rfl⟩)

theorem filterMap_take_succ {α β : Type} {g : α → Option β} {xs : List α} {i : Nat} {x : α} (h : xs[i]? = some x) : (xs.take (i + 1)).filterMap g = (xs.take i).filterMap g ++ (g x).toList := by
  rw [← take_snoc h, List.filterMap_append]; cases hx : g x <;> simp [List.filterMap_cons, hx]

theorem set_same {α : Type} {xs : List α} {i : Nat} {x : α} (h : xs[i]? = some x) : xs.set i x = xs := by
  apply List.ext_getElem?
  intro j
  rw [List.getElem?_set]
  split
  · rename_i hij; subst hij; rw [if_pos (lt_of_some h), h]
  · rfl

def oV (c : C) : Option AObj := some ⟨1, [[c]], false, false, true⟩

def oRows (rows : List (List C)) : Option AObj := some ⟨3, rows, false, false, false⟩

theorem ibind_ct (s : Sig) (f : Flat) (hs : OkS s) (h1 : f.places.length ≤ 1048576) (h2 : f.named.length ≤ 1048576) :
    ACalls pk 37 [.agg (eG s), .agg (eF f)] [] (fun r o => r = .tup [.agg [.os 0 0 s.length s.length], .one (.fs ((bindQ s f).2.map eB))] ∧ o = [ownL (bindQ s f).1]) := by
  have hsl := hs.len
  refine acalls_of_body Tryz.func37 rfl (by kernel_rfl) rfl ?_
  refine rn rfl ?_
  refine goal_did rfl rfl (dA_make s.length (nilRows s.length) rfl rfl rfl (by simp) (by simp) rfl rfl rfl rfl rfl (by show 56 * s.length ≤ _; omega) (by omega) rfl) ?_
  refine rn rfl ?_
  have hnil : nilRows s.length = rowsN none none s := (rowsN_none s).symm
  rw [hnil]
  refine goal_weakCod (Weak.adopt 7 0 2) ?_
  refine goal_weakCod (adoptM hs (id := 3) 6 rfl rfl rfl) ?_
  refine goal_weakCod (Weak.retell (id := 3) (cl' := false) rfl rfl (rowsN_re rfl rfl _ _ _) (by simp)) ?_
  refine goal_loop_keep (fun m σ => ∃ (n L : Int) (i : Nat), n = i ∧ L = s.length ∧ i ≤ s.length ∧ m = s.length - i ∧
      σ = ⟨[(26, .one (.int .i64 n)), (25, .one (.int .i64 L)), (24, .one (.fs (s.map eQ))), (8, .one (.fs ((leftQ s f.places i).map eI))), (7, .one (.os 5 0 0 0)), (6, .one (.op 4 0 0)), (4, .one (.op 2 0 0)), (3, .one (.op 1 0 0)), (2, .one (.op 0 0 0))],
        [oV (.fs (s.map eQ)), some ⟨2, [eF f], false, false, true⟩, oV (.fs []), oRows (rowsM none (some (.os 6 0 0 0)) s (part1 s f.places i)), oV (.os 3 0 s.length s.length), ownB [], ownP []], []⟩) s.length
    [26, 25, 24, 8, 7, 6, 4, 3, 2] [0, 1, 2, 3, 4, 5, 6] rfl ⟨_, ((s.map eQ).length : Int), 0, rfl, by simp, by omega, by omega, ?_⟩ ?_
  · rw [show leftQ s f.places 0 = f.places by simp [leftQ], part1_zero]
    exact keepS_eq rfl (cons_eq rfl (cons_eq rfl (cons_eq rfl (cons_eq (reO_rows (rowsM_re (fun _ => rfl) (fun _ => rfl) _ _ _ _)) (cons_eq rfl (cons_eq rfl (cons_eq rfl rfl)))))))
  rintro m σ ⟨n, L, i, rfl, rfl, hi, rfl, rfl⟩
  refine rn rfl ?_
  refine goal_cond rfl (fun h => ?_) (fun h => ?_) <;> (try simp only [gt_iff_lt, ge_iff_le, bne_iff_ne, ne_eq, bne_eq_false_iff_eq, beq_iff_eq, beq_eq_false_iff_ne, Bool.not_eq_true', Bool.not_eq_false', decide_eq_true_eq, decide_eq_false_iff_not, List.length_map] at h)
  · obtain ⟨p, hp⟩ := at_some (xs := s) (i := i) (by omega)
    have hz := part1_at (pl := f.places) hp
    have hrow := rowsM_at (cr := none) (cm := some (.os 6 0 0 0)) hp hz
    have hk : p.kind = 2 → (none : Option C) = none := fun _ => rfl
    refine rn rfl ?_
    refine goal_did rfl rfl (dA_index (eQ p) rfl rfl rfl rfl rfl rfl rfl (by omega) (by (try simp); omega) (map_at (by simpa using hp)) rfl) ?_
    refine rn rfl ?_
    refine goal_step (step_call [] rfl rfl rfl rfl rfl rfl (iplaced_ct p)) ?_
    rintro σ2 ⟨r, o', ⟨rfl, rfl⟩, hσ⟩
    obtain rfl := Option.some.inj hσ
    clear hσ
    refine rn rfl ?_
    have hend : ∀ (b : Bnds), b = part1 s f.places (i + 1) → True := fun _ _ => trivial
    refine goal_guard rfl rfl rfl (fun hpl => ?_) (fun hpl => ?_) <;> (try simp only [gt_iff_lt, ge_iff_le, bne_iff_ne, ne_eq, bne_eq_false_iff_eq, beq_iff_eq, beq_eq_false_iff_ne, Bool.not_eq_true', Bool.not_eq_false', decide_eq_true_eq, decide_eq_false_iff_not, List.length_map] at hpl)
    · obtain ⟨hl1, hl2⟩ := left_placed hs (pl := f.places) hp hpl
      have hk4 : p.kind = 4 → (some (C.os 6 0 0 0)) = none := fun h0 => by rw [placed_kind] at hpl; omega
      have hk2 : (p.kind == 2) = false := by rw [placed_kind] at hpl; simp; omega
      rw [hl1] at *
      refine rn rfl ?_
      refine goal_cond rfl (fun hlen => ?_) (fun hlen => ?_) <;> (try simp only [gt_iff_lt, ge_iff_le, bne_iff_ne, ne_eq, bne_eq_false_iff_eq, beq_iff_eq, beq_eq_false_iff_ne, Bool.not_eq_true', Bool.not_eq_false', decide_eq_true_eq, decide_eq_false_iff_not, List.length_map] at hlen)
      · have hlt : i < f.places.length := by simp at hlen; omega
        obtain ⟨v, hv⟩ := at_some hlt
        have hv0 : (f.places.drop i)[0]? = some v := by rw [List.getElem?_drop]; simpa using hv
        have hstep := part1_step (pl := f.places) hp
        have hpl1 : place1 (placesQ s) f.places i p = ⟨true, [v], []⟩ := by
          have hg : f.places.getD i 0 = v := by rw [List.getD_eq_getElem?_getD, hv]; rfl
          unfold place1; rw [hg, if_pos (by simp [hpl, hlt])]
        rw [hpl1] at hstep
        refine rn rfl ?_
        refine goal_draw' [4] 10 rfl ?_
        refine drn [0, 1, 2, 3] (by kernel_rfl) (by kernel_rfl) rfl rfl ?_
        refine AH_did 4 rfl (by kernel_rfl) (by kernel_rfl) (by kernel_rfl) rfl rfl (dA_index (eI v) rfl rfl rfl rfl rfl rfl rfl (by omega) (by (try simp); omega) (map_at (by simpa using hv0)) rfl) ?_
        refine drn [5] (by kernel_rfl) (by kernel_rfl) rfl rfl ?_
        refine AH_oneDid 6 rfl (by kernel_rfl) rfl (dA_step rfl) (mdOk rfl) ?_
        refine drn [7] (by kernel_rfl) (by kernel_rfl) rfl rfl ?_
        refine AH_data 45 [8] (y := .agg (eL ⟨true, [v], []⟩)) rfl rfl rfl ?_
        refine AH_did 8 rfl (by kernel_rfl) (by kernel_rfl) (by kernel_rfl) rfl rfl (dA_indexOwn rfl rfl rfl rfl rfl rfl rfl rfl rfl (by omega) (by (try simp); omega)) ?_
        refine AH_oneDid 9 rfl (by kernel_rfl) rfl (dA_storeEl (rowM none (some (.os 6 0 0 0)) p zL) (rowsM none (some (.os 6 0 0 0)) s (part1 s f.places (i + 1))) false rfl rfl rfl rfl rfl (by simpa using hrow) rfl rfl (by simp [eL, rowM]) (by rw [← hstep]; exact storeRow hp hk hk4 (by simp)) (fun h0 => by cases h0)) (mdOk rfl) ?_
        refine AH_end (by kernel_rfl) ?_
        refine rn rfl ?_
        refine goal_did rfl rfl (dA_slice 1 (f.places.drop i).length (((f.places.drop i).drop 1).map eI) rfl rfl rfl rfl rfl (Bnd.some_ rfl rfl) (by simp [Bnd]) (rows_len eI_len _) (by simp; omega) (by simp) rfl (tailRows (Nat.le_refl _))) ?_
        refine rn rfl ?_
        refine goal_cond rfl (fun h0 => by rw [hk2] at h0; cases h0) (fun _ => ?_)
        refine rn rfl ?_
        refine round_keep (s.length - (i + 1)) [26, 25, 24, 8, 7, 6, 4, 3, 2] [0, 1, 2, 3, 4, 5, 6] (by omega) rfl ⟨_, _, i + 1, wrap64 (by omega) (by omega), rfl, by omega, rfl, ?_⟩
        rw [hl2, show f.places.drop (i + 1) = (f.places.drop i).drop 1 by simp [List.drop_drop]]
        exact keepS_eq rfl (cons_eq rfl (cons_eq rfl (cons_eq rfl (cons_eq (reO_rows (rowsM_re (fun _ => rfl) (fun _ => rfl) _ _ _ _)) (cons_eq rfl (cons_eq rfl (cons_eq rfl rfl)))))))
      · have hge : f.places.length ≤ i := by simp at hlen; omega
        have hstep := part1_step (pl := f.places) hp
        have hpl1 : place1 (placesQ s) f.places i p = zL := by
          unfold place1
          rw [if_neg (by simp [hpl]; omega), hk2]; rfl
        have hsame : part1 s f.places (i + 1) = part1 s f.places i := by
          rw [← hstep, hpl1]
          apply List.ext_getElem?
          intro j
          rw [List.getElem?_set]
          split
          · rename_i hij; subst hij; rw [hz]; simp [lt_of_some hz]
          · rfl
        refine rn rfl ?_
        refine goal_cond rfl (fun h0 => by rw [hk2] at h0; cases h0) (fun _ => ?_)
        refine rn rfl ?_
        refine round_keep (s.length - (i + 1)) [26, 25, 24, 8, 7, 6, 4, 3, 2] [0, 1, 2, 3, 4, 5, 6] (by omega) rfl ⟨_, _, i + 1, wrap64 (by omega) (by omega), rfl, by omega, rfl, ?_⟩
        rw [hl2, hsame, show f.places.drop (i + 1) = f.places.drop i by rw [List.drop_eq_nil_of_le (by omega), List.drop_eq_nil_of_le hge]]
        exact keepS_eq rfl (cons_eq rfl (cons_eq rfl (cons_eq rfl (cons_eq (reO_rows (rowsM_re (fun _ => rfl) (fun _ => rfl) _ _ _ _)) (cons_eq rfl (cons_eq rfl (cons_eq rfl rfl)))))))
    · have hstep := part1_step (pl := f.places) hp
      refine rn rfl ?_
      refine goal_cond rfl (fun hk2 => ?_) (fun hk2 => ?_) <;> (try simp only [gt_iff_lt, ge_iff_le, bne_iff_ne, ne_eq, bne_eq_false_iff_eq, beq_iff_eq, beq_eq_false_iff_ne, Bool.not_eq_true', Bool.not_eq_false', decide_eq_true_eq, decide_eq_false_iff_not, List.length_map] at hk2)
      · obtain ⟨hl1, hl2⟩ := left_rest hs (pl := f.places) hp hk2
        have hpl1 : place1 (placesQ s) f.places i p = ⟨false, f.places.drop (placesQ s), []⟩ := by
          unfold place1
          rw [if_neg (by simp [hpl]), hk2]; rfl
        rw [hpl1] at hstep
        rw [hl1]
        refine rn rfl ?_
        refine goal_draw' [4] 8 rfl ?_
        refine drn [0, 1, 2, 3] (by kernel_rfl) (by kernel_rfl) rfl rfl ?_
        refine AH_one (i := 4) (by kernel_rfl) (step_call [] rfl rfl rfl rfl rfl rfl (clonInt_ct (f.places.drop (placesQ s)) (by simp; omega))) (by simp) ?_
        rintro σ2 ⟨r, o', ⟨rfl, rfl⟩, hσ⟩
        obtain rfl := Option.some.inj hσ
        clear hσ
        refine AH_data 56 [8] (y := .one (.fs ((f.places.drop (placesQ s)).map eI))) rfl rfl (congrArg (fun x => T.one (C.fs x)) (takeAll eI _ _ rfl)) ?_
        refine AH_did 5 rfl (by kernel_rfl) (by kernel_rfl) (by kernel_rfl) rfl rfl (dA_indexOwn rfl rfl rfl rfl rfl rfl rfl rfl rfl (by omega) (by (try simp); omega)) ?_
        refine drn [6] (by kernel_rfl) (by kernel_rfl) rfl rfl ?_
        refine AH_oneDid 7 rfl (by kernel_rfl) rfl (dA_storeEl (rowM none (some (.os 6 0 0 0)) p zL) (rowsM none (some (.os 6 0 0 0)) s (part1 s f.places (i + 1))) false rfl rfl rfl rfl rfl (by simpa using hrow) rfl rfl (by simp [rowM]) (by rw [← hstep]; refine storeList (x := zL) (ns := f.places.drop (placesQ s)) hp ?_; simp) (fun h0 => by cases h0)) (mdOk rfl) ?_
        refine AH_end (by kernel_rfl) ?_
        refine rn rfl ?_
        refine round_keep (s.length - (i + 1)) [26, 25, 24, 8, 7, 6, 4, 3, 2] [0, 1, 2, 3, 4, 5, 6] (by omega) rfl ⟨_, _, i + 1, wrap64 (by omega) (by omega), rfl, by omega, rfl, ?_⟩
        rw [hl2]
        exact keepS_eq rfl (cons_eq rfl (cons_eq rfl (cons_eq rfl (cons_eq (reO_rows (rowsM_re (fun _ => rfl) (fun _ => rfl) _ _ _ _)) (cons_eq rfl (cons_eq rfl (cons_eq rfl rfl)))))))
      · have hl := left_other hs (pl := f.places) hp hk2 hpl
        have hpl1 : place1 (placesQ s) f.places i p = zL := by
          unfold place1
          rw [if_neg (by simp [hpl]), if_neg (by simpa using hk2)]
        have hsame : part1 s f.places (i + 1) = part1 s f.places i := by
          rw [← hstep, hpl1]
          apply List.ext_getElem?
          intro j
          rw [List.getElem?_set]
          split
          · rename_i hij; subst hij; rw [hz]; simp [lt_of_some hz]
          · rfl
        refine rn rfl ?_
        refine round_keep (s.length - (i + 1)) [26, 25, 24, 8, 7, 6, 4, 3, 2] [0, 1, 2, 3, 4, 5, 6] (by omega) rfl ⟨_, _, i + 1, wrap64 (by omega) (by omega), rfl, by omega, rfl, ?_⟩
        rw [hl, hsame]
        exact keepS_eq rfl (cons_eq rfl (cons_eq rfl (cons_eq rfl (cons_eq (reO_rows (rowsM_re (fun _ => rfl) (fun _ => rfl) _ _ _ _)) (cons_eq rfl (cons_eq rfl (cons_eq rfl rfl)))))))
  · have hend := left_end s f.places
    rw [show i = s.length by omega, part1_full]
    refine rn rfl ?_
    refine round_ext ?_
    refine rt 14 rfl ?_
    refine goal_cutR (fun σ => σ = ⟨[(7, .one (.os 5 0 (manyQ s f.places).length (manyQ s f.places).length)), (6, .one (.op 4 0 0)), (4, .one (.op 2 0 0)), (3, .one (.op 1 0 0)), (2, .one (.op 0 0 0))],
        [oV (.fs (s.map eQ)), some ⟨2, [eF f], false, false, true⟩, oV (.fs []), oRows (rowsM none (some (.os 6 0 0 0)) s (phase1 s f.places)), oV (.os 3 0 s.length s.length), ownB (manyQ s f.places), ownP []], []⟩) ?_ ?_
    · refine rn rfl ?_
      refine goal_cond rfl (fun h0 => ?_) (fun h0 => ?_) <;> simp only [List.length_map, gt_iff_lt, decide_eq_true_eq, decide_eq_false_iff_not] at h0
      · have hm : manyQ s f.places = [⟨0, []⟩] := by
          unfold manyQ; rw [if_pos]; rw [← hend]; simpa using h0
        rw [hm]
        refine rn rfl ?_
        refine goal_did rfl rfl (dA_append (old := []) (rows := ([(⟨0, []⟩ : Problem)] : List Problem).map eB) (([(⟨0, []⟩ : Problem)] : List Problem).map eB) (1) true (Dst.own rfl rfl rfl rfl rfl (Nat.le_refl 0) rfl) (Src.os rfl rfl (Nat.le_refl 1) rfl) rfl rfl rfl rfl rfl rfl rfl rfl (by simp) (rows_len eB_len _) (by (try simp only [List.length_map, List.length_append, List.length_cons, List.length_nil, List.length_take, List.length_drop]); show _ * 24 ≤ _; omega) (by first | (simp; done) | (simp; omega)) (by simp) (by first | (simp; done) | (simp; omega)) (fun _ => noOwnR_map _ eB_noOwn _)) ?_
        refine rn rfl ?_
        exact cut_nrm [7, 6, 4, 3, 2] [0, 1, 2, 3, 4, 8, 6] rfl (keepS_eq rfl (cons_eq rfl (cons_eq rfl (cons_eq rfl (cons_eq (reO_rows (rowsM_re (fun _ => rfl) (fun _ => rfl) _ _ _ _)) (cons_eq rfl (cons_eq rfl (cons_eq rfl rfl))))))))
      · have hm : manyQ s f.places = [] := by
          unfold manyQ; rw [if_neg]; rw [← hend]; simpa using h0
        rw [hm]
        refine rn rfl ?_
        exact cut_nrm [7, 6, 4, 3, 2] [0, 1, 2, 3, 4, 5, 6] rfl (keepS_eq rfl (cons_eq rfl (cons_eq rfl (cons_eq rfl (cons_eq (reO_rows (rowsM_re (fun _ => rfl) (fun _ => rfl) _ _ _ _)) (cons_eq rfl (cons_eq rfl (cons_eq rfl rfl))))))))
    rintro _ rfl
    refine rn rfl ?_
    have hml := manyQ_len s f.places
    refine goal_loop_keep (fun m σ => ∃ (n L : Int) (i k l : Nat) (ps wr : _) (b : Bnds), n = i ∧ L = f.named.length ∧ i ≤ f.named.length ∧ m = f.named.length - i ∧ (f.named.take i).foldl (stepB s) (phase1 s f.places, manyQ s f.places) = (b, wr) ∧ MapHas s b ps ∧ ps.length ≤ i ∧ k = wr.length ∧ l = ps.length ∧
        σ = ⟨[(70, .one (.int .i64 n)), (69, .one (.int .i64 L)), (68, .one (.fs (f.named.map eP))), (7, .one (.os 5 0 k k)), (6, .one (.op 4 0 0)), (4, .one (.op 2 0 0)), (3, .one (.op 1 0 0)), (2, .one (.op 0 0 0))],
          [oV (.fs (s.map eQ)), some ⟨2, [eF f], false, false, true⟩, oV (.fs []), oRows (rowsM none (some (.os 6 0 l l)) s b), oV (.os 3 0 s.length s.length), ownB wr, ownP ps], []⟩) f.named.length
      [70, 69, 68, 7, 6, 4, 3, 2] [0, 1, 2, 3, 4, 5, 6] rfl ⟨_, ((f.named.map eP).length : Int), 0, (manyQ s f.places).length, 0, [], manyQ s f.places, phase1 s f.places, rfl, by simp, by omega, by omega, rfl, phase1_map hs _, by simp, rfl, rfl,
        keepS_eq rfl (cons_eq rfl (cons_eq rfl (cons_eq rfl (cons_eq (reO_rows (rowsM_re (fun _ => rfl) (fun _ => rfl) _ _ _ _)) (cons_eq rfl (cons_eq rfl (cons_eq rfl rfl)))))))⟩ ?_
    rintro m σ ⟨n, L, i, k, l, ps, wr, b, rfl, rfl, hi, rfl, hfold, hmap, hpsl, rfl, rfl, rfl⟩
    have hbl : b.length = s.length := by
      have := foldB_len s (f.named.take i) (phase1 s f.places, manyQ s f.places)
      rw [hfold] at this; simpa [phase1_len] using this
    have hwl : wr.length ≤ 1 + i := by
      have := foldB_wr s (f.named.take i) (phase1 s f.places, manyQ s f.places)
      rw [hfold] at this; simp only [List.length_take] at this; omega
    refine rn rfl ?_
    refine goal_cond rfl (fun h => ?_) (fun h => ?_) <;> (try simp only [gt_iff_lt, ge_iff_le, bne_iff_ne, ne_eq, bne_eq_false_iff_eq, beq_iff_eq, beq_eq_false_iff_ne, Bool.not_eq_true', Bool.not_eq_false', decide_eq_true_eq, decide_eq_false_iff_not, List.length_map] at h)
    · obtain ⟨q, hq⟩ := at_some (xs := f.named) (i := i) (by omega)
      have hst := foldl_take_succ (stepB s) (phase1 s f.places, manyQ s f.places) hq
      rw [hfold] at hst
      refine rn rfl ?_
      refine goal_did rfl rfl (dA_index (eP q) rfl rfl rfl rfl rfl rfl rfl (by omega) (by (try simp); omega) (map_at (by simpa using hq)) rfl) ?_
      refine rn rfl ?_
      refine goal_step (step_call [] rfl rfl rfl rfl rfl rfl (itakes_ct s q.name (by omega))) ?_
      rintro σ2 ⟨r, o', ⟨rfl, rfl⟩, hσ⟩
      obtain rfl := Option.some.inj hσ
      clear hσ
      refine rn rfl ?_
      refine goal_cond rfl (fun hneg => ?_) (fun hneg => ?_) <;> (try simp only [gt_iff_lt, ge_iff_le, bne_iff_ne, ne_eq, bne_eq_false_iff_eq, beq_iff_eq, beq_eq_false_iff_ne, Bool.not_eq_true', Bool.not_eq_false', decide_eq_true_eq, decide_eq_false_iff_not, List.length_map] at hneg)
      · rw [stepB_neg hneg] at hst
        refine rn rfl ?_
        refine goal_did rfl rfl (dA_append (old := (wr).map eB) (rows := ([⟨1, q.name⟩] : List Problem).map eB) (((wr) ++ ([⟨1, q.name⟩] : List Problem)).map eB) (wr.length + 1) true (Dst.own rfl rfl rfl rfl rfl (by first | (simp; done) | (simp; omega)) (whole (by first | (simp; done) | (simp; omega)))) (Src.os rfl rfl (Nat.le_refl 1) rfl) rfl rfl rfl rfl rfl rfl rfl rfl (rows_len eB_len _) (rows_len eB_len _) (by (try simp only [List.length_map, List.length_append, List.length_cons, List.length_nil, List.length_take, List.length_drop]); show _ * 24 ≤ _; omega) (by first | (simp; done) | (simp; omega)) (by simp) (by first | (simp; done) | (simp; omega)) (fun _ => noOwnR_map _ eB_noOwn _)) ?_
        refine rn rfl ?_
        refine round_keep (f.named.length - (i + 1)) [70, 69, 68, 7, 6, 4, 3, 2] [0, 1, 2, 3, 4, 9, 6] (by omega) rfl ⟨_, _, i + 1, wr.length + 1, ps.length, ps, wr ++ [⟨1, q.name⟩], b, wrap64 (by omega) (by omega), rfl, by omega, rfl, hst, hmap, by omega, by simp, rfl, ?_⟩
        exact keepS_eq rfl (cons_eq rfl (cons_eq rfl (cons_eq rfl (cons_eq (reO_rows (rowsM_re (fun _ => rfl) (fun _ => rfl) _ _ _ _)) (cons_eq rfl (cons_eq rfl (cons_eq rfl rfl)))))))
      · obtain ⟨p, hp, hlt, hpk⟩ := takesQ_some hneg
        have hat : takesQ s q.name = ((takesQ s q.name).toNat : Nat) := by omega
        generalize (takesQ s q.name).toNat = j at hp hat
        rw [hat] at hlt ⊢
        have hjs : j < s.length := by omega
        obtain ⟨x, hx⟩ := at_some (xs := b) (i := j) (by omega)
        have hrow := rowsM_at (cr := none) (cm := some (.os 6 0 ps.length ps.length)) hp hx
        refine rn rfl ?_
        refine goal_did rfl rfl (dA_index (eQ p) rfl rfl rfl rfl rfl rfl rfl (by omega) (by simp; omega) (map_at (by simpa using hp)) rfl) ?_
        refine rn rfl ?_
        refine goal_cond rfl (fun hk => ?_) (fun hk => ?_) <;> (try simp only [gt_iff_lt, ge_iff_le, bne_iff_ne, ne_eq, bne_eq_false_iff_eq, beq_iff_eq, beq_eq_false_iff_ne, Bool.not_eq_true', Bool.not_eq_false', decide_eq_true_eq, decide_eq_false_iff_not, List.length_map] at hk)
        · have hk' : p.kind = 4 := hk
          rw [rowM_map hk'] at hrow
          have hxp := hmap j p x hp hx hk'
          rw [stepB_map hat hp hx hk', hxp] at hst
          refine rn rfl ?_
          refine goal_drawL [3, 4, 7] [14] 15 rfl ?_
          refine drnL [0, 1, 2, 3, 4, 5, 9] (by kernel_rfl) (by kernel_rfl) rfl rfl ?_
          refine AHL_did 6 rfl (by kernel_rfl) (by kernel_rfl) (by kernel_rfl) (by kernel_rfl) rfl rfl (dA_indexOwn rfl rfl rfl rfl rfl rfl rfl rfl rfl (by omega) (by (try simp); omega)) ?_
          refine drnL [7] (by kernel_rfl) (by kernel_rfl) rfl rfl ?_
          refine AHL_did 8 rfl (by kernel_rfl) (by kernel_rfl) (by kernel_rfl) (by kernel_rfl) rfl rfl (dA_loadEl [.bool x.given, .fs (x.list.map eI), .os 6 0 ps.length ps.length] rfl rfl rfl rfl (by simpa using hrow) rfl rfl rfl) ?_
          refine AHL_oneDid 10 rfl (by kernel_rfl) rfl rfl (dA_step rfl) (mdOk rfl) ?_
          refine AHL_oneDid 11 rfl (by kernel_rfl) rfl rfl (dA_append (old := (ps).map eP) (rows := ([q] : List Pair).map eP) (((ps) ++ ([q] : List Pair)).map eP) (ps.length + 1) true (Dst.own rfl rfl rfl rfl rfl (by first | (simp; done) | (simp; omega)) (whole (by first | (simp; done) | (simp; omega)))) (Src.os rfl rfl (Nat.le_refl 1) rfl) rfl rfl rfl rfl rfl rfl rfl rfl (rows_len eP_len _) (rows_len eP_len _) (by (try simp only [List.length_map, List.length_append, List.length_cons, List.length_nil, List.length_take, List.length_drop]); show _ * 24 ≤ _; omega) (by first | (simp; done) | (simp; omega)) (by simp) (by first | (simp; done) | (simp; omega)) (fun _ => noOwnR_map _ eP_noOwn _)) (mdOk rfl) ?_
          refine AHL_did 12 rfl (by kernel_rfl) (by kernel_rfl) (by kernel_rfl) (by kernel_rfl) rfl rfl (dA_indexOwn rfl rfl rfl rfl rfl rfl rfl rfl rfl (by omega) (by (try simp); omega)) ?_
          refine drnL [13] (by kernel_rfl) (by kernel_rfl) rfl rfl ?_
          refine AHL_lateDid 14 rfl (by kernel_rfl) rfl rfl (dA_storeEl [.bool x.given, .fs (x.list.map eI), .os 6 0 ps.length ps.length] (rowsM none (some (.os 9 0 (ps.length + 1) (ps.length + 1))) s (b.set j ⟨x.given, x.list, ps ++ [q]⟩)) false rfl rfl rfl rfl rfl (by simpa using hrow) rfl rfl (by simp) (by refine storePairs hs hp hx hk' ?_; simp) (fun h0 => by cases h0)) ?_
          refine AH_end (by kernel_rfl) ?_
          refine rn rfl ?_
          refine round_keep (f.named.length - (i + 1)) [70, 69, 68, 7, 6, 4, 3, 2] [0, 1, 2, 3, 4, 5, 9] (by omega) rfl ⟨_, _, i + 1, wr.length, ps.length + 1, ps ++ [q], wr, _, wrap64 (by omega) (by omega), rfl, by omega, rfl, hst, MapHas.put hs hp hk' rfl, by simp; omega, rfl, by simp, ?_⟩
          exact keepS_eq rfl (cons_eq rfl (cons_eq rfl (cons_eq rfl (cons_eq (reO_rows (rowsM_re (fun _ => rfl) (fun _ => rfl) _ _ _ _)) (cons_eq rfl (cons_eq rfl (cons_eq rfl rfl)))))))
        · have hk4 : p.kind ≠ 4 := hk
          have hk2 : p.kind ≠ 2 := by
            rcases hpk with h0 | h0
            · have := named_kind.1 h0.1; omega
            · omega
          rw [rowM_plain hk2 hk4] at hrow
          refine rn rfl ?_
          refine goal_did rfl rfl (dA_indexOwn rfl rfl rfl rfl rfl rfl rfl rfl rfl (by omega) (by (try simp); omega)) ?_
          refine goal_did rfl rfl (dA_step rfl) ?_
          refine goal_did rfl rfl (dA_loadEl (eL x) rfl rfl rfl rfl (by simpa using hrow) rfl rfl rfl) ?_
          refine rn rfl ?_
          refine goal_cond rfl (fun hg => ?_) (fun hg => ?_) <;> (try simp only [gt_iff_lt, ge_iff_le, bne_iff_ne, ne_eq, bne_eq_false_iff_eq, beq_iff_eq, beq_eq_false_iff_ne, Bool.not_eq_true', Bool.not_eq_false', decide_eq_true_eq, decide_eq_false_iff_not, List.length_map] at hg)
          · rw [stepB_twice hat hp hx hk4 hg] at hst
            refine rn rfl ?_
            refine goal_did rfl rfl (dA_append (old := (wr).map eB) (rows := ([⟨2, q.name⟩] : List Problem).map eB) (((wr) ++ ([⟨2, q.name⟩] : List Problem)).map eB) (wr.length + 1) true (Dst.own rfl rfl rfl rfl rfl (by first | (simp; done) | (simp; omega)) (whole (by first | (simp; done) | (simp; omega)))) (Src.os rfl rfl (Nat.le_refl 1) rfl) rfl rfl rfl rfl rfl rfl rfl rfl (rows_len eB_len _) (rows_len eB_len _) (by (try simp only [List.length_map, List.length_append, List.length_cons, List.length_nil, List.length_take, List.length_drop]); show _ * 24 ≤ _; omega) (by first | (simp; done) | (simp; omega)) (by simp) (by first | (simp; done) | (simp; omega)) (fun _ => noOwnR_map _ eB_noOwn _)) ?_
            refine rn rfl ?_
            refine round_keep (f.named.length - (i + 1)) [70, 69, 68, 7, 6, 4, 3, 2] [0, 1, 2, 3, 4, 9, 6] (by omega) rfl ⟨_, _, i + 1, wr.length + 1, ps.length, ps, wr ++ [⟨2, q.name⟩], b, wrap64 (by omega) (by omega), rfl, by omega, rfl, hst, hmap, by omega, by simp, rfl, ?_⟩
            exact keepS_eq rfl (cons_eq rfl (cons_eq rfl (cons_eq rfl (cons_eq (reO_rows (rowsM_re (fun _ => rfl) (fun _ => rfl) _ _ _ _)) (cons_eq rfl (cons_eq rfl (cons_eq rfl rfl)))))))
          · rw [stepB_set hat hp hx hk4 hg] at hst
            refine rn rfl ?_
            refine goal_did rfl rfl (dA_indexOwn rfl rfl rfl rfl rfl rfl rfl rfl rfl (by omega) (by (try simp); omega)) ?_
            refine goal_data 84 [8] (y := .agg (eL ⟨true, [q.value], []⟩)) rfl rfl rfl ?_
            refine goal_did rfl rfl (dA_storeEl (eL x) (rowsM none (some (.os 6 0 ps.length ps.length)) s (b.set j ⟨true, [q.value], []⟩)) false rfl rfl rfl rfl rfl (by simpa using hrow) rfl rfl (by simp [eL]) (by rw [← rowM_plain (cr := none) (cm := some (.os 6 0 ps.length ps.length)) (x := x) hk2 hk4]; refine storeRow hp (fun h0 => absurd h0 hk2) (fun h0 => absurd h0 hk4) ?_; simp) (fun h0 => by cases h0)) ?_
            refine rn rfl ?_
            refine round_keep (f.named.length - (i + 1)) [70, 69, 68, 7, 6, 4, 3, 2] [0, 1, 2, 3, 4, 5, 6] (by omega) rfl ⟨_, _, i + 1, wr.length, ps.length, ps, wr, _, wrap64 (by omega) (by omega), rfl, by omega, rfl, hst, MapHas.set hmap hp hk4, by omega, rfl, rfl, ?_⟩
            exact keepS_eq rfl (cons_eq rfl (cons_eq rfl (cons_eq rfl (cons_eq (reO_rows (rowsM_re (fun _ => rfl) (fun _ => rfl) _ _ _ _)) (cons_eq rfl (cons_eq rfl (cons_eq rfl rfl)))))))
    · rw [show i = f.named.length by omega, List.take_length] at hfold
      have hbq : boundQ s f = (b, wr) := hfold
      refine rn rfl ?_
      refine round_ext ?_
      refine rn rfl ?_
      refine goal_keepE [134, 133, 132, 7, 6, 4, 3, 2] [0, 1, 2, 3, 4, 5] [6] rfl rfl rfl (cons_eq rfl (cons_eq rfl (cons_eq rfl (cons_eq (reO_rows (rows' := b.map eL) ?_) (cons_eq rfl (cons_eq rfl rfl)))))) ?_
      · refine (rowsM_re (fun _ => rfl) (fun _ => rfl) _ _ _ _).trans ?_
        show rowsM none (some (C.fs (List.take ps.length (List.drop 0 (ps.map eP))))) s b = _
        rw [takeAll eP ps _ rfl, rowsM_freeM hmap, rowsM_none hbl]
      refine goal_weakCod (Weak.cleanO (id := 3) rfl rfl (noOwnR_map _ eL_noOwn _)) ?_
      refine goal_loop_keep (fun m σ => ∃ (n L : Int) (i k : Nat) (w3 : List Problem), n = i ∧ L = s.length ∧ i ≤ s.length ∧ m = s.length - i ∧ w3 = wr ++ ((s.zip b).take i).filterMap lackQ ∧ k = w3.length ∧
          σ = ⟨[(134, .one (.int .i64 n)), (133, .one (.int .i64 L)), (132, .one (.fs (s.map eQ))), (7, .one (.os 5 0 k k)), (6, .one (.op 4 0 0)), (4, .one (.op 2 0 0)), (3, .one (.op 1 0 0)), (2, .one (.op 0 0 0))],
            [oV (.fs (s.map eQ)), some ⟨2, [eF f], false, false, true⟩, oV (.fs []), ownL b, oV (.os 3 0 s.length s.length), ownB w3], []⟩) s.length
        [134, 133, 132, 7, 6, 4, 3, 2] [0, 1, 2, 3, 4, 5] rfl ⟨_, ((s.map eQ).length : Int), 0, wr.length, wr, rfl, by simp, by omega, by omega, by simp, rfl, rfl⟩ ?_
      rintro m σ ⟨n, L, i, k, w3, rfl, rfl, hi, rfl, hw3, rfl, rfl⟩
      have hw3l : w3.length ≤ wr.length + i := by
        rw [hw3, List.length_append]
        have := List.length_filterMap_le lackQ ((s.zip b).take i)
        rw [List.length_take] at this; omega
      refine rn rfl ?_
      refine goal_cond rfl (fun h => ?_) (fun h => ?_) <;> (try simp only [gt_iff_lt, ge_iff_le, bne_iff_ne, ne_eq, bne_eq_false_iff_eq, beq_iff_eq, beq_eq_false_iff_ne, Bool.not_eq_true', Bool.not_eq_false', decide_eq_true_eq, decide_eq_false_iff_not, List.length_map] at h)
      · obtain ⟨p, hp⟩ := at_some (xs := s) (i := i) (by omega)
        obtain ⟨x, hx⟩ := at_some (xs := b) (i := i) (by omega)
        have hz : (s.zip b)[i]? = some (p, x) := by simp [List.getElem?_zip_eq_some, hp, hx]
        have hst := filterMap_take_succ (g := lackQ) hz
        have hrow : (b.map eL)[i]? = some (eL x) := map_at hx
        refine rn rfl ?_
        refine goal_did rfl rfl (dA_index (eQ p) rfl rfl rfl rfl rfl rfl rfl (by omega) (by (try simp); omega) (map_at (by simpa using hp)) rfl) ?_
        refine rn rfl ?_
        refine goal_drawL [3, 4] [12] 13 rfl ?_
        refine drnL [0, 1, 2, 3, 4, 5] (by kernel_rfl) (by kernel_rfl) rfl rfl ?_
        refine AHL_did 6 rfl (by kernel_rfl) (by kernel_rfl) (by kernel_rfl) (by kernel_rfl) rfl rfl (dA_indexOwn rfl rfl rfl rfl rfl rfl rfl rfl rfl (by omega) (by (try simp); omega)) ?_
        refine drnL [7] (by kernel_rfl) (by kernel_rfl) rfl rfl ?_
        refine AHL_did 8 rfl (by kernel_rfl) (by kernel_rfl) (by kernel_rfl) (by kernel_rfl) rfl rfl (dA_loadEl (eL x) rfl rfl rfl rfl (map_at (by simpa using hx)) rfl rfl rfl) ?_
        refine AHL_one (i := 9) (by kernel_rfl) rfl (step_call [] rfl rfl rfl rfl rfl rfl (clipPd_ct x.pairs)) (by simp) ?_
        rintro σ2 ⟨r, o', ⟨rfl, rfl⟩, hσ⟩
        obtain rfl := Option.some.inj hσ
        clear hσ
        refine AHL_did 10 rfl (by kernel_rfl) (by kernel_rfl) (by kernel_rfl) (by kernel_rfl) rfl rfl (dA_indexOwn rfl rfl rfl rfl rfl rfl rfl rfl rfl (by omega) (by (try simp); omega)) ?_
        refine drnL [11] (by kernel_rfl) (by kernel_rfl) rfl rfl ?_
        refine AHL_lateDid 12 rfl (by kernel_rfl) rfl rfl (dA_storeEl (eL x) (b.map eL) true rfl rfl rfl rfl rfl (map_at (by simpa using hx)) rfl rfl (by simp [eL]) (by rw [show (0 + (i : Int).toNat) = i by simp, show patch (eL x) (0 + 2) [C.fs (x.pairs.map eP)] = eL x from rfl, set_same hrow]) (fun _ => noOwnR_map _ eL_noOwn _)) ?_
        refine AH_end (by kernel_rfl) ?_
        refine rn rfl ?_
        refine goal_step (step_call [] rfl rfl rfl rfl rfl rfl (isingle_ct p)) ?_
        rintro σ2 ⟨r, o', ⟨rfl, rfl⟩, hσ⟩
        obtain rfl := Option.some.inj hσ
        clear hσ
        refine rn rfl ?_
        have fin : lackQ (p, x) = none → wr ++ ((s.zip b).take (i + 1)).filterMap lackQ = w3 := fun h0 => by rw [hst, h0, hw3]; simp
        refine goal_guard rfl rfl rfl (fun h3 => ?_) (fun h3 => ?_) <;> (try simp only [gt_iff_lt, ge_iff_le, bne_iff_ne, ne_eq, bne_eq_false_iff_eq, beq_iff_eq, beq_eq_false_iff_ne, Bool.not_eq_true', Bool.not_eq_false', decide_eq_true_eq, decide_eq_false_iff_not, List.length_map] at h3)
        · refine rn rfl ?_
          refine goal_guard rfl rfl rfl (fun h4 => ?_) (fun h4 => ?_) <;> (try simp only [gt_iff_lt, ge_iff_le, bne_iff_ne, ne_eq, bne_eq_false_iff_eq, beq_iff_eq, beq_eq_false_iff_ne, Bool.not_eq_true', Bool.not_eq_false', decide_eq_true_eq, decide_eq_false_iff_not, List.length_map] at h4)
          · refine rn rfl ?_
            refine goal_did rfl rfl (dA_indexOwn rfl rfl rfl rfl rfl rfl rfl rfl rfl (by omega) (by (try simp); omega)) ?_
            refine goal_did rfl rfl (dA_step rfl) ?_
            refine goal_did rfl rfl (dA_loadEl (eL x) rfl rfl rfl rfl (map_at (by simpa using hx)) rfl rfl rfl) ?_
            refine rn rfl ?_
            refine goal_cond rfl (fun h5 => ?_) (fun h5 => ?_) <;> (try simp only [gt_iff_lt, ge_iff_le, bne_iff_ne, ne_eq, bne_eq_false_iff_eq, beq_iff_eq, beq_eq_false_iff_ne, Bool.not_eq_true', Bool.not_eq_false', decide_eq_true_eq, decide_eq_false_iff_not, List.length_map] at h5)
            · refine rn rfl ?_
              refine goal_did rfl rfl (dA_append (old := (w3).map eB) (rows := ([⟨3, p.name⟩] : List Problem).map eB) (((w3) ++ ([⟨3, p.name⟩] : List Problem)).map eB) (w3.length + 1) true (Dst.own rfl rfl rfl rfl rfl (by first | (simp; done) | (simp; omega)) (whole (by first | (simp; done) | (simp; omega)))) (Src.os rfl rfl (Nat.le_refl 1) rfl) rfl rfl rfl rfl rfl rfl rfl rfl (rows_len eB_len _) (rows_len eB_len _) (by (try simp only [List.length_map, List.length_append, List.length_cons, List.length_nil, List.length_take, List.length_drop]); show _ * 24 ≤ _; omega) (by first | (simp; done) | (simp; omega)) (by simp) (by first | (simp; done) | (simp; omega)) (fun _ => noOwnR_map _ eB_noOwn _)) ?_
              refine rn rfl ?_
              refine round_keep (s.length - (i + 1)) [134, 133, 132, 7, 6, 4, 3, 2] [0, 1, 2, 3, 4, 8] (by omega) rfl ⟨_, _, i + 1, w3.length + 1, w3 ++ [⟨3, p.name⟩], wrap64 (by omega) (by omega), rfl, by omega, rfl, ?_, by simp, rfl⟩
              rw [hst, hw3]; simp [lackQ, h3, h4, h5]
            · refine rn rfl ?_
              refine round_keep (s.length - (i + 1)) [134, 133, 132, 7, 6, 4, 3, 2] [0, 1, 2, 3, 4, 5] (by omega) rfl ⟨_, _, i + 1, w3.length, w3, wrap64 (by omega) (by omega), rfl, by omega, rfl, (fin (by simp [lackQ, h5])).symm, rfl, rfl⟩
          · refine rn rfl ?_
            refine round_keep (s.length - (i + 1)) [134, 133, 132, 7, 6, 4, 3, 2] [0, 1, 2, 3, 4, 5] (by omega) rfl ⟨_, _, i + 1, w3.length, w3, wrap64 (by omega) (by omega), rfl, by omega, rfl, (fin (by simp [lackQ, h4])).symm, rfl, rfl⟩
        · refine rn rfl ?_
          refine round_keep (s.length - (i + 1)) [134, 133, 132, 7, 6, 4, 3, 2] [0, 1, 2, 3, 4, 5] (by omega) rfl ⟨_, _, i + 1, w3.length, w3, wrap64 (by omega) (by omega), rfl, by omega, rfl, (fin (by simp [lackQ, h3])).symm, rfl, rfl⟩
      · have hbb : bindQ s f = (b, w3) := by
          rw [bindQ, hbq, hw3, missingQ, show i = s.length by omega, List.take_of_length_le (by simp; omega)]
        rw [hbb]
        refine rn rfl ?_
        refine round_ext ?_
        refine rn rfl ?_
        refine goal_draw' [4] 5 rfl ?_
        refine drn [0, 1] (by kernel_rfl) (by kernel_rfl) rfl rfl ?_
        refine AH_one (i := 2) (by kernel_rfl) (step_call [5] rfl rfl rfl rfl rfl rfl (clipB_ct w3 w3.length (Nat.le_refl _))) (by simp) ?_
        rintro σ2 ⟨r, o', ⟨rfl, rfl⟩, hσ⟩
        obtain rfl := Option.some.inj hσ
        clear hσ
        refine AH_oneDid 3 rfl (by kernel_rfl) rfl (dA_step rfl) (mdOk rfl) ?_
        refine drn [4] (by kernel_rfl) (by kernel_rfl) rfl rfl ?_
        refine AH_end (by kernel_rfl) ?_
        refine rn rfl ?_
        refine fin_is [3] rfl ⟨?_, rfl⟩
        rw [takeAll eB _ _ rfl]

theorem emptyBinding_ct (s : Sig) (hl : s.length ≤ 1048576) : ACalls pk 50 [.agg (eG s)] [] (fun r o => r = .agg [.os 0 0 s.length s.length] ∧ o = [some ⟨3, nilRows s.length, true, false, false⟩]) := by
  refine acalls_of_body Tryz.func50 rfl (by kernel_rfl) rfl ?_
  refine rn rfl ?_
  refine goal_did rfl rfl (dA_make s.length (nilRows s.length) rfl rfl rfl (by simp) (by simp) rfl rfl rfl rfl rfl (by show 56 * s.length ≤ _; omega) (by omega) rfl) ?_
  refine rn rfl ?_
  exact rn rfl (fin_is [2] rfl ⟨rfl, rfl⟩)

/-- What is left for the rest. -/
def RestHas (s : Sig) (b : Bnds) (ns : List Int) : Prop := ∀ (i : Nat) (p : Param) (x : Slot), s[i]? = some p → b[i]? = some x → p.kind = 2 → x.list = ns

def restQ (s : Sig) (pl : List Int) (i : Nat) : List Int := if s.any (kIs 2) then (pl.take i).drop (placesQ s) else []

theorem phase1_rest {s : Sig} (hs : OkS s) (pl : List Int) (i : Nat) : RestHas s (phase1 s (pl.take i)) (restQ s pl i) := by
  intro j p x hp hx hk
  have hany : s.any (kIs 2) = true := by rw [List.any_eq_true]; exact ⟨p, List.mem_of_getElem? hp, by simp [kIs, hk]⟩
  simp only [phase1, List.getElem?_mapIdx, hp, Option.map_some, Option.some.injEq] at hx
  subst hx
  have hpl : placedQ p = false := by
    cases hz : placedQ p with
    | false => rfl
    | true => rw [placed_kind] at hz; omega
  simp [place1, hpl, hk, restQ, hany]

theorem getD_take {pl : List Int} {i j : Nat} (h : j < i) : (pl.take i).getD j 0 = pl.getD j 0 := by
  rw [List.getD_eq_getElem?_getD, List.getD_eq_getElem?_getD, List.getElem?_take, if_pos h]

theorem phase1_placed {s : Sig} (hs : OkS s) {pl : List Int} {i : Nat} {p : Param} {v : Int} (hp : s[i]? = some p) (hi : i < placesQ s) (hv : pl[i]? = some v) : phase1 s (pl.take (i + 1)) = (phase1 s (pl.take i)).set i ⟨true, [v], []⟩ := by
  have hil := lt_of_some hv
  have hpp := (hs.placed_iff hp).2 hi
  apply List.ext_getElem?
  intro j
  simp only [phase1, List.getElem?_set, List.getElem?_mapIdx, List.length_mapIdx]
  by_cases hij : i = j
  · subst hij
    have hg : (pl.take (i + 1)).getD i 0 = v := by rw [getD_take (by omega), List.getD_eq_getElem?_getD, hv]; rfl
    rw [if_pos rfl, if_pos (lt_of_some hp), hp]
    simp only [Option.map_some, Option.some.injEq]
    unfold place1
    rw [hg, if_pos (by simp [hpp]; omega)]
  · rw [if_neg hij]
    cases hq : s[j]? with
    | none => rfl
    | some q =>
      simp only [Option.map_some, Option.some.injEq]
      unfold place1
      cases hqp : placedQ q with
      | true =>
        by_cases hji : j < i
        · rw [if_pos (by simp; omega), if_pos (by simp; omega), getD_take (by omega), getD_take (by omega)]
        · have hk := placed_kind.1 hqp
          have : (q.kind == 2) = false := by simp; omega
          have e1 : (true && decide (j < (pl.take (i + 1)).length)) = false := by simp; omega
          have e2 : (true && decide (j < (pl.take i).length)) = false := by simp; omega
          rw [e1, e2, this]; rfl
      | false =>
        simp only [Bool.false_and, Bool.false_eq_true, if_false]
        rw [List.drop_eq_nil_of_le (by simp; omega), List.drop_eq_nil_of_le (by simp; omega)]

theorem phase1_more {s : Sig} (hs : OkS s) {pl : List Int} {i m : Nat} {p : Param} {x : Slot} {v : Int} (hi : ¬ i < placesQ s) (hp : s[m]? = some p) (hk : p.kind = 2) (hx : (phase1 s (pl.take i))[m]? = some x) (hv : pl[i]? = some v) :
    phase1 s (pl.take (i + 1)) = (phase1 s (pl.take i)).set m ⟨x.given, restQ s pl i ++ [v], x.pairs⟩ ∧ restQ s pl (i + 1) = restQ s pl i ++ [v] := by
  have hil := lt_of_some hv
  have hany : s.any (kIs 2) = true := by rw [List.any_eq_true]; exact ⟨p, List.mem_of_getElem? hp, by simp [kIs, hk]⟩
  have hr : restQ s pl (i + 1) = restQ s pl i ++ [v] := by
    simp only [restQ, hany, if_true, ← take_snoc hv]
    rw [List.drop_append_of_le_length (by simp; omega)]
  have hno : ∀ (q : Param), q.kind = 2 → placedQ q = false := fun q hq => by
    cases hz : placedQ q with
    | false => rfl
    | true => rw [placed_kind] at hz; omega
  refine ⟨?_, hr⟩
  have hx0 := hx
  simp only [phase1, List.getElem?_mapIdx, hp, Option.map_some, Option.some.injEq, place1, hno p hk, Bool.false_and, Bool.false_eq_true, if_false, hk, beq_self_eq_true, if_true] at hx
  apply List.ext_getElem?
  intro j
  simp only [phase1, List.getElem?_set, List.getElem?_mapIdx, List.length_mapIdx]
  by_cases hij : m = j
  · subst hij
    rw [if_pos rfl, if_pos (lt_of_some hp), hp]
    simp only [Option.map_some, Option.some.injEq]
    unfold place1
    rw [← hx, ← hr]
    simp [hno p hk, hk, restQ, hany]
  · rw [if_neg hij]
    cases hq : s[j]? with
    | none => rfl
    | some q =>
      simp only [Option.map_some, Option.some.injEq]
      have hq2 : q.kind ≠ 2 := fun h0 => hij (hs.one hp hq (by omega) (by
        cases hz : singleQ q with
        | false => rfl
        | true => rw [single_kind] at hz; omega))
      unfold place1
      cases hqp : placedQ q with
      | true =>
        have hjp := (hs.placed_iff hq).1 hqp
        rw [if_pos (by simp; omega), if_pos (by simp; omega), getD_take (by omega), getD_take (by omega)]
      | false =>
        have : (q.kind == 2) = false := by simpa using hq2
        simp [this]

theorem phase1_none {s : Sig} (hs : OkS s) {pl : List Int} {i : Nat} (hi : ¬ i < placesQ s) (hno : s.any (kIs 2) = false) : phase1 s (pl.take (i + 1)) = phase1 s (pl.take i) ∧ restQ s pl (i + 1) = restQ s pl i := by
  refine ⟨?_, by simp [restQ, hno]⟩
  apply List.ext_getElem?
  intro j
  simp only [phase1, List.getElem?_mapIdx]
  cases hq : s[j]? with
  | none => rfl
  | some q =>
    simp only [Option.map_some, Option.some.injEq]
    have hq2 : (q.kind == 2) = false := by
      rw [List.any_eq_false] at hno
      have := hno q (List.mem_of_getElem? hq)
      simpa [kIs] using this
    unfold place1
    cases hqp : placedQ q with
    | true =>
      have hjp := (hs.placed_iff hq).1 hqp
      by_cases hjl : j < pl.length
      · rw [if_pos (by simp; omega), if_pos (by simp; omega), getD_take (by omega), getD_take (by omega)]
      · have e1 : (true && decide (j < (pl.take (i + 1)).length)) = false := by simp; omega
        have e2 : (true && decide (j < (pl.take i).length)) = false := by simp; omega
        rw [e1, e2, hq2]; rfl
    | false => simp [hq2]

theorem storeRest {s : Sig} (hs : OkS s) {cm : Option C} {c c' : C} {b : Bnds} {i j : Nat} {p : Param} {x : Slot} {ns : List Int} (hp : s[i]? = some p) (hx : b[i]? = some x) (hk : p.kind = 2) (hj : j = i) :
    rowsM (some c') cm s (b.set i ⟨x.given, ns, x.pairs⟩) = (rowsM (some c) cm s b).set j (patch [.bool x.given, c, .fs (x.pairs.map eP)] 1 [c']) := by
  subst hj
  apply List.ext_getElem?
  intro k
  have hlen : j < (rowsM (some c) cm s b).length := by
    have h1 := lt_of_some hp; have h2 := lt_of_some hx; simp [rowsM]; omega
  rw [List.getElem?_set]
  by_cases hjk : j = k
  · subst hjk
    rw [if_pos rfl, if_pos hlen, rowsM_at hp (by rw [List.getElem?_set]; simp [lt_of_some hx]; rfl), rowM_two hk]
    rfl
  · rw [if_neg hjk]
    simp only [rowsM, List.getElem?_zipWith, List.getElem?_set, if_neg hjk]
    cases hq : s[k]? with
    | none => rfl
    | some q =>
      cases hy : b[k]? with
      | none => rfl
      | some y =>
        have h4 : (q.kind == 2) = false := by
          have : q.kind ≠ 2 := fun h0 => hjk (hs.one hp hq (by omega) (by
            cases hz : singleQ q with
            | false => rfl
            | true => rw [single_kind] at hz; omega))
          simpa using this
        simp only [rowM, h4, cellOr]

theorem sbound_ct (s : Sig) (f : Flat) (hs : OkS s) (h1 : f.places.length ≤ 1048576) (h2 : f.named.length ≤ 1048576) :
    ACalls pk 26 [.agg (eG s), .agg (eF f)] [] (fun r o => r = .tup [.agg [.fs ((boundQ s f).1.map eL)], .one (.os 0 0 (boundQ s f).2.length (boundQ s f).2.length)] ∧ o = [ownB (boundQ s f).2]) := by
  have hsl := hs.len
  refine acalls_of_body Tryz.func26 rfl (by kernel_rfl) rfl ?_
  refine rn rfl ?_
  refine goal_step (step_call [] rfl rfl rfl rfl rfl rfl (emptyBinding_ct s (by omega))) ?_
  rintro σ2 ⟨r, o', ⟨rfl, rfl⟩, hσ⟩
  obtain rfl := Option.some.inj hσ
  clear hσ
  refine rn rfl ?_
  refine goal_step (step_call [] rfl rfl rfl rfl rfl rfl (splaces_ct s (by omega))) ?_
  rintro σ2 ⟨r, o', ⟨rfl, rfl⟩, hσ⟩
  obtain rfl := Option.some.inj hσ
  clear hσ
  refine rn rfl ?_
  refine goal_step (step_call [] rfl rfl rfl rfl rfl rfl (kindAt_ct s 2 (by omega))) ?_
  rintro σ2 ⟨r, o', ⟨rfl, rfl⟩, hσ⟩
  obtain rfl := Option.some.inj hσ
  clear hσ
  refine rn rfl ?_
  have hnil : nilRows s.length = rowsN none none s := (rowsN_none s).symm
  rw [hnil]
  refine goal_weakCod (adoptR hs (id := 3) 6 rfl rfl rfl) ?_
  refine goal_weakCod (adoptM hs (id := 3) 7 rfl rfl rfl) ?_
  refine goal_weakCod (Weak.retell (id := 3) (cl' := false) rfl rfl (rowsN_re rfl rfl _ _ _) (by simp)) ?_
  refine goal_loop_keep (fun m σ => ∃ (n : Int) (i l : Nat) (ns : List Int), n = i ∧ i ≤ f.places.length ∧ m = f.places.length - i ∧ ns = restQ s f.places i ∧ l = ns.length ∧
      σ = ⟨[(10, .one (.int .i64 n)), (9, .one (.int .i64 (idxI (kIs 2) s 0))), (8, .one (.int .i64 (placesQ s))), (7, .one (.os 5 0 0 0)), (6, .one (.op 4 0 0)), (4, .one (.op 2 0 0)), (3, .one (.op 1 0 0)), (2, .one (.op 0 0 0))],
        [oV (.fs (s.map eQ)), some ⟨2, [eF f], false, false, true⟩, oV (.fs []), oRows (rowsM (some (.os 6 0 l l)) (some (.os 7 0 0 0)) s (phase1 s (f.places.take i))), oV (.os 3 0 s.length s.length), ownB [], ownI ns, ownP []], []⟩) f.places.length
    [10, 9, 8, 7, 6, 4, 3, 2] [0, 1, 2, 3, 4, 5, 6, 7] rfl ⟨_, 0, 0, [], rfl, by omega, by omega, by simp [restQ], rfl, ?_⟩ ?_
  · rw [show f.places.take 0 = [] by simp, ← part1_full, show part1 s [] s.length = List.replicate s.length zL from ?_]
    · exact keepS_eq rfl (cons_eq rfl (cons_eq rfl (cons_eq rfl (cons_eq (reO_rows (rowsM_re (fun _ => rfl) (fun _ => rfl) _ _ _ _)) (cons_eq rfl (cons_eq rfl (cons_eq rfl (cons_eq rfl rfl))))))))
    · apply List.ext_getElem?
      intro j
      simp only [part1, List.getElem?_mapIdx, List.getElem?_replicate]
      cases hq : s[j]? with
      | none =>
        have : s.length ≤ j := by simpa using hq
        rw [if_neg (by omega)]; rfl
      | some q => rw [if_pos (lt_of_some hq)]; simp [place1, zL]
  rintro m σ ⟨n, i, l, ns, rfl, hi, rfl, rfl, rfl, rfl⟩
  refine rn rfl ?_
  refine goal_cond rfl (fun h => ?_) (fun h => ?_) <;> (try simp only [gt_iff_lt, ge_iff_le, bne_iff_ne, ne_eq, bne_eq_false_iff_eq, beq_iff_eq, beq_eq_false_iff_ne, Bool.not_eq_true', Bool.not_eq_false', decide_eq_true_eq, decide_eq_false_iff_not, List.length_map] at h)
  · obtain ⟨v, hv⟩ := at_some (xs := f.places) (i := i) (by omega)
    have hnsl : (restQ s f.places i).length ≤ f.places.length := by
      unfold restQ; split
      · simp; omega
      · simp
    refine rn rfl ?_
    refine goal_cond rfl (fun hlt => ?_) (fun hlt => ?_) <;> (try simp only [gt_iff_lt, ge_iff_le, bne_iff_ne, ne_eq, bne_eq_false_iff_eq, beq_iff_eq, beq_eq_false_iff_ne, Bool.not_eq_true', Bool.not_eq_false', decide_eq_true_eq, decide_eq_false_iff_not, List.length_map] at hlt)
    · have hlt' : i < placesQ s := by omega
      have his : i < s.length := by have := placesQ_le s; omega
      obtain ⟨p, hp⟩ := at_some his
      obtain ⟨x, hx⟩ := at_some (xs := phase1 s (f.places.take i)) (i := i) (by rw [phase1_len]; exact his)
      have hpk := placed_kind.1 ((hs.placed_iff hp).2 hlt')
      have hrow := rowsM_at (cr := some (.os 6 0 (restQ s f.places i).length (restQ s f.places i).length)) (cm := some (.os 7 0 0 0)) hp hx
      have hstep := phase1_placed hs hp hlt' hv
      have hrest : restQ s f.places (i + 1) = restQ s f.places i := by
        unfold restQ; split
        · rw [List.drop_eq_nil_of_le (by simp; omega), List.drop_eq_nil_of_le (by simp; omega)]
        · rfl
      refine rn rfl ?_
      refine goal_draw' [1, 4] 12 rfl ?_
      refine drn [0, 1, 2, 3, 4, 5] (by kernel_rfl) (by kernel_rfl) rfl rfl ?_
      refine AH_did 6 rfl (by kernel_rfl) (by kernel_rfl) (by kernel_rfl) rfl rfl (dA_index (eI v) rfl rfl rfl rfl rfl rfl rfl (by omega) (by (try simp); omega) (map_at (by simpa using hv)) rfl) ?_
      refine drn [7] (by kernel_rfl) (by kernel_rfl) rfl rfl ?_
      refine AH_oneDid 8 rfl (by kernel_rfl) rfl (dA_step rfl) (mdOk rfl) ?_
      refine drn [9] (by kernel_rfl) (by kernel_rfl) rfl rfl ?_
      refine AH_data 42 [8] (y := .agg (eL ⟨true, [v], []⟩)) rfl rfl rfl ?_
      refine AH_did 10 rfl (by kernel_rfl) (by kernel_rfl) (by kernel_rfl) rfl rfl (dA_indexOwn rfl rfl rfl rfl rfl rfl rfl rfl rfl (by omega) (by (try simp); omega)) ?_
      refine AH_oneDid 11 rfl (by kernel_rfl) rfl (dA_storeEl (rowM (some (.os 6 0 (restQ s f.places i).length (restQ s f.places i).length)) (some (.os 7 0 0 0)) p x) (rowsM (some (.os 6 0 (restQ s f.places i).length (restQ s f.places i).length)) (some (.os 7 0 0 0)) s (phase1 s (f.places.take (i + 1)))) false rfl rfl rfl rfl rfl (by simpa using hrow) rfl rfl (by simp [eL, rowM]) (by rw [hstep]; refine storeRow hp (fun h0 => by omega) (fun h0 => by omega) ?_; simp) (fun h0 => by cases h0)) (mdOk rfl) ?_
      refine AH_end (by kernel_rfl) ?_
      refine rn rfl ?_
      refine round_keep (f.places.length - (i + 1)) [10, 9, 8, 7, 6, 4, 3, 2] [0, 1, 2, 3, 4, 5, 6, 7] (by omega) rfl ⟨_, i + 1, _, _, wrap64 (by omega) (by omega), by omega, rfl, hrest.symm, rfl, ?_⟩
      exact keepS_eq rfl (cons_eq rfl (cons_eq rfl (cons_eq rfl (cons_eq (reO_rows (rowsM_re (fun _ => rfl) (fun _ => rfl) _ _ _ _)) (cons_eq rfl (cons_eq rfl (cons_eq rfl (cons_eq rfl rfl))))))))
    · have hlt' : ¬ i < placesQ s := by omega
      refine rn rfl ?_
      refine goal_cond rfl (fun hge => ?_) (fun hge => ?_) <;> (try simp only [gt_iff_lt, ge_iff_le, bne_iff_ne, ne_eq, bne_eq_false_iff_eq, beq_iff_eq, beq_eq_false_iff_ne, Bool.not_eq_true', Bool.not_eq_false', decide_eq_true_eq, decide_eq_false_iff_not, List.length_map] at hge)
      · obtain ⟨p, hf, hp, hq, hlt2⟩ := idxI_find hge
        have hpk : p.kind = 2 := by simpa [kIs] using hq
        have hat : idxI (kIs 2) s 0 = ((idxI (kIs 2) s 0).toNat : Nat) := by omega
        generalize (idxI (kIs 2) s 0).toNat = j at hp hat
        rw [hat] at hlt2 ⊢
        have hjs : j < s.length := by omega
        obtain ⟨x, hx⟩ := at_some (xs := phase1 s (f.places.take i)) (i := j) (by rw [phase1_len]; exact hjs)
        have hrow := rowsM_at (cr := some (.os 6 0 (restQ s f.places i).length (restQ s f.places i).length)) (cm := some (.os 7 0 0 0)) hp hx
        rw [rowM_two hpk] at hrow
        obtain ⟨hstep, hrest⟩ := phase1_more hs hlt' hp hpk hx hv
        refine rn rfl ?_
        refine goal_drawL [1, 3, 4] [18] 19 rfl ?_
        refine drnL [0, 1, 2, 3, 4, 5, 9, 10, 11] (by kernel_rfl) (by kernel_rfl) rfl rfl ?_
        refine AHL_did 6 rfl (by kernel_rfl) (by kernel_rfl) (by kernel_rfl) (by kernel_rfl) rfl rfl (dA_indexOwn rfl rfl rfl rfl rfl rfl rfl rfl rfl (by omega) (by (try simp); omega)) ?_
        refine drnL [7] (by kernel_rfl) (by kernel_rfl) rfl rfl ?_
        refine AHL_did 8 rfl (by kernel_rfl) (by kernel_rfl) (by kernel_rfl) (by kernel_rfl) rfl rfl (dA_loadEl [.bool x.given, .os 6 0 (restQ s f.places i).length (restQ s f.places i).length, .fs (x.pairs.map eP)] rfl rfl rfl rfl (by simpa using hrow) rfl rfl rfl) ?_
        refine AHL_did 12 rfl (by kernel_rfl) (by kernel_rfl) (by kernel_rfl) (by kernel_rfl) rfl rfl (dA_index (eI v) rfl rfl rfl rfl rfl rfl rfl (by omega) (by (try simp); omega) (map_at (by simpa using hv)) rfl) ?_
        refine drnL [13] (by kernel_rfl) (by kernel_rfl) rfl rfl ?_
        refine AHL_oneDid 14 rfl (by kernel_rfl) rfl rfl (dA_step rfl) (mdOk rfl) ?_
        refine AHL_oneDid 15 rfl (by kernel_rfl) rfl rfl (dA_append (old := (restQ s f.places i).map eI) (rows := ([v] : List Int).map eI) (((restQ s f.places i) ++ ([v] : List Int)).map eI) ((restQ s f.places i).length + 1) true (Dst.own rfl rfl rfl rfl rfl (by first | (simp; done) | (simp; omega)) (whole (by first | (simp; done) | (simp; omega)))) (Src.os rfl rfl (Nat.le_refl 1) rfl) rfl rfl rfl rfl rfl rfl rfl rfl (rows_len eI_len _) (rows_len eI_len _) (by (try simp only [List.length_map, List.length_append, List.length_cons, List.length_nil, List.length_take, List.length_drop]); show _ * 8 ≤ _; omega) (by first | (simp; done) | (simp; omega)) (by simp) (by first | (simp; done) | (simp; omega)) (fun _ => noOwnR_map _ eI_noOwn _)) (mdOk rfl) ?_
        refine AHL_did 16 rfl (by kernel_rfl) (by kernel_rfl) (by kernel_rfl) (by kernel_rfl) rfl rfl (dA_indexOwn rfl rfl rfl rfl rfl rfl rfl rfl rfl (by omega) (by (try simp); omega)) ?_
        refine drnL [17] (by kernel_rfl) (by kernel_rfl) rfl rfl ?_
        refine AHL_lateDid 18 rfl (by kernel_rfl) rfl rfl (dA_storeEl [.bool x.given, .os 6 0 (restQ s f.places i).length (restQ s f.places i).length, .fs (x.pairs.map eP)] (rowsM (some (.os 9 0 ((restQ s f.places i).length + 1) ((restQ s f.places i).length + 1))) (some (.os 7 0 0 0)) s (phase1 s (f.places.take (i + 1)))) false rfl rfl rfl rfl rfl (by simpa using hrow) rfl rfl (by simp) (by rw [hstep]; refine storeRest hs hp hx hpk ?_; simp) (fun h0 => by cases h0)) ?_
        refine AH_end (by kernel_rfl) ?_
        refine rn rfl ?_
        refine round_keep (f.places.length - (i + 1)) [10, 9, 8, 7, 6, 4, 3, 2] [0, 1, 2, 3, 4, 5, 9, 7] (by omega) rfl ⟨_, i + 1, (restQ s f.places i).length + 1, restQ s f.places i ++ [v], wrap64 (by omega) (by omega), by omega, rfl, hrest.symm, by simp, ?_⟩
        exact keepS_eq rfl (cons_eq rfl (cons_eq rfl (cons_eq rfl (cons_eq (reO_rows (rowsM_re (fun _ => rfl) (fun _ => rfl) _ _ _ _)) (cons_eq rfl (cons_eq rfl (cons_eq rfl (cons_eq rfl rfl))))))))
      · have hno : s.any (kIs 2) = false := by
          cases hb : s.any (kIs 2) with
          | false => rfl
          | true => exact absurd (idxI_ge.2 hb) hge
        obtain ⟨hstep, hrest⟩ := phase1_none hs hlt' (pl := f.places) hno
        refine rn rfl ?_
        refine round_keep (f.places.length - (i + 1)) [10, 9, 8, 7, 6, 4, 3, 2] [0, 1, 2, 3, 4, 5, 6, 7] (by omega) rfl ⟨_, i + 1, _, _, wrap64 (by omega) (by omega), by omega, rfl, hrest.symm, rfl, ?_⟩
        rw [hstep]
        exact keepS_eq rfl (cons_eq rfl (cons_eq rfl (cons_eq rfl (cons_eq (reO_rows (rowsM_re (fun _ => rfl) (fun _ => rfl) _ _ _ _)) (cons_eq rfl (cons_eq rfl (cons_eq rfl (cons_eq rfl rfl))))))))
  · rw [show i = f.places.length by omega, List.take_length]
    have hfree : RestHas s (phase1 s f.places) (restQ s f.places f.places.length) := by
      have := phase1_rest hs f.places f.places.length
      rwa [List.take_length] at this
    have hnsl : (restQ s f.places f.places.length).length ≤ f.places.length := by
      unfold restQ; split
      · simp
      · simp
    refine rn rfl ?_
    refine round_ext ?_
    refine rt 12 rfl ?_
    refine goal_cutR (fun σ => σ = ⟨[(7, .one (.os 5 0 (manyQ s f.places).length (manyQ s f.places).length)), (6, .one (.op 4 0 0)), (4, .one (.op 2 0 0)), (3, .one (.op 1 0 0)), (2, .one (.op 0 0 0))],
        [oV (.fs (s.map eQ)), some ⟨2, [eF f], false, false, true⟩, oV (.fs []), oRows (rowsM none (some (.os 6 0 0 0)) s (phase1 s f.places)), oV (.os 3 0 s.length s.length), ownB (manyQ s f.places), ownP []], []⟩) ?_ ?_
    · have free : ∀ g : C → C, (∀ b, g (.bool b) = .bool b) → (∀ xs, g (.fs xs) = .fs xs) → g (.os 6 0 (restQ s f.places f.places.length).length (restQ s f.places f.places.length).length) = .fs ((restQ s f.places f.places.length).map eI) → g (.os 7 0 0 0) = .os 6 0 0 0 →
          mapR g (rowsM (some (.os 6 0 (restQ s f.places f.places.length).length (restQ s f.places f.places.length).length)) (some (.os 7 0 0 0)) s (phase1 s f.places)) = rowsM none (some (.os 6 0 0 0)) s (phase1 s f.places) := fun g g1 g2 g3 g4 => by
        rw [rowsM_re g1 g2, Option.map_some, Option.map_some, g3, g4, rowsM_freeR hfree]
      refine rn rfl ?_
      refine goal_guard rfl rfl rfl (fun h3 => ?_) (fun h3 => ?_) <;> (try simp only [gt_iff_lt, ge_iff_le, bne_iff_ne, ne_eq, bne_eq_false_iff_eq, beq_iff_eq, beq_eq_false_iff_ne, Bool.not_eq_true', Bool.not_eq_false', decide_eq_true_eq, decide_eq_false_iff_not, List.length_map] at h3)
      · refine rn rfl ?_
        refine goal_cond rfl (fun h4 => ?_) (fun h4 => ?_) <;> (try simp only [gt_iff_lt, ge_iff_le, bne_iff_ne, ne_eq, bne_eq_false_iff_eq, beq_iff_eq, beq_eq_false_iff_ne, Bool.not_eq_true', Bool.not_eq_false', decide_eq_true_eq, decide_eq_false_iff_not, List.length_map] at h4)
        · have hm : manyQ s f.places = [⟨0, []⟩] := by
            unfold manyQ
            have : s.any (kIs 2) = false := by
              cases hb : s.any (kIs 2) with
              | false => rfl
              | true => have := idxI_ge (i := 0).2 hb; omega
            rw [if_pos (by simp [this]; omega)]
          rw [hm]
          refine rn rfl ?_
          refine goal_did rfl rfl (dA_append (old := []) (rows := ([(⟨0, []⟩ : Problem)] : List Problem).map eB) (([(⟨0, []⟩ : Problem)] : List Problem).map eB) (1) true (Dst.own rfl rfl rfl rfl rfl (Nat.le_refl 0) rfl) (Src.os rfl rfl (Nat.le_refl 1) rfl) rfl rfl rfl rfl rfl rfl rfl rfl (by simp) (rows_len eB_len _) (by (try simp only [List.length_map, List.length_append, List.length_cons, List.length_nil, List.length_take, List.length_drop]); show _ * 24 ≤ _; omega) (by first | (simp; done) | (simp; omega)) (by simp) (by first | (simp; done) | (simp; omega)) (fun _ => noOwnR_map _ eB_noOwn _)) ?_
          refine rn rfl ?_
          exact cut_nrmF [7, 6, 4, 3, 2] [0, 1, 2, 3, 4, 9, 7] [6] rfl rfl (keepS_eq rfl (cons_eq rfl (cons_eq rfl (cons_eq rfl (cons_eq (reO_rows (free _ (fun _ => rfl) (fun _ => rfl) (congrArg C.fs (takeAll eI _ _ rfl)) rfl)) (cons_eq rfl (cons_eq rfl (cons_eq rfl rfl))))))))
        · have hm : manyQ s f.places = [] := by
            unfold manyQ
            have : s.any (kIs 2) = true := by
              refine idxI_ge (i := 0).1 (by omega)
            rw [if_neg (by simp [this])]
          rw [hm]
          refine rn rfl ?_
          exact cut_nrmF [7, 6, 4, 3, 2] [0, 1, 2, 3, 4, 5, 7] [6] rfl rfl (keepS_eq rfl (cons_eq rfl (cons_eq rfl (cons_eq rfl (cons_eq (reO_rows (free _ (fun _ => rfl) (fun _ => rfl) (congrArg C.fs (takeAll eI _ _ rfl)) rfl)) (cons_eq rfl (cons_eq rfl (cons_eq rfl rfl))))))))
      · have hm : manyQ s f.places = [] := by
          unfold manyQ
          rw [if_neg (by simp; omega)]
        rw [hm]
        refine rn rfl ?_
        exact cut_nrmF [7, 6, 4, 3, 2] [0, 1, 2, 3, 4, 5, 7] [6] rfl rfl (keepS_eq rfl (cons_eq rfl (cons_eq rfl (cons_eq rfl (cons_eq (reO_rows (free _ (fun _ => rfl) (fun _ => rfl) (congrArg C.fs (takeAll eI _ _ rfl)) rfl)) (cons_eq rfl (cons_eq rfl (cons_eq rfl rfl))))))))
    rintro _ rfl
    refine rn rfl ?_
    have hml := manyQ_len s f.places
    refine goal_loop_keep (fun m σ => ∃ (n : Int) (i k l : Nat) (ps wr : _) (b : Bnds), n = i ∧ i ≤ f.named.length ∧ m = f.named.length - i ∧ (f.named.take i).foldl (stepB s) (phase1 s f.places, manyQ s f.places) = (b, wr) ∧ MapHas s b ps ∧ ps.length ≤ i ∧ k = wr.length ∧ l = ps.length ∧
        σ = ⟨[(11, .one (.int .i64 n)), (7, .one (.os 5 0 k k)), (6, .one (.op 4 0 0)), (4, .one (.op 2 0 0)), (3, .one (.op 1 0 0)), (2, .one (.op 0 0 0))],
          [oV (.fs (s.map eQ)), some ⟨2, [eF f], false, false, true⟩, oV (.fs []), oRows (rowsM none (some (.os 6 0 l l)) s b), oV (.os 3 0 s.length s.length), ownB wr, ownP ps], []⟩) f.named.length
      [11, 7, 6, 4, 3, 2] [0, 1, 2, 3, 4, 5, 6] rfl ⟨_, 0, (manyQ s f.places).length, 0, [], manyQ s f.places, phase1 s f.places, rfl, by omega, by omega, rfl, phase1_map hs _, by simp, rfl, rfl,
        keepS_eq rfl (cons_eq rfl (cons_eq rfl (cons_eq rfl (cons_eq (reO_rows (rowsM_re (fun _ => rfl) (fun _ => rfl) _ _ _ _)) (cons_eq rfl (cons_eq rfl (cons_eq rfl rfl)))))))⟩ ?_
    rintro m σ ⟨n, i, k, l, ps, wr, b, rfl, hi, rfl, hfold, hmap, hpsl, rfl, rfl, rfl⟩
    have hbl : b.length = s.length := by
      have := foldB_len s (f.named.take i) (phase1 s f.places, manyQ s f.places)
      rw [hfold] at this; simpa [phase1_len] using this
    have hwl : wr.length ≤ 1 + i := by
      have := foldB_wr s (f.named.take i) (phase1 s f.places, manyQ s f.places)
      rw [hfold] at this; simp only [List.length_take] at this; omega
    refine rn rfl ?_
    refine goal_cond rfl (fun h => ?_) (fun h => ?_) <;> (try simp only [gt_iff_lt, ge_iff_le, bne_iff_ne, ne_eq, bne_eq_false_iff_eq, beq_iff_eq, beq_eq_false_iff_ne, Bool.not_eq_true', Bool.not_eq_false', decide_eq_true_eq, decide_eq_false_iff_not, List.length_map] at h)
    · obtain ⟨q, hq⟩ := at_some (xs := f.named) (i := i) (by omega)
      have hst := foldl_take_succ (stepB s) (phase1 s f.places, manyQ s f.places) hq
      rw [hfold] at hst
      refine rn rfl ?_
      refine goal_did rfl rfl (dA_index (eP q) rfl rfl rfl rfl rfl rfl rfl (by omega) (by (try simp); omega) (map_at (by simpa using hq)) rfl) ?_
      refine rn rfl ?_
      refine goal_step (step_call [] rfl rfl rfl rfl rfl rfl (stakes_ct s q.name (by omega))) ?_
      rintro σ2 ⟨r, o', ⟨rfl, rfl⟩, hσ⟩
      obtain rfl := Option.some.inj hσ
      clear hσ
      refine rn rfl ?_
      refine goal_cond rfl (fun hneg => ?_) (fun hneg => ?_) <;> (try simp only [gt_iff_lt, ge_iff_le, bne_iff_ne, ne_eq, bne_eq_false_iff_eq, beq_iff_eq, beq_eq_false_iff_ne, Bool.not_eq_true', Bool.not_eq_false', decide_eq_true_eq, decide_eq_false_iff_not, List.length_map] at hneg)
      · rw [stepB_neg hneg] at hst
        refine rn rfl ?_
        refine goal_did rfl rfl (dA_append (old := (wr).map eB) (rows := ([⟨1, q.name⟩] : List Problem).map eB) (((wr) ++ ([⟨1, q.name⟩] : List Problem)).map eB) (wr.length + 1) true (Dst.own rfl rfl rfl rfl rfl (by first | (simp; done) | (simp; omega)) (whole (by first | (simp; done) | (simp; omega)))) (Src.os rfl rfl (Nat.le_refl 1) rfl) rfl rfl rfl rfl rfl rfl rfl rfl (rows_len eB_len _) (rows_len eB_len _) (by (try simp only [List.length_map, List.length_append, List.length_cons, List.length_nil, List.length_take, List.length_drop]); show _ * 24 ≤ _; omega) (by first | (simp; done) | (simp; omega)) (by simp) (by first | (simp; done) | (simp; omega)) (fun _ => noOwnR_map _ eB_noOwn _)) ?_
        refine rn rfl ?_
        refine round_keep (f.named.length - (i + 1)) [11, 7, 6, 4, 3, 2] [0, 1, 2, 3, 4, 9, 6] (by omega) rfl ⟨_, i + 1, wr.length + 1, ps.length, ps, wr ++ [⟨1, q.name⟩], b, wrap64 (by omega) (by omega), by omega, rfl, hst, hmap, by omega, by simp, rfl, ?_⟩
        exact keepS_eq rfl (cons_eq rfl (cons_eq rfl (cons_eq rfl (cons_eq (reO_rows (rowsM_re (fun _ => rfl) (fun _ => rfl) _ _ _ _)) (cons_eq rfl (cons_eq rfl (cons_eq rfl rfl)))))))
      · obtain ⟨p, hp, hlt, hpk⟩ := takesQ_some hneg
        have hat : takesQ s q.name = ((takesQ s q.name).toNat : Nat) := by omega
        generalize (takesQ s q.name).toNat = j at hp hat
        rw [hat] at hlt ⊢
        have hjs : j < s.length := by omega
        obtain ⟨x, hx⟩ := at_some (xs := b) (i := j) (by omega)
        have hrow := rowsM_at (cr := none) (cm := some (.os 6 0 ps.length ps.length)) hp hx
        refine rn rfl ?_
        refine goal_did rfl rfl (dA_index (eQ p) rfl rfl rfl rfl rfl rfl rfl (by omega) (by simp; omega) (map_at (by simpa using hp)) rfl) ?_
        refine rn rfl ?_
        refine goal_cond rfl (fun hk => ?_) (fun hk => ?_) <;> (try simp only [gt_iff_lt, ge_iff_le, bne_iff_ne, ne_eq, bne_eq_false_iff_eq, beq_iff_eq, beq_eq_false_iff_ne, Bool.not_eq_true', Bool.not_eq_false', decide_eq_true_eq, decide_eq_false_iff_not, List.length_map] at hk)
        · have hk' : p.kind = 4 := hk
          rw [rowM_map hk'] at hrow
          have hxp := hmap j p x hp hx hk'
          rw [stepB_map hat hp hx hk', hxp] at hst
          refine rn rfl ?_
          refine goal_drawL [3, 4, 7] [14] 15 rfl ?_
          refine drnL [0, 1, 2, 3, 4, 5, 9] (by kernel_rfl) (by kernel_rfl) rfl rfl ?_
          refine AHL_did 6 rfl (by kernel_rfl) (by kernel_rfl) (by kernel_rfl) (by kernel_rfl) rfl rfl (dA_indexOwn rfl rfl rfl rfl rfl rfl rfl rfl rfl (by omega) (by (try simp); omega)) ?_
          refine drnL [7] (by kernel_rfl) (by kernel_rfl) rfl rfl ?_
          refine AHL_did 8 rfl (by kernel_rfl) (by kernel_rfl) (by kernel_rfl) (by kernel_rfl) rfl rfl (dA_loadEl [.bool x.given, .fs (x.list.map eI), .os 6 0 ps.length ps.length] rfl rfl rfl rfl (by simpa using hrow) rfl rfl rfl) ?_
          refine AHL_oneDid 10 rfl (by kernel_rfl) rfl rfl (dA_step rfl) (mdOk rfl) ?_
          refine AHL_oneDid 11 rfl (by kernel_rfl) rfl rfl (dA_append (old := (ps).map eP) (rows := ([q] : List Pair).map eP) (((ps) ++ ([q] : List Pair)).map eP) (ps.length + 1) true (Dst.own rfl rfl rfl rfl rfl (by first | (simp; done) | (simp; omega)) (whole (by first | (simp; done) | (simp; omega)))) (Src.os rfl rfl (Nat.le_refl 1) rfl) rfl rfl rfl rfl rfl rfl rfl rfl (rows_len eP_len _) (rows_len eP_len _) (by (try simp only [List.length_map, List.length_append, List.length_cons, List.length_nil, List.length_take, List.length_drop]); show _ * 24 ≤ _; omega) (by first | (simp; done) | (simp; omega)) (by simp) (by first | (simp; done) | (simp; omega)) (fun _ => noOwnR_map _ eP_noOwn _)) (mdOk rfl) ?_
          refine AHL_did 12 rfl (by kernel_rfl) (by kernel_rfl) (by kernel_rfl) (by kernel_rfl) rfl rfl (dA_indexOwn rfl rfl rfl rfl rfl rfl rfl rfl rfl (by omega) (by (try simp); omega)) ?_
          refine drnL [13] (by kernel_rfl) (by kernel_rfl) rfl rfl ?_
          refine AHL_lateDid 14 rfl (by kernel_rfl) rfl rfl (dA_storeEl [.bool x.given, .fs (x.list.map eI), .os 6 0 ps.length ps.length] (rowsM none (some (.os 9 0 (ps.length + 1) (ps.length + 1))) s (b.set j ⟨x.given, x.list, ps ++ [q]⟩)) false rfl rfl rfl rfl rfl (by simpa using hrow) rfl rfl (by simp) (by refine storePairs hs hp hx hk' ?_; simp) (fun h0 => by cases h0)) ?_
          refine AH_end (by kernel_rfl) ?_
          refine rn rfl ?_
          refine round_keep (f.named.length - (i + 1)) [11, 7, 6, 4, 3, 2] [0, 1, 2, 3, 4, 5, 9] (by omega) rfl ⟨_, i + 1, wr.length, ps.length + 1, ps ++ [q], wr, _, wrap64 (by omega) (by omega), by omega, rfl, hst, MapHas.put hs hp hk' rfl, by simp; omega, rfl, by simp, ?_⟩
          exact keepS_eq rfl (cons_eq rfl (cons_eq rfl (cons_eq rfl (cons_eq (reO_rows (rowsM_re (fun _ => rfl) (fun _ => rfl) _ _ _ _)) (cons_eq rfl (cons_eq rfl (cons_eq rfl rfl)))))))
        · have hk4 : p.kind ≠ 4 := hk
          have hk2 : p.kind ≠ 2 := by
            rcases hpk with h0 | h0
            · have := named_kind.1 h0.1; omega
            · omega
          rw [rowM_plain hk2 hk4] at hrow
          refine rn rfl ?_
          refine goal_did rfl rfl (dA_indexOwn rfl rfl rfl rfl rfl rfl rfl rfl rfl (by omega) (by (try simp); omega)) ?_
          refine goal_did rfl rfl (dA_step rfl) ?_
          refine goal_did rfl rfl (dA_loadEl (eL x) rfl rfl rfl rfl (by simpa using hrow) rfl rfl rfl) ?_
          refine rn rfl ?_
          refine goal_cond rfl (fun hg => ?_) (fun hg => ?_) <;> (try simp only [gt_iff_lt, ge_iff_le, bne_iff_ne, ne_eq, bne_eq_false_iff_eq, beq_iff_eq, beq_eq_false_iff_ne, Bool.not_eq_true', Bool.not_eq_false', decide_eq_true_eq, decide_eq_false_iff_not, List.length_map] at hg)
          · rw [stepB_twice hat hp hx hk4 hg] at hst
            refine rn rfl ?_
            refine goal_did rfl rfl (dA_append (old := (wr).map eB) (rows := ([⟨2, q.name⟩] : List Problem).map eB) (((wr) ++ ([⟨2, q.name⟩] : List Problem)).map eB) (wr.length + 1) true (Dst.own rfl rfl rfl rfl rfl (by first | (simp; done) | (simp; omega)) (whole (by first | (simp; done) | (simp; omega)))) (Src.os rfl rfl (Nat.le_refl 1) rfl) rfl rfl rfl rfl rfl rfl rfl rfl (rows_len eB_len _) (rows_len eB_len _) (by (try simp only [List.length_map, List.length_append, List.length_cons, List.length_nil, List.length_take, List.length_drop]); show _ * 24 ≤ _; omega) (by first | (simp; done) | (simp; omega)) (by simp) (by first | (simp; done) | (simp; omega)) (fun _ => noOwnR_map _ eB_noOwn _)) ?_
            refine rn rfl ?_
            refine round_keep (f.named.length - (i + 1)) [11, 7, 6, 4, 3, 2] [0, 1, 2, 3, 4, 9, 6] (by omega) rfl ⟨_, i + 1, wr.length + 1, ps.length, ps, wr ++ [⟨2, q.name⟩], b, wrap64 (by omega) (by omega), by omega, rfl, hst, hmap, by omega, by simp, rfl, ?_⟩
            exact keepS_eq rfl (cons_eq rfl (cons_eq rfl (cons_eq rfl (cons_eq (reO_rows (rowsM_re (fun _ => rfl) (fun _ => rfl) _ _ _ _)) (cons_eq rfl (cons_eq rfl (cons_eq rfl rfl)))))))
          · rw [stepB_set hat hp hx hk4 hg] at hst
            refine rn rfl ?_
            refine goal_did rfl rfl (dA_indexOwn rfl rfl rfl rfl rfl rfl rfl rfl rfl (by omega) (by (try simp); omega)) ?_
            refine goal_data 100 [8] (y := .agg (eL ⟨true, [q.value], []⟩)) rfl rfl rfl ?_
            refine goal_did rfl rfl (dA_storeEl (eL x) (rowsM none (some (.os 6 0 ps.length ps.length)) s (b.set j ⟨true, [q.value], []⟩)) false rfl rfl rfl rfl rfl (by simpa using hrow) rfl rfl (by simp [eL]) (by rw [← rowM_plain (cr := none) (cm := some (.os 6 0 ps.length ps.length)) (x := x) hk2 hk4]; refine storeRow hp (fun h0 => absurd h0 hk2) (fun h0 => absurd h0 hk4) ?_; simp) (fun h0 => by cases h0)) ?_
            refine rn rfl ?_
            refine round_keep (f.named.length - (i + 1)) [11, 7, 6, 4, 3, 2] [0, 1, 2, 3, 4, 5, 6] (by omega) rfl ⟨_, i + 1, wr.length, ps.length, ps, wr, _, wrap64 (by omega) (by omega), by omega, rfl, hst, MapHas.set hmap hp hk4, by omega, rfl, rfl, ?_⟩
            exact keepS_eq rfl (cons_eq rfl (cons_eq rfl (cons_eq rfl (cons_eq (reO_rows (rowsM_re (fun _ => rfl) (fun _ => rfl) _ _ _ _)) (cons_eq rfl (cons_eq rfl (cons_eq rfl rfl)))))))
    · rw [show i = f.named.length by omega, List.take_length] at hfold
      have hbq : boundQ s f = (b, wr) := hfold
      rw [hbq]
      refine rn rfl ?_
      refine round_ext ?_
      refine rt 26 rfl ?_
      refine goal_keepE [7, 6, 4, 3, 2] [0, 1, 2, 3, 4, 5] [6] rfl rfl rfl (cons_eq rfl (cons_eq rfl (cons_eq rfl (cons_eq (reO_rows (rows' := b.map eL) ?_) (cons_eq rfl (cons_eq rfl rfl)))))) ?_
      · refine (rowsM_re (fun _ => rfl) (fun _ => rfl) _ _ _ _).trans ?_
        show rowsM none (some (C.fs (List.take ps.length (List.drop 0 (ps.map eP))))) s b = _
        rw [takeAll eP ps _ rfl, rowsM_freeM hmap, rowsM_none hbl]
      refine goal_weakCod (Weak.cleanO (id := 3) rfl rfl (noOwnR_map _ eL_noOwn _)) ?_
      refine rn rfl ?_
      refine fin_is [5] rfl ⟨?_, rfl⟩
      rw [takeAll eL b _ hbl]

def fitQ (s : Sig) (f : Flat) : Bool := okSig s && okFlat f

structure LenF (f : Flat) : Prop where
  places : f.places.length ≤ 1048576
  named : f.named.length ≤ 1048576
  names : ∀ p ∈ f.named, p.name.length ≤ 9223372036854775807

structure LenS (s : Sig) : Prop where
  params : s.length ≤ 1048576
  names : ∀ p ∈ s, p.name.length ≤ 9223372036854775807

theorem fit_ct (s : Sig) (f : Flat) (hs : LenS s) (hf : LenF f) : ACalls pk 36 [.agg (eG s), .agg (eF f)] [] (fun r o => r = .one (.bool (fitQ s f)) ∧ o = []) := by
  have a1 := hs.params
  have a2 := hf.places
  have a3 := hf.named
  refine acalls_of_body Tryz.func36 rfl (by kernel_rfl) rfl ?_
  refine rn rfl ?_
  refine goal_step (step_call [] rfl rfl rfl rfl rfl rfl (ivalidSig_ct s (by omega) hs.names)) ?_
  rintro σ2 ⟨r, o', ⟨rfl, rfl⟩, hσ⟩
  obtain rfl := Option.some.inj hσ
  clear hσ
  refine rn rfl ?_
  refine goal_guard rfl rfl rfl (fun h => ?_) (fun h => ?_) <;> (try simp only [gt_iff_lt, ge_iff_le, bne_iff_ne, ne_eq, bne_eq_false_iff_eq, beq_iff_eq, beq_eq_false_iff_ne, Bool.not_eq_true', Bool.not_eq_false', decide_eq_true_eq, decide_eq_false_iff_not, List.length_map] at h)
  · refine rn rfl ?_
    refine goal_step (step_call [] rfl rfl rfl rfl rfl rfl (ivalidFlat_ct f (by omega) (by omega) hf.names)) ?_
    rintro σ2 ⟨r, o', ⟨rfl, rfl⟩, hσ⟩
    obtain rfl := Option.some.inj hσ
    clear hσ
    refine rn rfl ?_
    refine rn rfl (fin_is [] rfl ⟨?_, rfl⟩)
    simp [fitQ, h]
  · refine rn rfl (fin_is [] rfl ⟨?_, rfl⟩)
    simp [fitQ, h]

theorem fitQ_iff {s : Sig} {f : Flat} : fitQ s f = true ↔ OkS s ∧ OkF f := by
  rw [fitQ, Bool.and_eq_true, okSig_iff, okFlat_iff]

theorem OkF.len {f : Flat} (h : OkF f) : LenF f := ⟨by have := h.places; omega, by have := h.named; omega, fun p hp => by
  have := h.pairs p hp
  simp only [okPair, okName, inR, Bool.and_eq_true, decide_eq_true_eq] at this
  omega⟩

theorem missing_ct (s : Sig) (b : Bnds) (hs : s.length ≤ 1048576) (hb : b.length = s.length) : ACalls pk 74 [.agg (eG s), .agg (eBi b)] [] (fun r o => r = .one (.fs ((missingQ s b).map eB)) ∧ o = []) := by
  refine acalls_of_body Tryz.func74 rfl (by kernel_rfl) rfl ?_
  refine rn rfl ?_
  refine goal_loop_keep (fun m σ => ∃ (n : Int) (i k : Nat) (w3 : List Problem), n = i ∧ i ≤ s.length ∧ m = s.length - i ∧ w3 = ((s.zip b).take i).filterMap lackQ ∧ k = w3.length ∧
      σ = ⟨[(6, .one (.int .i64 n)), (5, .one (.os 2 0 k k)), (3, .one (.op 1 0 0)), (2, .one (.op 0 0 0))],
        [oV (.fs (s.map eQ)), oV (.fs (b.map eL)), ownB w3], []⟩) s.length
    [6, 5, 3, 2] [0, 1, 2] rfl ⟨_, 0, 0, [], rfl, by omega, by omega, by simp, rfl, rfl⟩ ?_
  rintro m σ ⟨n, i, k, w3, rfl, hi, rfl, hw3, rfl, rfl⟩
  have hw3l : w3.length ≤ i := by
    rw [hw3]
    have := List.length_filterMap_le lackQ ((s.zip b).take i)
    rw [List.length_take] at this; omega
  refine rn rfl ?_
  refine goal_cond rfl (fun h => ?_) (fun h => ?_) <;> (try simp only [gt_iff_lt, ge_iff_le, bne_iff_ne, ne_eq, bne_eq_false_iff_eq, beq_iff_eq, beq_eq_false_iff_ne, Bool.not_eq_true', Bool.not_eq_false', decide_eq_true_eq, decide_eq_false_iff_not, List.length_map] at h)
  · obtain ⟨p, hp⟩ := at_some (xs := s) (i := i) (by omega)
    obtain ⟨x, hx⟩ := at_some (xs := b) (i := i) (by omega)
    have hz : (s.zip b)[i]? = some (p, x) := by simp [List.getElem?_zip_eq_some, hp, hx]
    have hst := filterMap_take_succ (g := lackQ) hz
    have fin : lackQ (p, x) = none → w3 = ((s.zip b).take (i + 1)).filterMap lackQ := fun h0 => by rw [hst, h0, hw3]; simp
    refine rn rfl ?_
    refine goal_did rfl rfl (dA_index (eQ p) rfl rfl rfl rfl rfl rfl rfl (by omega) (by (try simp); omega) (map_at (by simpa using hp)) rfl) ?_
    refine rn rfl ?_
    refine goal_step (step_call [] rfl rfl rfl rfl rfl rfl (ssingle_ct p)) ?_
    rintro σ2 ⟨r, o', ⟨rfl, rfl⟩, hσ⟩
    obtain rfl := Option.some.inj hσ
    clear hσ
    refine rn rfl ?_
    refine goal_guard rfl rfl rfl (fun h3 => ?_) (fun h3 => ?_) <;> (try simp only [gt_iff_lt, ge_iff_le, bne_iff_ne, ne_eq, bne_eq_false_iff_eq, beq_iff_eq, beq_eq_false_iff_ne, Bool.not_eq_true', Bool.not_eq_false', decide_eq_true_eq, decide_eq_false_iff_not, List.length_map] at h3)
    · refine rn rfl ?_
      refine goal_guard rfl rfl rfl (fun h4 => ?_) (fun h4 => ?_) <;> (try simp only [gt_iff_lt, ge_iff_le, bne_iff_ne, ne_eq, bne_eq_false_iff_eq, beq_iff_eq, beq_eq_false_iff_ne, Bool.not_eq_true', Bool.not_eq_false', decide_eq_true_eq, decide_eq_false_iff_not, List.length_map] at h4)
      · refine rn rfl ?_
        refine goal_did rfl rfl (dA_index (eL x) rfl rfl rfl rfl rfl rfl rfl (by omega) (by (try simp); omega) (map_at (by simpa using hx)) rfl) ?_
        refine rn rfl ?_
        refine goal_cond rfl (fun h5 => ?_) (fun h5 => ?_) <;> (try simp only [gt_iff_lt, ge_iff_le, bne_iff_ne, ne_eq, bne_eq_false_iff_eq, beq_iff_eq, beq_eq_false_iff_ne, Bool.not_eq_true', Bool.not_eq_false', decide_eq_true_eq, decide_eq_false_iff_not, List.length_map] at h5)
        · refine rn rfl ?_
          refine goal_did rfl rfl (dA_append (old := (w3).map eB) (rows := ([⟨3, p.name⟩] : List Problem).map eB) (((w3) ++ ([⟨3, p.name⟩] : List Problem)).map eB) (w3.length + 1) true (Dst.own rfl rfl rfl rfl rfl (by first | (simp; done) | (simp; omega)) (whole (by first | (simp; done) | (simp; omega)))) (Src.os rfl rfl (Nat.le_refl 1) rfl) rfl rfl rfl rfl rfl rfl rfl rfl (rows_len eB_len _) (rows_len eB_len _) (by (try simp only [List.length_map, List.length_append, List.length_cons, List.length_nil, List.length_take, List.length_drop]); show _ * 24 ≤ _; omega) (by first | (simp; done) | (simp; omega)) (by simp) (by first | (simp; done) | (simp; omega)) (fun _ => noOwnR_map _ eB_noOwn _)) ?_
          refine rn rfl ?_
          refine round_keep (s.length - (i + 1)) [6, 5, 3, 2] [0, 1, 5] (by omega) rfl ⟨_, i + 1, w3.length + 1, w3 ++ [⟨3, p.name⟩], wrap64 (by omega) (by omega), by omega, rfl, ?_, by simp, rfl⟩
          rw [hst, hw3]; simp [lackQ, h3, h4, h5]
        · refine rn rfl ?_
          refine round_keep (s.length - (i + 1)) [6, 5, 3, 2] [0, 1, 2] (by omega) rfl ⟨_, i + 1, w3.length, w3, wrap64 (by omega) (by omega), by omega, rfl, fin (by simp [lackQ, h5]), rfl, rfl⟩
      · refine rn rfl ?_
        refine round_keep (s.length - (i + 1)) [6, 5, 3, 2] [0, 1, 2] (by omega) rfl ⟨_, i + 1, w3.length, w3, wrap64 (by omega) (by omega), by omega, rfl, fin (by simp [lackQ, h4]), rfl, rfl⟩
    · refine rn rfl ?_
      refine round_keep (s.length - (i + 1)) [6, 5, 3, 2] [0, 1, 2] (by omega) rfl ⟨_, i + 1, w3.length, w3, wrap64 (by omega) (by omega), by omega, rfl, fin (by simp [lackQ, h3]), rfl, rfl⟩
  · refine rn rfl ?_
    refine round_ext ?_
    refine rn rfl (fin_is [] rfl ⟨?_, rfl⟩)
    rw [takeAll eB _ _ rfl, hw3, show i = s.length by omega, List.take_of_length_le (by simp; omega)]; rfl

theorem problems_ct (s : Sig) (f : Flat) (hs : OkS s) (hf : LenF f) : ACalls pk 49 [.agg (eG s), .agg (eF f)] [] (fun r o => r = .one (.fs ((bindQ s f).2.map eB)) ∧ o = []) := by
  have hl := hs.len
  have a2 := hf.places
  have a3 := hf.named
  have hw := foldB_wr s f.named (phase1 s f.places, manyQ s f.places)
  have hm := manyQ_len s f.places
  have hq := missingQ_len s (boundQ s f).1
  have hw' : (boundQ s f).2.length ≤ (manyQ s f.places).length + f.named.length := hw
  refine acalls_of_body Tryz.func49 rfl (by kernel_rfl) rfl ?_
  refine rn rfl ?_
  refine goal_step (step_call [] rfl rfl rfl rfl rfl rfl (sbound_ct s f hs hf.places hf.named)) ?_
  rintro σ2 ⟨r, o', ⟨rfl, rfl⟩, hσ⟩
  obtain rfl := Option.some.inj hσ
  clear hσ
  refine rn rfl ?_
  refine goal_step (step_call [] rfl rfl rfl rfl rfl rfl (missing_ct s (boundQ s f).1 (by omega) (boundQ_len s f))) ?_
  rintro σ2 ⟨r, o', ⟨rfl, rfl⟩, hσ⟩
  obtain rfl := Option.some.inj hσ
  clear hσ
  refine rn rfl ?_
  refine goal_did rfl rfl (dA_append (old := ((boundQ s f).2).map eB) (rows := (missingQ s (boundQ s f).1 : List Problem).map eB) ((((boundQ s f).2) ++ (missingQ s (boundQ s f).1 : List Problem)).map eB) ((boundQ s f).2.length + (missingQ s (boundQ s f).1).length) true (Dst.own rfl rfl rfl rfl rfl (by first | (simp; done) | (simp; omega)) (whole (by first | (simp; done) | (simp; omega)))) (Src.fs rfl) rfl rfl rfl rfl rfl rfl rfl rfl (rows_len eB_len _) (rows_len eB_len _) (by (try simp only [List.length_map, List.length_append, List.length_cons, List.length_nil, List.length_take, List.length_drop]); show _ * 24 ≤ _; omega) (by first | (simp; done) | (simp; omega)) (by simp) (by first | (simp; done) | (simp; omega)) (fun _ => noOwnR_map _ eB_noOwn _)) ?_
  refine rn rfl ?_
  refine rn rfl (fin_is [] rfl ⟨?_, rfl⟩)
  rw [takeAll eB _ _ (by simp)]; rfl

def accQ (s : Sig) (f : Flat) : Bool := decide ((bindQ s f).2 = [])

theorem len_zero {α : Type} (xs : List α) : (((xs.length : Nat) : Int) == 0) = decide (xs = []) := by
  cases xs with
  | nil => rfl
  | cons x xs => simp; omega

theorem saccepts_ct (s : Sig) (f : Flat) (hs : OkS s) (hf : LenF f) : ACalls pk 25 [.agg (eG s), .agg (eF f)] [] (fun r o => r = .one (.bool (accQ s f)) ∧ o = []) := by
  refine acalls_of_body Tryz.func25 rfl (by kernel_rfl) rfl ?_
  refine rn rfl ?_
  refine goal_step (step_call [] rfl rfl rfl rfl rfl rfl (problems_ct s f hs hf)) ?_
  rintro σ2 ⟨r, o', ⟨rfl, rfl⟩, hσ⟩
  obtain rfl := Option.some.inj hσ
  clear hσ
  refine rn rfl ?_
  refine rn rfl (fin_is [] rfl ⟨?_, rfl⟩)
  rw [List.length_map, len_zero]; rfl

/-- What a call binds, and whether it does. -/
def BindQ (s : Sig) (f : Flat) : Bnds × Bool := if fitQ s f && accQ s f then ((boundQ s f).1, true) else ([], false)

def partQ (s : Sig) (f : Flat) : Bool := fitQ s f && decide ((boundQ s f).2 = [])

def overN (ps qs : List Pair) : List Pair := qs.foldl (fun ps p => putP ps p.name p.value) ps

def overQ (f g : Flat) : Flat := ⟨f.places ++ g.places, overN f.named g.named⟩

theorem overN_len : ∀ (qs ps : List Pair), (overN ps qs).length ≤ ps.length + qs.length
  | [], ps => by simp [overN]
  | q :: qs, ps => by
    have h1 := overN_len qs (putP ps q.name q.value)
    have h2 := putP_length ps q.name q.value
    simp only [overN, List.foldl_cons, List.length_cons] at h1 ⊢
    omega

theorem overN_mem : ∀ {qs ps : List Pair} {p : Pair}, p ∈ overN ps qs → (∃ q ∈ ps, p.name = q.name) ∨ ∃ q ∈ qs, p.name = q.name
  | [], ps, p, h => .inl ⟨p, h, rfl⟩
  | q :: qs, ps, p, h => by
    rcases overN_mem (qs := qs) (ps := putP ps q.name q.value) h with ⟨r, hr, hn⟩ | ⟨r, hr, hn⟩
    · rcases putP_mem hr with h1 | ⟨r', hr', h1⟩
      · exact .inr ⟨q, by simp, by rw [hn, h1]⟩
      · exact .inl ⟨r', hr', by rw [hn, h1]⟩
    · exact .inr ⟨r, by simp [hr], hn⟩

theorem LenF.over {f g : Flat} (hf : LenF f) (hg : LenF g) : (overQ f g).places.length ≤ 16777216 ∧ (overQ f g).named.length ≤ 16777216 ∧ ∀ p ∈ (overQ f g).named, p.name.length ≤ 9223372036854775807 := by
  refine ⟨by have := hf.places; have := hg.places; simp [overQ]; omega, by have h := overN_len g.named f.named; have := hf.named; have := hg.named; simp only [overQ]; omega, fun p hp => ?_⟩
  rcases overN_mem hp with ⟨q, hq, hn⟩ | ⟨q, hq, hn⟩
  · rw [hn]; exact hf.names q hq
  · rw [hn]; exact hg.names q hq

theorem gt_zero {α : Type} (xs : List α) : decide (((xs.length : Nat) : Int) > 0) = !decide (xs = []) := by
  cases xs with
  | nil => rfl
  | cons x xs => simp

/-- Slots of own memory. -/
def rL (b : Bnds) : T := .agg [.os 0 0 b.length b.length]

theorem iBind_ct (s : Sig) (f : Flat) (hs : LenS s) (hf : LenF f) : ACalls pk 17 [.agg (eG s), .agg (eF f)] [] (fun r o => r = .tup [rL (BindQ s f).1, .one (.bool (BindQ s f).2)] ∧ o = [ownL (BindQ s f).1]) := by
  refine acalls_of_body Tryz.func17 rfl (by kernel_rfl) rfl ?_
  refine rn rfl ?_
  refine goal_step (step_call [] rfl rfl rfl rfl rfl rfl (fit_ct s f hs hf)) ?_
  rintro σ2 ⟨r, o', ⟨rfl, rfl⟩, hσ⟩
  obtain rfl := Option.some.inj hσ
  clear hσ
  refine rn rfl ?_
  refine goal_cond rfl (fun h => ?_) (fun h => ?_) <;> (try simp only [gt_iff_lt, ge_iff_le, bne_iff_ne, ne_eq, bne_eq_false_iff_eq, beq_iff_eq, beq_eq_false_iff_ne, Bool.not_eq_true', Bool.not_eq_false', decide_eq_true_eq, decide_eq_false_iff_not, List.length_map] at h)
  · refine rn rfl ?_
    refine fin_weak (Weak.adoptO 2 0 3) (fin_is [3] rfl ⟨?_, ?_⟩)
    · simp [BindQ, h]; rfl
    · simp [BindQ, h]; rfl
  · have hfit := fitQ_iff.1 h
    refine rn rfl ?_
    refine goal_step (step_call [] rfl rfl rfl rfl rfl rfl (ibind_ct s f hfit.1 hf.places hf.named)) ?_
    rintro σ2 ⟨r, o', ⟨rfl, rfl⟩, hσ⟩
    obtain rfl := Option.some.inj hσ
    clear hσ
    refine rn rfl ?_
    rw [List.length_map, gt_zero]
    refine goal_cond rfl (fun h2 => ?_) (fun h2 => ?_) <;> simp only [Bool.not_eq_true', Bool.not_eq_false', decide_eq_true_eq, decide_eq_false_iff_not] at h2
    · refine rn rfl ?_
      refine fin_weak (Weak.adoptO 2 0 3) (fin_is [5] rfl ⟨?_, ?_⟩)
      · simp [BindQ, accQ, h2]; rfl
      · simp [BindQ, accQ, h2]; rfl
    · refine rn rfl ?_
      have hb : BindQ s f = ((boundQ s f).1, true) := by simp [BindQ, h, accQ, h2]
      refine fin_is [3] rfl ⟨?_, ?_⟩
      · rw [hb]; simp [rL, boundQ_len]
      · rw [hb]; rfl

theorem iBindD_ct (s : Sig) (f : Flat) (hs : LenS s) (hf : LenF f) : ACalls pk 17 [.agg (eG s), .agg (eF f)] [] (fun r o => r = .tup [.agg (eBi (BindQ s f).1), .one (.bool (BindQ s f).2)] ∧ o = []) :=
  (iBind_ct s f hs hf).told [] (by
    rintro r o ⟨rfl, rfl⟩
    refine ⟨_, _, rfl, ?_, rfl⟩
    rw [takeAll eL _ _ rfl]; rfl)

theorem iaccepts_ct (s : Sig) (f : Flat) (hs : LenS s) (hf : LenF f) : ACalls pk 9 [.agg (eG s), .agg (eF f)] [] (fun r o => r = .one (.bool (BindQ s f).2) ∧ o = []) := by
  refine acalls_of_body Tryz.func9 rfl (by kernel_rfl) rfl ?_
  refine rn rfl ?_
  refine goal_step (step_call [] rfl rfl rfl rfl rfl rfl (iBindD_ct s f hs hf)) ?_
  rintro σ2 ⟨r, o', ⟨rfl, rfl⟩, hσ⟩
  obtain rfl := Option.some.inj hσ
  clear hσ
  refine rn rfl ?_
  exact rn rfl (fin_is [] rfl ⟨rfl, rfl⟩)

theorem byNameD_ct (xs : List Pair) (hl : xs.length ≤ 12) : ACalls pk 42 [.one (.fs (xs.map eP))] [] (fun r o => r = .one (.fs ((isortL ltN xs).map eP)) ∧ o = []) :=
  (byName_ct xs hl).told [] (by rintro r o ⟨rfl, rfl⟩; exact ⟨_, _, rfl, congrArg (fun x => T.one (C.fs x)) (takeAll eP _ _ (isortL_length _ _)), rfl⟩)

/-- All of the memory, zs data. -/
def allD (w : World) (b : Nat) : Prop := b < w.heap.size

/-- A value of type 't' that can be read is some 'a', its cells told by 'enc'. -/
def Opens (P : Program) (t : TypeId) {α : Type} (enc : α → List C) (ok : α → Prop) : Prop :=
  ∀ (H : Type) (en : TypeId × Value → H) (w : World) (fuel : Nat) (cs : List Value) (x : DataW H × List MemPlace), DataW.trod en P w 0 (fun _ => true) true fuel t cs = some x →
    ∃ a : α, ok a ∧ CRp (allD w) w.heap [] (enc a) cs ∧ cs.length = (enc a).length

theorem opens_int {P : Program} {t : TypeId} (ht : P.underlying t = some (.int .i64)) : Opens P t (fun n : Int => [.int .i64 n]) (fun _ => True) := by
  intro H en w fuel cs x h
  obtain ⟨n, rfl, _, _⟩ := DataW.trod_int ht h
  exact ⟨n, trivial, by simp [CRp, CR], rfl⟩

theorem opens_bool {P : Program} {t : TypeId} (ht : P.underlying t = some .bool) : Opens P t (fun n : Bool => [.bool n]) (fun _ => True) := by
  intro H en w fuel cs x h
  obtain ⟨n, rfl, _⟩ := DataW.trod_bool ht h
  exact ⟨n, trivial, by simp [CRp, CR], rfl⟩

theorem opens_str {P : Program} {t : TypeId} (ht : P.underlying t = some .string) : Opens P t (fun s : Str => [.str s]) (fun s => s.length ≤ 9223372036854775807) := by
  intro H en w fuel cs x h
  obtain ⟨s, rfl, _, hl⟩ := DataW.trod_string ht h
  refine ⟨s.data.toList, ?_, ?_, rfl⟩
  · have h1 : s.size = s.data.toList.length := (Array.length_toList).symm
    show s.data.toList.length ≤ _
    rw [← h1]
    exact Nat.le_trans hl (by decide)
  · simp only [CRp, CR, and_true]

theorem opens_slice {P : Program} {t e : TypeId} {α : Type} {enc : α → List C} {ok : α → Prop} {sz : Nat} (ht : P.underlying t = some (.slice e)) (hc : P.cellsOf e = sz) (h0 : 0 < sz) (hl : ∀ a, (enc a).length = sz) (he : Opens P e enc ok) :
    Opens P t (fun xs : List α => [.fs (xs.map enc)]) (fun xs => xs.length ≤ 9223372036854775807 ∧ ∀ x ∈ xs, ok x) := by
  intro H en w fuel cs x h
  rcases DataW.trod_slice ht h with ⟨rfl, _⟩ | ⟨a, len, cap, elems, rest, n, _, rfl, _, _, hlc, hm, hlen, hel, _, _⟩
  · refine ⟨[], by simp, ?_, rfl⟩
    simp only [CRp, CR, List.map_nil, List.length_nil, and_true]
    exact ⟨none, 0, rfl, Nat.le_refl _, .inl trivial⟩
  · have each : ∀ i, i < len → ∃ cs' : List Value, w.cells? 0 (a.add (i * sz)) sz = some cs' ∧ ∃ b : α, ok b ∧ CRp (allD w) w.heap [] (enc b) cs' ∧ cs'.length = (enc b).length := by
      intro i hi
      have := hel i hi
      rw [hc] at this
      obtain ⟨y, hy⟩ : ∃ y, elems[i]? = some y := ⟨elems[i], by simp [hlen, hi]⟩
      rw [hy, Option.bind_eq_some_iff] at this
      obtain ⟨cs', h1, h2⟩ := this
      obtain ⟨b, hb⟩ := he H en w n cs' y h2
      exact ⟨cs', h1, b, hb⟩
    have hxs : ∀ k, k ≤ len → ∃ xs : List α, xs.length = k ∧ (∀ x ∈ xs, ok x) ∧ ∀ (i : Nat) (b : α), xs[i]? = some b → ∃ cs', w.cells? 0 (a.add (i * sz)) sz = some cs' ∧ CRp (allD w) w.heap [] (enc b) cs' := by
      intro k
      induction k with
      | zero => intro _; exact ⟨[], rfl, by simp, by simp⟩
      | succ k ih =>
        intro hk
        obtain ⟨xs, q1, q2, q3⟩ := ih (by omega)
        obtain ⟨cs', h1, b, hb1, hb2, _⟩ := each k (by omega)
        refine ⟨xs ++ [b], by simp [q1], ?_, ?_⟩
        · intro x hx
          rcases List.mem_append.1 hx with hx | hx
          · exact q2 x hx
          · simp at hx; subst hx; exact hb1
        · intro i b' hi
          rw [getElem?_app_one] at hi
          split at hi
          · exact q3 i b' hi
          · split at hi
            · rename_i heq
              simp at hi
              subst hi
              rw [heq, q1]
              exact ⟨cs', h1, hb2⟩
            · cases hi
    obtain ⟨xs, q1, q2, q3⟩ := hxs len (Nat.le_refl _)
    refine ⟨xs, ⟨?_, q2⟩, ?_, rfl⟩
    · rw [q1]; exact Nat.le_trans (Nat.le_trans hlc hm) (by decide)
    · simp only [CRp, CR, and_true]
      refine ⟨some a, cap, by simp [q1], by simpa [q1] using hlc, ?_⟩
      rcases Nat.eq_zero_or_pos len with hz | hz
      · left
        have : xs = [] := List.eq_nil_of_length_eq_zero (by omega)
        simp [this]
      · right
        obtain ⟨b0, hb0⟩ : ∃ b, xs[0]? = some b := ⟨xs[0], by simp [q1, hz]⟩
        obtain ⟨cs0, hc0, _⟩ := q3 0 b0 hb0
        have hcell0 := (World.cells?_some hc0).2.2 0 (by omega)
        have hl0 := (World.cells?_some hc0).1
        -- where the row lies
        obtain ⟨cells, tt, fr, hh, hs⟩ : ∃ cells tt fr, w.heap[a.block]? = some (.cells cells tt fr) ∧ a.spot = none := by
          have hv : ∃ v, w.cell? a = some v := by
            have h2 : a.add (0 * sz) = a := by simp [Addr.add]
            rw [h2] at hcell0
            have h3 : a.add 0 = a := by simp [Addr.add]
            rw [h3] at hcell0
            have : cs0[0]? ≠ none := by
              have h4 : cs0.length = sz := by
                have := World.cells?_some hc0
                first | exact this.1 | exact this.2.1
              rw [List.getElem?_eq_getElem (by omega)]; simp
            exact ⟨cs0[0]?.get (by cases hx : cs0[0]? with | none => exact absurd hx this | some v => rfl), by rw [hcell0]; simp⟩
          obtain ⟨v, hv⟩ := hv
          unfold World.cell? at hv
          split at hv
          · rename_i cells tt fr hh
            split at hv
            · cases hv
            · rename_i hsp
              exact ⟨cells, tt, fr, hh, by cases hq : a.spot with | none => rfl | some _ => rw [hq] at hsp; simp at hsp⟩
          · cases hv
        refine ⟨a, cells, tt, fr, sz, rfl, hs, (Array.getElem?_eq_some_iff.1 hh).1, hh, ?_⟩
        rw [CRr_iff]
        intro i r hi
        rw [List.getElem?_map] at hi
        cases hxi : xs[i]? with
        | none => rw [hxi] at hi; simp at hi
        | some b =>
          rw [hxi] at hi
          simp at hi
          subst hi
          obtain ⟨cs', hc', hr'⟩ := q3 i b hxi
          refine ⟨hl b, CRp.congr (fun j hj => ?_) hr'⟩
          rw [hl b] at hj
          have := (World.cells?_some hc').2.2 j hj
          rw [← this]
          have ha : (a.add (i * sz)).add j = ⟨a.block, a.off + i * sz + j, none⟩ := by rw [add_eq a _ hs, add_eq _ _ rfl]
          rw [ha, List.getElem?_drop]
          simp [World.cell?, hh, Nat.add_assoc]

/-- The fields of a struct, one by one. -/
def OpensF (P : Program) (fs : List (Nat × TypeId)) (off : Nat) {α : Type} (enc : α → List C) (ok : α → Prop) : Prop :=
  ∀ (H : Type) (en : TypeId × Value → H) (w : World) (fuel : Nat) (cs : List Value), (∀ f ∈ fs, ∃ x : DataW H × List MemPlace, DataW.trod en P w 0 (fun _ => true) true fuel f.2 ((cs.drop f.1).take (P.cellsOf f.2)) = some x) →
    ∃ a : α, ok a ∧ CRp (allD w) w.heap [] (enc a) (cs.drop off)

theorem opensF_nil {P : Program} {off : Nat} : OpensF P [] off (fun _ : Unit => []) (fun _ => True) := by
  intro H en w fuel cs _
  exact ⟨(), trivial, by simp [CRp]⟩

theorem opensF_cons {P : Program} {t : TypeId} {fs : List (Nat × TypeId)} {off off' : Nat} {α β : Type} {enc : α → List C} {enc' : β → List C} {ok : α → Prop} {ok' : β → Prop}
    (h1 : Opens P t enc ok) (hl : ∀ a, (enc a).length = off' - off) (hle : off ≤ off') (h2 : OpensF P fs off' enc' ok') : OpensF P ((off, t) :: fs) off (fun ab : α × β => enc ab.1 ++ enc' ab.2) (fun ab => ok ab.1 ∧ ok' ab.2) := by
  intro H en w fuel cs hf
  obtain ⟨x, hx⟩ := hf (off, t) (by simp)
  obtain ⟨a, ha, hr, hlen⟩ := h1 H en w fuel _ x hx
  obtain ⟨b, hb, hr'⟩ := h2 H en w fuel cs (fun f hf' => hf f (by simp [hf']))
  refine ⟨(a, b), ⟨ha, hb⟩, ?_⟩
  rw [CRp.app, hl a]
  refine ⟨?_, by rw [List.drop_drop, show off + (off' - off) = off' by omega]; exact hr'⟩
  have := CRp.more (r := (cs.drop off).drop (P.cellsOf t)) hr
  rwa [List.take_append_drop] at this

theorem opens_struct {P : Program} {t : TypeId} {fs : Array Field} {α : Type} {enc : α → List C} {ok : α → Prop} {sz : Nat} (ht : P.underlying t = some (.struct fs)) (hc : P.cellsOf t = sz) (hl : ∀ a, (enc a).length = sz)
    (h : OpensF P (fs.toList.map fun f => (f.offset, f.type)) 0 enc ok) : Opens P t enc ok := by
  intro H en w fuel cs x hx
  obtain ⟨xs, n, _, _, h1, h2, h3⟩ := DataW.trod_struct ht hx
  obtain ⟨a, ha, hr⟩ := h H en w n cs (fun f hf => by
    obtain ⟨g, hg, rfl⟩ := List.mem_map.1 hf
    obtain ⟨i, hi⟩ := List.getElem?_of_mem hg
    have hi' : fs[i]? = some g := by simpa using hi
    have := h3 i g hi'
    have hlt : i < xs.length := by rw [h2]; exact (Array.getElem?_eq_some_iff.1 hi').1
    exact ⟨xs[i], by rw [this]; simp [hlt]⟩)
  exact ⟨a, ha, by simpa using hr, by rw [h1, hc, hl a]⟩

section
open Go Go.ChangeShapes Go.WideShapes Go.ChangeAt Go.RowKit
theorem TIok.cellsOf {P : Program} {t : Nat} {ti : TI} (H : TIok P t ti) : P.cellsOf t = ti.size := by
  obtain ⟨i, z, hi, hs, _⟩ := H.info
  simp [Program.cellsOf, hi, hs]

section

variable {X : Pk} {t : Nat} {ti te : TI}

theorem xo_int (h : findTI X.L t = some ti) (hk : ti.kind = 4) (hik : ti.ik = .i64) : Opens X.P t (fun n : Int => [.int .i64 n]) (fun _ => True) := by
  have := (X.tiok h).int hk
  rw [hik] at this
  exact opens_int this

theorem xo_bool (h : findTI X.L t = some ti) (hk : ti.kind = 5) : Opens X.P t (fun n : Bool => [.bool n]) (fun _ => True) := opens_bool ((X.tiok h).bool hk)

theorem xo_str (h : findTI X.L t = some ti) (hk : ti.kind = 1) : Opens X.P t (fun s : Str => [.str s]) (fun s => s.length ≤ 9223372036854775807) := opens_str ((X.tiok h).string hk)

theorem xo_slice {α : Type} {enc : α → List C} {ok : α → Prop} (h : findTI X.L t = some ti) (hk : ti.kind = 2) (he : findTI X.L ti.elem = some te) (h0 : Nat.blt 0 te.size = true) (hl : ∀ a, (enc a).length = te.size) (hE : Opens X.P ti.elem enc ok) :
    Opens X.P t (fun xs : List α => [.fs (xs.map enc)]) (fun xs => xs.length ≤ 9223372036854775807 ∧ ∀ x ∈ xs, ok x) :=
  opens_slice ((X.tiok h).slice hk) (X.tiok he).cellsOf (by simpa [Nat.blt_eq] using h0) hl hE

theorem xo_struct {α : Type} {enc : α → List C} {ok : α → Prop} (h : findTI X.L t = some ti) (hk : ti.kind = 3) (hl : ∀ a, (enc a).length = ti.size) (hF : OpensF X.P ti.fields 0 enc ok) : Opens X.P t enc ok := by
  obtain ⟨fs, hu, hfs⟩ := (X.tiok h).struct hk
  exact opens_struct hu (X.tiok h).cellsOf hl (by rw [hfs]; exact hF)

end

theorem Opens.map {P : Program} {t : TypeId} {α β : Type} {enc : α → List C} {ok : α → Prop} {enc' : β → List C} {ok' : β → Prop} (h : Opens P t enc ok) (g : α → β) (he : ∀ a, enc' (g a) = enc a) (ho : ∀ a, ok a → ok' (g a)) : Opens P t enc' ok' := by
  intro H en w fuel cs x hx
  obtain ⟨a, h1, h2, h3⟩ := h H en w fuel cs x hx
  exact ⟨g a, ho a h1, by rw [he]; exact h2, by rw [he]; exact h3⟩

/-- A law's contract, zs a call from any memory. -/
theorem law_calls {X : Pk} {f : FuncId} {args : List T} {vals : Array Value} {w : World} (h : ACalls X f args [] (fun r o => r = .one (.bool true) ∧ o = [])) (hgl : GlobOk w []) (ha : TRs (allD w) w.heap [] args vals.toList) :
    Calls X.P f vals w fun e w' => e = .returned (.bool true) ∧ Below w.heap.size w w' := by
  have hsr : SR (allD w) w.heap [] [] := ⟨rfl, by simp, by simp, by simp, fun b hb => hb⟩
  refine (h.2 (allD w) [] w vals.toList hgl hsr ha (by simp)).mono ?_
  rintro en w' ⟨v, r, o', D', e', rfl, ⟨rfl, rfl⟩, htr, _, hext, _⟩
  simp only [TR, CR] at htr
  subst htr
  refine ⟨rfl, hext.os, hext.tape, hext.output, hext.size, fun k hk => hext.block k hk ?_⟩
  rintro ⟨id, a, esz, cap, n, he, _⟩
  simp at he
end

section
open Go Go.ChangeShapes
theorem agg_of_okWide {P : Program} {W : World} {r : Reach} {base : Nat} {t : TypeId} {v : Value} {fs : Array Field} (hu : P.underlying t = some (.struct fs)) (h : Value.okWide P W r base t v) : ∃ cs, v = .agg cs := by
  unfold Value.okWide at h
  rw [hu] at h
  obtain ⟨cs, h2, _⟩ := h
  exact ⟨cs, h2⟩
end

theorem asFl (f : Flat) : T.agg [C.fs (List.take f.places.length (List.drop 0 (f.places.map eI))), C.fs (List.take f.named.length (List.drop 0 (f.named.map eP)))] = T.agg (eF f) := by
  rw [takeAll eI _ _ rfl, takeAll eP _ _ rfl]; rfl

structure SmallS (s : Sig) : Prop where
  len : s.length ≤ 8
  names : ∀ p ∈ s, p.name.length ≤ 7

theorem OkS.small {s : Sig} (h : OkS s) : SmallS s := ⟨h.len, fun p hp => by have := h.nameLen hp; omega⟩

/-- Given by its place. -/
def byPl (pl : List Int) (i : Nat) (p : Param) : Bool := placedQ p && decide (i < pl.length)

def giveQ (s : Sig) (pl : List Int) (qs : List Pair) (i : Nat) (p : Param) : Slot :=
  if p.kind = 4 then ⟨false, [], qs.filter fun q => takesQ s q.name == (i : Int)⟩
  else if namedQ p && !byPl pl i p then (match qs.find? (nameIs p.name) with
    | some q => ⟨true, [q.value], []⟩
    | none => zL)
  else place1 (placesQ s) pl i p

def wrongQ (s : Sig) (pl : List Int) (q : Pair) : Option Problem :=
  if takesQ s q.name < 0 then some ⟨1, q.name⟩ else
  match s[(takesQ s q.name).toNat]? with
  | some p => if p.kind = 4 then none else if byPl pl (takesQ s q.name).toNat p then some ⟨2, q.name⟩ else none
  | none => none

def closedQ (s : Sig) (pl : List Int) (qs : List Pair) : Bnds × List Problem := (s.mapIdx (giveQ s pl qs), manyQ s pl ++ qs.filterMap (wrongQ s pl))

theorem giveQ_nil {s : Sig} (pl : List Int) (i : Nat) (p : Param) : giveQ s pl [] i p = place1 (placesQ s) pl i p := by
  unfold giveQ
  by_cases h4 : p.kind = 4
  · rw [if_pos h4]
    have : placedQ p = false := by
      cases h : placedQ p with
      | false => rfl
      | true => rw [placed_kind] at h; omega
    unfold place1
    simp [this, h4, zL]
  · rw [if_neg h4]
    split
    · rename_i h
      simp only [Bool.and_eq_true, Bool.not_eq_true'] at h
      have hk := named_kind.1 h.1
      unfold place1
      unfold byPl at h
      rw [h.2]
      have : (p.kind == 2) = false := by simp; omega
      simp [this]
    · rfl

theorem closed_nil (s : Sig) (pl : List Int) : closedQ s pl [] = (phase1 s pl, manyQ s pl) := by
  simp only [closedQ, phase1, List.filterMap_nil, List.append_nil]
  congr 1
  apply List.ext_getElem?
  intro i
  rw [List.getElem?_mapIdx, List.getElem?_mapIdx]
  cases s[i]? with
  | none => rfl
  | some p => simp only [Option.map_some, giveQ_nil]

theorem takes_named {s : Sig} (hs : OkS s) {i : Nat} {p : Param} (hp : s[i]? = some p) (hn : namedQ p = true) : takesQ s p.name = (i : Int) := by
  have hq : ∀ j q, s[j]? = some q → q.name = p.name → j = i := fun j q hj hqn => by
    have hnd := hs.nodup
    rw [List.nodup_iff_pairwise_ne, List.pairwise_iff_getElem] at hnd
    have hi := lt_of_some hp
    have hjl := lt_of_some hj
    rw [List.getElem?_eq_getElem hi] at hp
    rw [List.getElem?_eq_getElem hjl] at hj
    simp only [Option.some.injEq] at hp hj
    rcases Nat.lt_trichotomy j i with h | h | h
    · exact absurd (by rw [List.getElem_map, List.getElem_map, hp, hj, hqn]) (hnd j i (by simpa using hjl) (by simpa using hi) h)
    · exact h
    · exact absurd (by rw [List.getElem_map, List.getElem_map, hp, hj, hqn]) (hnd i j (by simpa using hi) (by simpa using hjl) h)
  have hany : s.any (qIs p.name) = true := by rw [List.any_eq_true]; exact ⟨p, List.mem_of_getElem? hp, by simp [qIs]⟩
  obtain ⟨q, hf, hqi, hqn, hlt⟩ := idxI_find (idxI_ge (i := 0).2 hany)
  have hqn' : q.name = p.name := by simpa [qIs] using hqn
  have hix := hq _ q hqi hqn'
  have hpq : q = p := by rw [hix, hp] at hqi; exact (Option.some.inj hqi).symm
  have h0 := idxI_ge (i := 0).2 hany
  unfold takesQ
  rw [hf]
  simp only [hpq, hn, if_true]
  omega

theorem find_snoc {qs : List Pair} {q : Pair} {n : Str} : (qs ++ [q]).find? (nameIs n) = (match qs.find? (nameIs n) with
    | some x => some x
    | none => if q.name = n then some q else none) := by
  rw [List.find?_append]
  cases qs.find? (nameIs n) with
  | some x => rfl
  | none =>
    simp only [Option.none_or, List.find?_cons, List.find?_nil, nameIs]
    by_cases h : q.name = n
    · simp [h]
    · have : (q.name == n) = false := by simpa using h
      simp [h, this]

theorem find_none {qs : List Pair} {n : Str} (h : n ∉ namesOf qs) : qs.find? (nameIs n) = none := by
  rw [List.find?_eq_none]
  intro x hx hxn
  exact h (by simp only [nameIs, beq_iff_eq] at hxn; rw [← hxn]; exact List.mem_map_of_mem hx)

theorem closed_step {s : Sig} (hs : OkS s) {pl : List Int} {qs : List Pair} {q : Pair} (hq : q.name ∉ namesOf qs) : stepB s (closedQ s pl qs) q = closedQ s pl (qs ++ [q]) := by
  by_cases hneg : takesQ s q.name < 0
  · rw [stepB_neg hneg]
    simp only [closedQ, List.filterMap_append, List.filterMap_cons, List.filterMap_nil, wrongQ, hneg, if_true, List.append_assoc]
    congr 1
    apply List.ext_getElem?
    intro i
    simp only [List.getElem?_mapIdx]
    cases hp : s[i]? with
    | none => rfl
    | some p =>
      simp only [Option.map_some, Option.some.injEq, giveQ]
      split
      · have : (takesQ s q.name == (i : Int)) = false := by simp; omega
        simp [this]
      · split
        · rename_i h4 hn
          simp only [Bool.and_eq_true] at hn
          have ht := takes_named hs hp hn.1
          rw [find_snoc]
          have hne : q.name ≠ p.name := fun h0 => by rw [h0, ht] at hneg; omega
          rw [if_neg hne]
          cases qs.find? (nameIs p.name) <;> rfl
        · rfl
  · obtain ⟨p, hp, hlt, hk⟩ := takesQ_some hneg
    have hat : takesQ s q.name = ((takesQ s q.name).toNat : Nat) := by omega
    generalize hj : (takesQ s q.name).toNat = j at hp hat
    have hx : (closedQ s pl qs).1[j]? = some (giveQ s pl qs j p) := by simp [closedQ, hp]
    have hother : ∀ (i : Nat) (r : Param), s[i]? = some r → i ≠ j → giveQ s pl (qs ++ [q]) i r = giveQ s pl qs i r := fun i r hr hij => by
      simp only [giveQ]
      split
      · have : (takesQ s q.name == (i : Int)) = false := by rw [hat]; simp; omega
        simp [this]
      · split
        · rename_i h4 hn
          simp only [Bool.and_eq_true] at hn
          have ht := takes_named hs hr hn.1
          rw [find_snoc]
          have hne : q.name ≠ r.name := fun h0 => by rw [h0, ht] at hat; omega
          rw [if_neg hne]
          cases qs.find? (nameIs r.name) <;> rfl
        · rfl
    have hset : ∀ y : Slot, giveQ s pl (qs ++ [q]) j p = y → (closedQ s pl qs).1.set j y = (closedQ s pl (qs ++ [q])).1 := fun y hy => by
      apply List.ext_getElem?
      intro i
      simp only [closedQ, List.getElem?_set, List.getElem?_mapIdx, List.length_mapIdx]
      by_cases hij : j = i
      · subst hij; rw [if_pos rfl, if_pos (lt_of_some hp), hp]; simp [hy]
      · rw [if_neg hij]
        cases hr : s[i]? with
        | none => rfl
        | some r => simp [hother i r hr (fun h => hij h.symm)]
    have hwr : ∀ w : Option Problem, wrongQ s pl q = w → (closedQ s pl (qs ++ [q])).2 = (closedQ s pl qs).2 ++ w.toList := fun w hw => by
      simp only [closedQ, List.filterMap_append, List.append_assoc]
      congr 1
      congr 1
      cases w <;> simp [List.filterMap_cons, hw]
    by_cases h4 : p.kind = 4
    · rw [stepB_map hat hp hx h4]
      have hw : wrongQ s pl q = none := by simp [wrongQ, hneg, hj, hp, h4]
      have h1 := hwr none hw
      refine Prod.ext (hset _ ?_) (by rw [h1]; simp)
      simp [giveQ, h4, hat]
    · have hn : namedQ p = true ∧ p.name = q.name := by
        rcases hk with h | h
        · exact h
        · exact absurd h h4
      have hnf : qs.find? (nameIs p.name) = none := by rw [hn.2]; exact find_none hq
      by_cases hb : byPl pl j p = true
      · have hg : (giveQ s pl qs j p).given = true := by
          unfold byPl at hb
          simp only [giveQ, h4, if_false, hn.1, byPl, hb, Bool.not_true, Bool.and_false, Bool.false_eq_true, place1, if_true]
        rw [stepB_twice hat hp hx h4 hg]
        have hw : wrongQ s pl q = some ⟨2, q.name⟩ := by simp [wrongQ, hneg, hj, hp, h4, hb]
        have h1 := hwr _ hw
        refine Prod.ext ?_ (by rw [h1]; rfl)
        have h2 := hset (giveQ s pl qs j p) (by simp only [giveQ, h4, if_false, hn.1, hb, Bool.not_true, Bool.and_false, Bool.false_eq_true])
        rw [set_same hx] at h2
        exact h2
      · have hb' : byPl pl j p = false := by simpa using hb
        have hg : (giveQ s pl qs j p).given = false := by
          simp only [giveQ, h4, if_false, hn.1, hb', Bool.not_false, Bool.and_self, if_true, hnf, zL]
        rw [stepB_set hat hp hx h4 hg]
        have hw : wrongQ s pl q = none := by simp [wrongQ, hneg, hj, hp, h4, hb']
        have h1 := hwr none hw
        refine Prod.ext (hset _ ?_) (by rw [h1]; simp)
        rw [hn.2] at hnf
        simp only [giveQ, h4, if_false, hn.1, hb', Bool.not_false, Bool.and_self, if_true, find_snoc, hnf, hn.2]

theorem closed_fold {s : Sig} (hs : OkS s) {pl : List Int} : ∀ (rs qs : List Pair), (namesOf (qs ++ rs)).Nodup → rs.foldl (stepB s) (closedQ s pl qs) = closedQ s pl (qs ++ rs)
  | [], qs, _ => by simp
  | r :: rs, qs, h => by
    have hr : r.name ∉ namesOf qs := by
      intro h0
      simp only [namesOf, List.map_append, List.map_cons] at h h0
      exact (List.nodup_append.1 h).2.2 _ h0 _ (List.mem_cons_self ..) rfl
    rw [List.foldl_cons, closed_step hs hr, closed_fold hs rs (qs ++ [r]) (by simpa using h)]
    simp

/-- What a call gives. -/
theorem bound_closed {s : Sig} (hs : OkS s) {f : Flat} (hf : (namesOf f.named).Nodup) : boundQ s f = closedQ s f.places f.named := by
  rw [boundQ, ← closed_nil, closed_fold hs f.named [] (by simpa using hf)]
  simp

def atP (f : Flat) (q : Param) : Bool := q.kind == 1 && f.named.any (nameIs q.name)

def atQ (s : Sig) (f : Flat) : Int := idxI (atP f) s 0

def giveP (f : Flat) (q : Param) : Param := if namedQ q then (match f.named.find? (nameIs q.name) with
  | some r => ⟨q.name, q.kind, true, r.value⟩
  | none => q) else q

def kindP (b : Bool) (q : Param) : Param := if q.kind == 1 && b then ⟨q.name, 3, q.hasD, q.dflt⟩ else q

def skipP (at' : Int) (f : Flat) (i : Nat) (q : Param) : Bool := (placedQ q && decide (i < f.places.length)) || (q.kind == 2 && decide (0 ≤ at'))

def partParam (at' : Int) (f : Flat) (i : Nat) (q : Param) : Option Param :=
  if skipP at' f i q then none else some (giveP f (kindP (decide (0 ≤ at') && decide (at' ≤ i)) q))

def psL (at' : Int) (f : Flat) (s : Sig) : Sig := s.zipIdx.filterMap fun x => partParam at' f x.2 x.1

theorem psL_succ {at' : Int} {f : Flat} {s : Sig} {i : Nat} {q : Param} (hq : s[i]? = some q) : psL at' f (s.take (i + 1)) = psL at' f (s.take i) ++ (partParam at' f i q).toList := by
  have hl : (s.take i).length = i := by have := lt_of_some hq; simp; omega
  unfold psL
  rw [← take_snoc hq, List.zipIdx_append, List.filterMap_append, hl]
  simp [List.filterMap_cons]
  cases partParam at' f i q <;> rfl

theorem partParam_name {at' : Int} {f : Flat} {i : Nat} {q r : Param} (h : partParam at' f i q = some r) : r.name = q.name := by
  unfold partParam at h
  split at h
  · cases h
  · simp only [Option.some.injEq] at h
    rw [← h]
    unfold giveP kindP
    split <;> split <;> (try split) <;> rfl

theorem pair_at {f : Flat} {n : Str} (h : 0 ≤ pairIx f.named n) : ∃ r, f.named.find? (nameIs n) = some r ∧ f.named[(pairIx f.named n).toNat]? = some r ∧ pairIx f.named n < f.named.length := by
  obtain ⟨r, h1, h2, _, h3⟩ := idxI_find h
  exact ⟨r, h1, h2, h3⟩

theorem idxI_le {α : Type} {pred : α → Bool} : ∀ {xs : List α} {k i : Nat} {x : α}, xs[i]? = some x → pred x = true → 0 ≤ idxI pred xs k ∧ idxI pred xs k ≤ ((k + i : Nat) : Int)
  | y :: xs, k, 0, x, hx, hp => by
    simp at hx; subst hx
    simp [idxI, hp]
  | y :: xs, k, i + 1, x, hx, hp => by
    simp only [List.getElem?_cons_succ] at hx
    have := idxI_le (k := k + 1) hx hp
    unfold idxI
    split
    · omega
    · omega

theorem part_np {s : Sig} {f : Flat} (h : partQ s f = true) {i : Nat} {x : Param} (hx : s[i]? = some x) (hp : placedQ x = true) (hi : i < f.places.length) (hn : namedQ x = true) : f.named.any (nameIs x.name) = false := by
  simp only [partQ, Bool.and_eq_true, decide_eq_true_eq] at h
  obtain ⟨h1, h2⟩ := h
  obtain ⟨hs, hf⟩ := fitQ_iff.1 h1
  have hnd : (namesOf f.named).Nodup := by
    have := okFlat_iff.2 hf
    simp [okFlat] at this; exact this.1.1.1.2
  rw [bound_closed hs hnd] at h2
  simp only [closedQ, List.append_eq_nil_iff, List.filterMap_eq_nil_iff] at h2
  cases ha : f.named.any (nameIs x.name) with
  | false => rfl
  | true =>
    rw [List.any_eq_true] at ha
    obtain ⟨q, hq, hqn⟩ := ha
    simp only [nameIs, beq_iff_eq] at hqn
    have hw := h2.2 q hq
    have ht := takes_named hs hx hn
    rw [← hqn] at ht
    have hk := placed_kind.1 hp
    have hb : byPl f.places i x = true := by simp [byPl, hp, hi]
    unfold wrongQ at hw
    rw [ht] at hw
    simp only [Int.toNat_natCast, hx] at hw
    rw [if_neg (by omega), if_neg (by omega), if_pos hb] at hw
    cases hw

theorem np_at {s : Sig} {f : Flat} (h : partQ s f = true) {i : Nat} {x : Param} (hx : s[i]? = some x) (hp : placedQ x = true) (hi : i < f.places.length) : atP f x = false := by
  unfold atP
  cases hk : x.kind == 1 with
  | false => rfl
  | true =>
    rw [part_np h hx hp hi (by simp at hk; simp [namedQ, hk])]; rfl

def psQ (s : Sig) (f : Flat) : Sig := psL (atQ s f) f s

theorem acc_iff {s : Sig} {f : Flat} (hs : OkS s) (hf : OkF f) : accQ s f = true ↔
    (placesQ s < f.places.length → s.any (kIs 2) = true) ∧ (∀ q ∈ f.named, wrongQ s f.places q = none) ∧ missingQ s (s.mapIdx (giveQ s f.places f.named)) = [] := by
  have hb := bound_closed hs hf.nodup
  unfold accQ bindQ
  rw [hb]
  simp only [closedQ, decide_eq_true_eq, List.append_eq_nil_iff, List.filterMap_eq_nil_iff, and_assoc]
  have hm : manyQ s f.places = [] ↔ (placesQ s < f.places.length → s.any (kIs 2) = true) := by
    unfold manyQ
    split
    · rename_i h
      simp only [Bool.and_eq_true, decide_eq_true_eq, Bool.not_eq_true'] at h
      constructor
      · intro h0; cases h0
      · intro h0; rw [h0 h.1] at h; cases h.2
    · rename_i h
      simp only [true_iff]
      intro h0
      cases ha : s.any (kIs 2) with
      | true => rfl
      | false => exact absurd (by simp [h0, ha]) h
  rw [hm]

theorem give_given {s : Sig} {pl : List Int} {qs : List Pair} {i : Nat} {p : Param} (h : singleQ p = true) :
    (giveQ s pl qs i p).given = (byPl pl i p || (namedQ p && qs.any (nameIs p.name))) := by
  rw [single_kind] at h
  have hf : (qs.find? (nameIs p.name)).isSome = qs.any (nameIs p.name) := by
    cases ha : qs.any (nameIs p.name) with
    | true =>
      rw [List.find?_isSome]
      exact List.any_eq_true.1 ha
    | false =>
      cases hq : qs.find? (nameIs p.name) with
      | none => rfl
      | some q =>
        have h1 := List.mem_of_find?_eq_some hq
        have h2 := List.find?_some hq
        have : qs.any (nameIs p.name) = true := List.any_eq_true.2 ⟨q, h1, h2⟩
        rw [this] at ha; cases ha
  unfold giveQ
  rw [if_neg (by omega)]
  cases hb : byPl pl i p with
  | true =>
    simp only [Bool.not_true, Bool.and_false, Bool.true_or]
    unfold byPl at hb
    simp [place1, hb]
  | false =>
    cases hn : namedQ p with
    | true =>
      simp only [Bool.not_false, Bool.and_self, if_true, Bool.false_or, Bool.true_and]
      rw [← hf]
      cases qs.find? (nameIs p.name) <;> rfl
    | false =>
      simp only [Bool.false_and, Bool.false_or]
      unfold byPl at hb
      have h2 : (p.kind == 2) = false := by simp; omega
      simp [place1, hb, h2, zL]

/-- What is lacking, parameter by parameter. -/
theorem lack_iff {s : Sig} {pl : List Int} {qs : List Pair} : missingQ s (s.mapIdx (giveQ s pl qs)) = [] ↔
    ∀ (i : Nat) (p : Param), s[i]? = some p → singleQ p = true → p.hasD = true ∨ byPl pl i p = true ∨ (namedQ p = true ∧ qs.any (nameIs p.name) = true) := by
  unfold missingQ
  rw [List.filterMap_eq_nil_iff]
  constructor
  · intro h i p hp hsg
    have hz : (p, giveQ s pl qs i p) ∈ s.zip (s.mapIdx (giveQ s pl qs)) := List.mem_of_getElem? (i := i) (by
      rw [List.getElem?_zip_eq_some]; exact ⟨hp, by simp [List.getElem?_mapIdx, hp]⟩)
    have h1 := h _ hz
    unfold lackQ at h1
    simp only [give_given hsg, hsg, Bool.true_and] at h1
    split at h1
    · cases h1
    · rename_i h2
      cases hd : p.hasD with
      | true => exact .inl rfl
      | false =>
        right
        rw [hd] at h2
        simp only [Bool.not_false, Bool.true_and, Bool.not_eq_true', Bool.not_eq_false] at h2
        simpa using h2
  · intro h z hz
    obtain ⟨i, hi⟩ := List.getElem?_of_mem hz
    rw [List.getElem?_zip_eq_some] at hi
    obtain ⟨h1, h2⟩ := hi
    rw [List.getElem?_mapIdx, h1] at h2
    simp only [Option.map_some, Option.some.injEq] at h2
    unfold lackQ
    split
    · rename_i h3
      simp only [Bool.and_eq_true, Bool.not_eq_true'] at h3
      have h4 := h i z.1 h1 h3.1.1
      rw [← h2, give_given h3.1.1] at h3
      rcases h4 with h4 | h4 | ⟨h4, h5⟩
      · rw [h4] at h3; cases h3.1.2
      · rw [h4] at h3; cases h3.2
      · rw [h4, h5] at h3; simp at h3
    · rfl

/-- What is wrong with a name. -/
theorem wrong_iff {s : Sig} {pl : List Int} {q : Pair} : wrongQ s pl q = none ↔
    0 ≤ takesQ s q.name ∧ ∀ p, s[(takesQ s q.name).toNat]? = some p → p.kind ≠ 4 → byPl pl (takesQ s q.name).toNat p = false := by
  unfold wrongQ
  constructor
  · intro h
    split at h
    · cases h
    · rename_i h1
      refine ⟨by omega, fun p hp hk => ?_⟩
      rw [hp] at h
      simp only at h
      rw [if_neg hk] at h
      cases hb : byPl pl (takesQ s q.name).toNat p with
      | false => rfl
      | true => rw [if_pos hb] at h; cases h
  · rintro ⟨h1, h2⟩
    rw [if_neg (by omega)]
    cases hp : s[(takesQ s q.name).toNat]? with
    | none => rfl
    | some p =>
      simp only
      by_cases hk : p.kind = 4
      · rw [if_pos hk]
      · rw [if_neg hk, if_neg (by rw [h2 p hp hk]; simp)]

theorem place1_small (np : Nat) (pl : List Int) (i : Nat) (p : Param) (h : pl.length ≤ 8) : (place1 np pl i p).list.length ≤ 8 ∧ (place1 np pl i p).pairs.length ≤ 8 := by
  unfold place1
  split
  · simp
  · split
    · simp; omega
    · simp [zL]

theorem bind_small (s : Sig) (f : Flat) : (BindQ s f).1.length ≤ 8 ∧ ∀ x ∈ (BindQ s f).1, x.list.length ≤ 8 ∧ x.pairs.length ≤ 8 := by
  unfold BindQ
  split
  · rename_i h
    simp only [Bool.and_eq_true] at h
    obtain ⟨hs, hf⟩ := fitQ_iff.1 h.1
    have h1 := hf.places
    have h2 := hf.named
    rw [bound_closed hs hf.nodup]
    refine ⟨by simp only [closedQ, List.length_mapIdx]; exact hs.len, fun x hx => ?_⟩
    simp only [closedQ, List.mem_mapIdx] at hx
    obtain ⟨i, hi, rfl⟩ := hx
    unfold giveQ
    split
    · have := List.length_filter_le (fun q : Pair => takesQ s q.name == (i : Int)) f.named
      simp; omega
    · split
      · split <;> simp [zL]
      · exact place1_small _ _ _ _ h1
  · simp

theorem name_inj {s : Sig} (hs : OkS s) {i j : Nat} {p q : Param} (hp : s[i]? = some p) (hq : s[j]? = some q) (h : p.name = q.name) : i = j := by
  refine (List.getElem?_inj (l := s.map Param.name) (by have := lt_of_some hp; simpa using this) hs.nodup).1 ?_
  rw [List.getElem?_map, List.getElem?_map, hp, hq]
  simp [h]

theorem any_names {qs : List Pair} {n : Str} : qs.any (nameIs n) = true ↔ n ∈ namesOf qs := by
  simp [namesOf, nameIs]

/-- Where a name goes. -/
def goesQ (s : Sig) (n : Str) : Prop := (∃ (i : Nat) (p : Param), s[i]? = some p ∧ namedQ p = true ∧ p.name = n) ∨ ∃ p ∈ s, p.kind = 4

theorem takes_goes {s : Sig} (hs : OkS s) {n : Str} : 0 ≤ takesQ s n ↔ goesQ s n := by
  constructor
  · intro h
    obtain ⟨p, hp, _, hk⟩ := takesQ_some (show ¬ takesQ s n < 0 by omega)
    rcases hk with ⟨h1, h2⟩ | h1
    · exact .inl ⟨_, p, hp, h1, h2⟩
    · exact .inr ⟨p, List.mem_of_getElem? hp, h1⟩
  · intro h
    by_cases hA : ∃ (i : Nat) (p : Param), s[i]? = some p ∧ namedQ p = true ∧ p.name = n
    · obtain ⟨i, p, hp, hn, rfl⟩ := hA
      rw [takes_named hs hp hn]; omega
    · rcases h with h | ⟨p, hp, hk⟩
      · exact absurd h hA
      · have h4 : takesQ s n = idxI (kIs 4) s 0 := by
          cases hf : s.find? (qIs n) with
          | none => simp [takesQ, hf]
          | some q =>
            cases hn : namedQ q with
            | false => simp [takesQ, hf, hn]
            | true =>
              have h1 := List.mem_of_find?_eq_some hf
              have h2 := List.find?_some hf
              obtain ⟨i, hi⟩ := List.getElem?_of_mem h1
              exact absurd ⟨i, q, hi, hn, by simpa [qIs] using h2⟩ hA
        rw [h4]
        exact idxI_ge.2 (List.any_eq_true.2 ⟨p, hp, by simpa [kIs] using hk⟩)

theorem wrong_iff2 {s : Sig} (hs : OkS s) {pl : List Int} {q : Pair} : wrongQ s pl q = none ↔
    goesQ s q.name ∧ ∀ (i : Nat) (p : Param), s[i]? = some p → namedQ p = true → p.name = q.name → byPl pl i p = false := by
  rw [wrong_iff, takes_goes hs]
  constructor
  · rintro ⟨h1, h2⟩
    refine ⟨h1, fun i p hp hn he => ?_⟩
    have ht := takes_named hs hp hn
    rw [he] at ht
    have := h2 p (by rw [ht]; simpa using hp) (by have := named_kind.1 hn; omega)
    rw [ht] at this
    simpa using this
  · rintro ⟨h1, h2⟩
    refine ⟨h1, fun p hp hk => ?_⟩
    obtain ⟨p', hp', _, hk'⟩ := takesQ_some (show ¬ takesQ s q.name < 0 by have := (takes_goes hs).2 h1; omega)
    rw [hp] at hp'
    cases hp'
    rcases hk' with ⟨h3, h4⟩ | h3
    · exact h2 _ p hp h3 h4
    · exact absurd h3 hk

theorem find_isSome {f : Flat} {n : Str} : (f.named.find? (nameIs n)).isSome = f.named.any (nameIs n) := by
  cases ha : f.named.any (nameIs n) with
  | true => rw [List.find?_isSome]; exact List.any_eq_true.1 ha
  | false =>
    cases hq : f.named.find? (nameIs n) with
    | none => rfl
    | some q =>
      have : f.named.any (nameIs n) = true := List.any_eq_true.2 ⟨q, List.mem_of_find?_eq_some hq, List.find?_some hq⟩
      rw [this] at ha; cases ha

theorem kindP_facts (b : Bool) (q : Param) : (kindP b q).name = q.name ∧ (kindP b q).kind = (if q.kind = 1 ∧ b = true then 3 else q.kind) ∧ (kindP b q).hasD = q.hasD ∧ namedQ (kindP b q) = namedQ q := by
  unfold kindP namedQ
  by_cases h1 : q.kind = 1
  · cases b <;> simp [h1]
  · simp [h1]

theorem giveP_facts (f : Flat) (q : Param) : (giveP f q).name = q.name ∧ (giveP f q).kind = q.kind ∧ (giveP f q).hasD = (q.hasD || (namedQ q && f.named.any (nameIs q.name))) := by
  unfold giveP
  rw [← find_isSome]
  cases hn : namedQ q with
  | false => simp
  | true =>
    simp only [if_true]
    cases f.named.find? (nameIs q.name) <;> simp

/-- What becomes of a parameter. -/
structure KeptQ (k : Int) (f : Flat) (i : Nat) (p p' : Param) : Prop where
  name : p'.name = p.name
  kind : p'.kind = if p.kind = 1 ∧ 0 ≤ k ∧ k ≤ i then 3 else p.kind
  hasD : p'.hasD = (p.hasD || (namedQ p && f.named.any (nameIs p.name)))
  place : ¬ (placedQ p = true ∧ i < f.places.length)
  rest : ¬ (p.kind = 2 ∧ 0 ≤ k)

theorem partParam_facts {k : Int} {f : Flat} {i : Nat} {p p' : Param} (h : partParam k f i p = some p') : KeptQ k f i p p' := by
  have hn := partParam_name h
  unfold partParam at h
  split at h
  · cases h
  · rename_i hs
    simp only [Option.some.injEq] at h
    obtain ⟨a1, a2, a3, a4⟩ := kindP_facts (decide (0 ≤ k) && decide (k ≤ i)) p
    obtain ⟨b1, b2, b3⟩ := giveP_facts f (kindP (decide (0 ≤ k) && decide (k ≤ i)) p)
    rw [h] at b1 b2 b3
    refine ⟨hn, ?_, ?_, ?_, ?_⟩
    · rw [b2, a2]; simp
    · rw [b3, a3, a4, a1]
    · rintro ⟨h1, h2⟩; exact hs (by simp [skipP, h1, h2])
    · rintro ⟨h1, h2⟩; exact hs (by simp [skipP, h1, h2])

theorem partParam_keep {k : Int} {f : Flat} {i : Nat} {p : Param} (h1 : ¬ (placedQ p = true ∧ i < f.places.length)) (h2 : ¬ (p.kind = 2 ∧ 0 ≤ k)) : ∃ p', partParam k f i p = some p' := by
  unfold partParam
  rw [if_neg]
  · exact ⟨_, rfl⟩
  · unfold skipP
    simp only [Bool.or_eq_true, Bool.and_eq_true, decide_eq_true_eq, beq_iff_eq]
    rintro (h | h)
    · exact h1 h
    · exact h2 h

theorem psL_split {k : Int} {f : Flat} {s : Sig} (i : Nat) : ∃ r, psL k f s = psL k f (s.take i) ++ r := by
  refine ⟨((s.drop i).zipIdx (0 + (s.take i).length)).filterMap (fun x => partParam k f x.2 x.1), ?_⟩
  conv => lhs; rw [← List.take_append_drop i s]
  unfold psL
  rw [List.zipIdx_append, List.filterMap_append]

/-- The facts of a partial call's signature. -/
structure PsFacts (s : Sig) (pf : Flat) : Prop where
  sig : OkS s
  flat : OkF pf
  out : OkS (psQ s pf)
  part : partQ s pf = true

theorem PsFacts.first {s : Sig} {pf : Flat} (h : PsFacts s pf) (h0 : 0 ≤ atQ s pf) : ∃ (n : Nat) (y : Param), atQ s pf = n ∧ s[n]? = some y ∧ y.kind = 1 ∧ pf.named.any (nameIs y.name) = true ∧ pf.places.length ≤ n := by
  obtain ⟨y, _, hy, hyp, hlt⟩ := idxI_find h0
  have hk := hyp
  simp only [atP, Bool.and_eq_true, beq_iff_eq] at hk
  refine ⟨(atQ s pf).toNat, y, by omega, hy, hk.1, hk.2, ?_⟩
  refine Classical.byContradiction fun hc => ?_
  have := np_at h.part hy (placed_kind.2 (.inr hk.1)) (by unfold atQ at hc; omega)
  rw [hyp] at this; cases this

theorem PsFacts.from {s : Sig} {pf : Flat} (h : PsFacts s pf) {i : Nat} {p : Param} (hp : s[i]? = some p) (hk : p.kind = 1) (hn : pf.named.any (nameIs p.name) = true) : 0 ≤ atQ s pf ∧ atQ s pf ≤ i := by
  have := idxI_le (k := 0) (pred := atP pf) hp (by simp [atP, hk, hn])
  unfold atQ; omega

theorem PsFacts.kinds {s : Sig} {pf : Flat} (h : PsFacts s pf) {i : Nat} {p : Param} (hp : s[i]? = some p) (h0 : 0 ≤ atQ s pf) (h1 : atQ s pf ≤ i) (hk : placedQ p = true) : p.kind = 1 := by
  obtain ⟨n, y, hn, hy, hyk, _, _⟩ := h.first h0
  have := h.sig.sorted (i - n) n y p hy (by rw [show n + (i - n) = i by omega]; exact hp)
  rw [placed_kind] at hk; omega

theorem KeptQ.placed {s : Sig} {pf : Flat} (h : PsFacts s pf) {i : Nat} {p p' : Param} (hp : s[i]? = some p) (hk : KeptQ (atQ s pf) pf i p p') : placedQ p' = true ↔ placedQ p = true ∧ ¬ (0 ≤ atQ s pf ∧ atQ s pf ≤ i) := by
  have h1 := hk.kind
  constructor
  · intro h2
    rw [placed_kind] at h2
    split at h1
    · omega
    · rename_i h3
      have hpp : placedQ p = true := placed_kind.2 (by omega)
      refine ⟨hpp, fun h4 => h3 ⟨h.kinds hp h4.1 h4.2 hpp, h4⟩⟩
  · rintro ⟨h2, h3⟩
    rw [placed_kind] at h2 ⊢
    rw [if_neg (fun h4 => h3 h4.2)] at h1
    omega

theorem KeptQ.named {k : Int} {pf : Flat} {i : Nat} {p p' : Param} (hk : KeptQ k pf i p p') : namedQ p' = namedQ p := by
  have h1 := hk.kind
  have : namedQ p' = true ↔ namedQ p = true := by
    rw [named_kind, named_kind]
    split at h1 <;> omega
  cases h : namedQ p with
  | true => exact this.2 h
  | false =>
    cases h' : namedQ p' with
    | false => rfl
    | true => rw [this.1 h'] at h; cases h

theorem PsFacts.len {s : Sig} {pf : Flat} (h : PsFacts s pf) : ∀ (i : Nat), i ≤ placesQ s → (psL (atQ s pf) pf (s.take i)).length = i - pf.places.length
  | 0, _ => by simp [psL]
  | i + 1, hi => by
    have hP := placesQ_le s
    obtain ⟨p, hp⟩ := at_some (xs := s) (i := i) (by omega)
    have hpl := (h.sig.placed_iff hp).2 (by omega)
    rw [psL_succ hp, List.length_append, PsFacts.len h i (by omega)]
    by_cases hia : i < pf.places.length
    · have : partParam (atQ s pf) pf i p = none := by simp [partParam, skipP, hpl, hia]
      rw [this]; simp; omega
    · obtain ⟨p', hp'⟩ := partParam_keep (k := atQ s pf) (f := pf) (i := i) (p := p) (by omega) (by rw [placed_kind] at hpl; omega)
      rw [hp']; simp; omega

/-- Where a parameter goes. -/
theorem PsFacts.to {s : Sig} {pf : Flat} (h : PsFacts s pf) {i : Nat} {p : Param} (hp : s[i]? = some p) (h1 : ¬ (placedQ p = true ∧ i < pf.places.length)) (h2 : ¬ (p.kind = 2 ∧ 0 ≤ atQ s pf)) :
    ∃ (j : Nat) (p' : Param), (psQ s pf)[j]? = some p' ∧ KeptQ (atQ s pf) pf i p p' ∧ (placedQ p' = true → j + pf.places.length = i) := by
  obtain ⟨p', hp'⟩ := partParam_keep (f := pf) h1 h2
  have hk := partParam_facts hp'
  obtain ⟨r, hr⟩ := psL_split (k := atQ s pf) (f := pf) (s := s) (i + 1)
  rw [psL_succ hp, hp'] at hr
  refine ⟨(psL (atQ s pf) pf (s.take i)).length, p', ?_, hk, fun hpl => ?_⟩
  · unfold psQ
    rw [hr, List.append_assoc, List.getElem?_append_right (by omega)]
    simp
  · have hpp := ((hk.placed h hp).1 hpl).1
    have hi := (h.sig.placed_iff hp).1 hpp
    rw [h.len i (by omega)]
    have := hk.place
    have : ¬ i < pf.places.length := fun h0 => this ⟨hpp, h0⟩
    omega

/-- Where a parameter comes from. -/
theorem PsFacts.of {s : Sig} {pf : Flat} (h : PsFacts s pf) {j : Nat} {p' : Param} (hp : (psQ s pf)[j]? = some p') :
    ∃ (i : Nat) (p : Param), s[i]? = some p ∧ KeptQ (atQ s pf) pf i p p' ∧ (placedQ p' = true → j + pf.places.length = i) := by
  have hm := List.mem_of_getElem? hp
  unfold psQ psL at hm
  rw [List.mem_filterMap] at hm
  obtain ⟨⟨p, i⟩, hq, hr⟩ := hm
  rw [List.mem_zipIdx_iff_getElem?] at hq
  have hk := partParam_facts hr
  obtain ⟨j', p2, hj', hk', hpos⟩ := h.to hq hk.place hk.rest
  have hjj := name_inj h.out hp hj' (by rw [hk.name, hk'.name])
  subst hjj
  rw [hp] at hj'
  cases hj'
  exact ⟨i, p, hq, hk, hpos⟩

section

variable {s : Sig} {pf f : Flat}

end

end Go.Proofs.YthbnieiohbpacaaGreat
