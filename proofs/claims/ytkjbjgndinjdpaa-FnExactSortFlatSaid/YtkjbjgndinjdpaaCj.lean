/- Sorting by insertion, in place. -/
import Derived.Test.YtkjbjgndinjdpaaCi
set_option linter.unusedVariables false
set_option linter.unusedSimpArgs false
namespace Go.Proofs.Ytkjbjgndinjdpaa
open Go
set_option maxRecDepth 100000

/-- 'p' moves left, over all that it is below of; 'ra' is what stands left of it, the nearest first. -/
def sinkR {α : Type} (lt : α → α → Bool) (p : α) : List α → List α → List α
  | [], acc => p :: acc
  | x :: ra, acc => if lt p x then sinkR lt p ra (x :: acc) else (x :: ra).reverse ++ p :: acc
def insR {α : Type} (lt : α → α → Bool) (p : α) (S : List α) : List α := sinkR lt p S.reverse []
def isortL {α : Type} (lt : α → α → Bool) (xs : List α) : List α := xs.foldl (fun S x => insR lt x S) []

theorem sinkR_acc {α : Type} (lt : α → α → Bool) (p : α) : ∀ (ra u acc : List α), sinkR lt p ra (u ++ acc) = sinkR lt p ra u ++ acc
  | [], u, acc => by simp [sinkR]
  | x :: ra, u, acc => by
    simp only [sinkR]
    split
    · rw [← sinkR_acc lt p ra (x :: u) acc]; rfl
    · simp
theorem sinkR_ins {α : Type} (lt : α → α → Bool) (p : α) (S rest : List α) : sinkR lt p S.reverse rest = insR lt p S ++ rest := by
  have := sinkR_acc lt p S.reverse [] rest
  simpa [insR] using this
theorem sinkR_length {α : Type} (lt : α → α → Bool) (p : α) : ∀ (ra acc : List α), (sinkR lt p ra acc).length = ra.length + acc.length + 1
  | [], acc => by simp [sinkR]
  | x :: ra, acc => by
    simp only [sinkR]
    split
    · rw [sinkR_length lt p ra]; simp; omega
    · simp; omega
theorem insR_length {α : Type} (lt : α → α → Bool) (p : α) (S : List α) : (insR lt p S).length = S.length + 1 := by simp [insR, sinkR_length]
theorem foldl_len {α : Type} (lt : α → α → Bool) : ∀ (xs S : List α), (xs.foldl (fun S x => insR lt x S) S).length = S.length + xs.length
  | [], S => by simp
  | x :: xs, S => by simp only [List.foldl_cons, foldl_len lt xs, insR_length, List.length_cons]; omega
theorem isortL_length {α : Type} (lt : α → α → Bool) (xs : List α) : (isortL lt xs).length = xs.length := by
  unfold isortL
  rw [foldl_len]
  simp
theorem isortL_succ {α : Type} (lt : α → α → Bool) {xs : List α} {i : Nat} {x : α} (h : xs[i]? = some x) : isortL lt (xs.take (i + 1)) = insR lt x (isortL lt (xs.take i)) := by
  unfold isortL; rw [foldl_take_succ _ _ h]

theorem swap_at {α : Type} (A R : List α) (x p : α) : ((A ++ x :: p :: R).set (A.length + 1) x).set A.length p = A ++ p :: x :: R := by
  simp [List.set_append]
theorem get_fst {α : Type} (A R : List α) (x : α) (j : Nat) (h : j = A.length) : (A ++ x :: R)[j]? = some x := by subst h; simp
theorem get_snd {α : Type} (A R : List α) (x p : α) (j : Nat) (h : j = A.length + 1) : (A ++ x :: p :: R)[j]? = some p := by subst h; simp

theorem insertionSort_ct (lt : Pair → Pair → Bool) (cm : Pair → Pair → Int) (f : FuncId) (hcm : ∀ p q, cm p q < 0 ↔ lt p q = true)
    (hcl : ∀ p q, ACalls pk f [.agg (eP p), .agg (eP q)] [] (fun r o => r = .one (.int .i64 (cm p q)) ∧ o = [])) (xs : List Pair) (kc : Nat) (hl : xs.length ≤ 1048576) :
    ACalls pk 142 [.one (.os 0 0 xs.length kc), .one (.int .i64 0), .one (.int .i64 xs.length), .one (.fn f [])] [ownP xs] (fun r o => r = .tup [] ∧ o = [ownP (isortL lt xs)]) := by
  refine acalls_of_body Try.func142 rfl (by kernel_rfl) rfl ?_
  refine rn rfl ?_
  refine goal_loop_keep (fun m σ => ∃ (n : Int) (i : Nat) (ys : List Pair), n = i ∧ 1 ≤ i ∧ m = xs.length + 1 - i ∧ (i ≤ xs.length ∨ xs = []) ∧ ys = isortL lt (xs.take i) ++ xs.drop i ∧
      σ = ⟨[(8, .one (.int .i64 n)), (3, .one (.fn f [])), (2, .one (.int .i64 xs.length)), (1, .one (.int .i64 0)), (0, .one (.os 0 0 xs.length kc))], [ownP ys], []⟩) xs.length [8, 3, 2, 1, 0] [] rfl
    ⟨_, 1, xs, rfl, by omega, by omega, ?_, ?_, rfl⟩ ?_
  · cases xs with
    | nil => exact .inr rfl
    | cons x xs => left; simp
  · cases xs with
    | nil => rfl
    | cons x xs => simp [isortL, insR, sinkR]
  rintro m σ ⟨n, i, ys, rfl, hi, rfl, hix, hys, rfl⟩
  have hylen : ys.length = xs.length := by rw [hys]; simp [isortL_length]; omega
  refine rn rfl ?_
  refine goal_cond rfl (fun h => ?_) (fun h => ?_) <;> simp only [decide_eq_true_eq, decide_eq_false_iff_not] at h
  · obtain ⟨p, hp⟩ := at_some (xs := xs) (i := i) (by omega)
    refine rn rfl ?_
    refine goal_loop_keep (fun m σ => ∃ (q : Int) (A R : List Pair), q = A.length ∧ m = A.length ∧ (A ++ p :: R).length = xs.length ∧ sinkR lt p A.reverse R = isortL lt (xs.take (i + 1)) ++ xs.drop (i + 1) ∧
        σ = ⟨[(9, .one (.int .i64 q)), (8, .one (.int .i64 i)), (3, .one (.fn f [])), (2, .one (.int .i64 xs.length)), (1, .one (.int .i64 0)), (0, .one (.os 0 0 xs.length kc))], [ownP (A ++ p :: R)], []⟩) i [9, 8, 3, 2, 1, 0] [] rfl
      ⟨(i : Int), isortL lt (xs.take i), xs.drop (i + 1), ?_, ?_, ?_, ?_, ?_⟩ ?_
    · simp [isortL_length]; omega
    · simp [isortL_length]; omega
    · rw [← drop_at hp, ← hys]; exact hylen
    · rw [sinkR_ins, isortL_succ lt hp]
    · rw [← drop_at hp, ← hys]; rfl
    rintro m σ ⟨q, A, R, rfl, rfl, hlen, hsink, rfl⟩
    refine rn rfl ?_
    refine goal_cut (fun σ' => ∃ b : Bool, (b = true → ∃ A' x, A = A' ++ [x] ∧ lt p x = true) ∧ (b = false → ∀ A' x, A = A' ++ [x] → lt p x = false) ∧
      σ' = ⟨[(34, .one (.bool b)), (9, .one (.int .i64 A.length)), (8, .one (.int .i64 i)), (3, .one (.fn f [])), (2, .one (.int .i64 xs.length)), (1, .one (.int .i64 0)), (0, .one (.os 0 0 xs.length kc))], [ownP (A ++ p :: R)], []⟩) ?_ ?_
    · refine goal_draw' [0] 17 rfl ?_
      refine drn [0, 1, 2, 3] (by kernel_rfl) (by kernel_rfl) rfl rfl ?_
      refine AH_guard (i := 4) rfl rfl rfl (fun hg => ?_) (fun hg => ?_) <;> simp only [gt_iff_lt, decide_eq_true_eq, decide_eq_false_iff_not] at hg
      · obtain ⟨A', x, rfl⟩ : ∃ A' x, A = A' ++ [x] := by
          rcases List.eq_nil_or_concat A with h0 | ⟨A', x, h0⟩
          · subst h0; simp at hg
          · exact ⟨A', x, by simpa using h0⟩
        have hw : IntKind.i64.wrap ((A' ++ [x]).length - 1) = A'.length := by rw [wrap64] <;> simp <;> simp at hlen <;> omega
        have hlen' : A'.length + 1 + (R.length + 1) = xs.length := by simp at hlen; omega
        have hAp : (A' ++ [x]) ++ p :: R = A' ++ x :: p :: R := by simp
        rw [hAp]
        refine drn [4, 5, 6, 9, 10, 11] (by kernel_rfl) (by kernel_rfl) rfl rfl ?_
        refine AH_did 7 rfl (by kernel_rfl) (by kernel_rfl) (by kernel_rfl) rfl rfl (dA_indexOwn rfl rfl rfl rfl rfl rfl rfl rfl rfl (by omega) (by simp; omega)) ?_
        refine AH_did 8 rfl (by kernel_rfl) (by kernel_rfl) (by kernel_rfl) rfl rfl (dA_loadEl (eP p) rfl rfl rfl rfl (map_at (get_snd _ _ _ _ _ (by simp))) rfl rfl rfl) ?_
        refine AH_did 12 rfl (by kernel_rfl) (by kernel_rfl) (by kernel_rfl) rfl rfl (dA_indexOwn rfl rfl rfl rfl rfl rfl rfl rfl rfl (by rw [hw]; omega) (by rw [hw]; omega)) ?_
        refine AH_did 13 rfl (by kernel_rfl) (by kernel_rfl) (by kernel_rfl) rfl rfl (dA_loadEl (eP x) rfl rfl rfl rfl (map_at (get_fst _ _ _ _ (by rw [hw]; simp))) rfl rfl rfl) ?_
        refine AH_one (i := 14) (by kernel_rfl) (step_call [] rfl rfl rfl rfl rfl rfl (hcl p x)) (by simp) ?_
        rintro σ2 ⟨r, o', ⟨rfl, rfl⟩, hσ⟩
        obtain rfl := Option.some.inj hσ
        refine drn [15, 16] (by kernel_rfl) (by kernel_rfl) rfl rfl ?_
        refine AH_end (by kernel_rfl) ?_
        refine cut_end [34, 9, 8, 3, 2, 1, 0] [] rfl ⟨decide (cm p x < 0), fun h => ⟨A', x, rfl, ?_⟩, fun h => ?_, rfl⟩
        · exact (hcm p x).1 (by simpa using h)
        · intro A2 x2 h2
          have := List.append_inj' h2 rfl
          simp at this
          obtain ⟨_, rfl⟩ := this
          have h3 : ¬ cm p x < 0 := by simpa using h
          rw [hcm] at h3
          simpa using h3
      · refine drn [4, 5, 6, 7, 8, 9, 10, 11, 12, 13, 14, 15, 16] (by kernel_rfl) (by kernel_rfl) rfl rfl ?_
        refine AH_end (by kernel_rfl) ?_
        refine cut_end [34, 9, 8, 3, 2, 1, 0] [] rfl ⟨false, (fun h => by cases h), fun _ A' x h2 => ?_, rfl⟩
        subst h2
        simp at hg
    rintro σ' ⟨b, hb1, hb2, rfl⟩
    refine rn rfl ?_
    refine goal_cond rfl (fun h2 => ?_) (fun h2 => ?_)
    · obtain ⟨A', x, rfl, hlt⟩ := hb1 h2
      have hlen' : A'.length + 1 + (R.length + 1) = xs.length := by simp at hlen; omega
      have hw : IntKind.i64.wrap ((A' ++ [x]).length - 1) = A'.length := by rw [wrap64] <;> simp <;> omega
      have hAp : (A' ++ [x]) ++ p :: R = A' ++ x :: p :: R := by simp
      rw [hAp]
      refine rn rfl ?_
      refine goal_cut (fun σ' => σ' = ⟨[(9, .one (.int .i64 (A' ++ [x]).length)), (8, .one (.int .i64 i)), (3, .one (.fn f [])), (2, .one (.int .i64 xs.length)), (1, .one (.int .i64 0)), (0, .one (.os 0 0 xs.length kc))], [ownP (A' ++ p :: x :: R)], []⟩) ?_ ?_
      · refine goal_draw' [] 18 rfl ?_
        refine drn [0, 1, 2, 3, 4, 5, 6, 7, 10, 11] (by kernel_rfl) (by kernel_rfl) rfl rfl ?_
        refine AH_did 8 rfl (by kernel_rfl) (by kernel_rfl) (by kernel_rfl) rfl rfl (dA_indexOwn rfl rfl rfl rfl rfl rfl rfl rfl rfl (by rw [hw]; omega) (by rw [hw]; omega)) ?_
        refine AH_did 12 rfl (by kernel_rfl) (by kernel_rfl) (by kernel_rfl) rfl rfl (dA_indexOwn rfl rfl rfl rfl rfl rfl rfl rfl rfl (by omega) (by simp; omega)) ?_
        have g1 : ((A' ++ x :: p :: R).map eP)[0 + (IntKind.i64.wrap ((A' ++ [x]).length - 1)).toNat]? = some (eP x) := map_at (get_fst _ _ _ _ (by rw [hw]; simp))
        have g2 : ((A' ++ x :: p :: R).map eP)[0 + (((A' ++ [x]).length : Nat) : Int).toNat]? = some (eP p) := map_at (get_snd _ _ _ _ _ (by simp))
        refine AH_two (i := 9) (j := 13) (by kernel_rfl) (step_did rfl rfl (dA_loadEl (eP x) rfl rfl rfl rfl g1 rfl rfl rfl)) (mdOk rfl) (step_did rfl rfl (dA_loadEl (eP p) rfl rfl rfl rfl g2 rfl rfl rfl)) (mdOk rfl) ?_ ?_ <;> rintro _ rfl
        · refine AH_one (i := 13) (by kernel_rfl) (step_did rfl rfl (dA_loadEl (eP p) rfl rfl rfl rfl g2 rfl rfl rfl)) (mdOk rfl) ?_
          rintro _ rfl
          refine AH_did 14 rfl (by kernel_rfl) (by kernel_rfl) (by kernel_rfl) rfl rfl (dA_indexOwn rfl rfl rfl rfl rfl rfl rfl rfl rfl (by omega) (by simp; omega)) ?_
          refine AH_oneDid 15 rfl (by kernel_rfl) rfl (dA_storeEl (eP p) (((A' ++ x :: p :: R).set (A'.length + 1) x).map eP) true rfl rfl rfl rfl rfl g2 rfl rfl (by simp [eP]) (by rw [map_set]; simp [patch, eP]) (fun _ => noOwnR_map _ eP_noOwn _)) (mdOk rfl) ?_
          refine AH_did 16 rfl (by kernel_rfl) (by kernel_rfl) (by kernel_rfl) rfl rfl (dA_indexOwn rfl rfl rfl rfl rfl rfl rfl rfl rfl (by rw [hw]; omega) (by rw [hw]; omega)) ?_
          refine AH_oneDid 17 rfl (by kernel_rfl) rfl (dA_storeEl (eP x) ((A' ++ p :: x :: R).map eP) true rfl rfl rfl rfl rfl (map_at (by rw [hw]; simp)) rfl rfl (by simp [eP]) (by rw [← swap_at, map_set, hw]; simp [patch, eP]) (fun _ => noOwnR_map _ eP_noOwn _)) (mdOk rfl) ?_
          refine AH_end (by kernel_rfl) ?_
          exact cut_end [9, 8, 3, 2, 1, 0] [] rfl rfl
        · refine AH_one (i := 9) (by kernel_rfl) (step_did rfl rfl (dA_loadEl (eP x) rfl rfl rfl rfl g1 rfl rfl rfl)) (mdOk rfl) ?_
          rintro _ rfl
          refine AH_did 14 rfl (by kernel_rfl) (by kernel_rfl) (by kernel_rfl) rfl rfl (dA_indexOwn rfl rfl rfl rfl rfl rfl rfl rfl rfl (by omega) (by simp; omega)) ?_
          refine AH_oneDid 15 rfl (by kernel_rfl) rfl (dA_storeEl (eP p) (((A' ++ x :: p :: R).set (A'.length + 1) x).map eP) true rfl rfl rfl rfl rfl g2 rfl rfl (by simp [eP]) (by rw [map_set]; simp [patch, eP]) (fun _ => noOwnR_map _ eP_noOwn _)) (mdOk rfl) ?_
          refine AH_did 16 rfl (by kernel_rfl) (by kernel_rfl) (by kernel_rfl) rfl rfl (dA_indexOwn rfl rfl rfl rfl rfl rfl rfl rfl rfl (by rw [hw]; omega) (by rw [hw]; omega)) ?_
          refine AH_oneDid 17 rfl (by kernel_rfl) rfl (dA_storeEl (eP x) ((A' ++ p :: x :: R).map eP) true rfl rfl rfl rfl rfl (map_at (by rw [hw]; simp)) rfl rfl (by simp [eP]) (by rw [← swap_at, map_set, hw]; simp [patch, eP]) (fun _ => noOwnR_map _ eP_noOwn _)) (mdOk rfl) ?_
          refine AH_end (by kernel_rfl) ?_
          exact cut_end [9, 8, 3, 2, 1, 0] [] rfl rfl
      rintro σ' rfl
      refine rn rfl ?_
      refine round_keep A'.length [9, 8, 3, 2, 1, 0] [] (by simp) rfl ⟨_, A', x :: R, hw, rfl, by simp; omega, ?_, rfl⟩
      rw [← hsink]
      simp [sinkR, hlt]
    · refine rn rfl (round_ext ?_)
      refine rn rfl ?_
      refine round_keep (xs.length + 1 - (i + 1)) [8, 3, 2, 1, 0] [] (by omega) rfl ⟨_, i + 1, A ++ p :: R, wrap64 (by omega) (by omega), by omega, by omega, .inl (by omega), ?_, rfl⟩
      rw [← hsink]
      rcases List.eq_nil_or_concat A with h0 | ⟨A', x, h0⟩
      · subst h0; rfl
      · have h0' : A = A' ++ [x] := by simpa using h0
        have h3 := hb2 h2 A' x h0'
        subst h0'
        simp [sinkR, h3]
  · refine rn rfl (round_ext ?_)
    refine rn rfl (fin_is [] rfl ⟨rfl, ?_⟩)
    have : xs.length ≤ i := by omega
    rw [List.take_of_length_le this, List.drop_eq_nil_of_le this, List.append_nil] at hys
    rw [hys]; rfl
end Go.Proofs.Ytkjbjgndinjdpaa
