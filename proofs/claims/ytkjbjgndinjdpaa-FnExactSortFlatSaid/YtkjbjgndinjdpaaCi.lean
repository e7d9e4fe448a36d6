/- Sorting pairs by name: the reference's way. -/
import Derived.Test.YtkjbjgndinjdpaaCh
set_option linter.unusedVariables false
set_option linter.unusedSimpArgs false
namespace Go.Proofs.Ytkjbjgndinjdpaa
open Go
set_option maxRecDepth 100000

def ltS (a b : Str) : Bool := Op.bytesLess a b
def ltN (a b : Pair) : Bool := ltS a.name b.name
/-- Put before the first that is not below. -/
def insL (p : Pair) (out : List Pair) : List Pair := out.takeWhile (fun q => ltN q p) ++ p :: out.dropWhile (fun q => ltN q p)
def sortL (xs : List Pair) : List Pair := xs.foldl (fun out p => insL p out) []

theorem insL_length (p : Pair) (out : List Pair) : (insL p out).length = out.length + 1 := by
  have := congrArg List.length (List.takeWhile_append_dropWhile (p := fun q => ltN q p) (l := out))
  simp only [List.length_append] at this
  simp [insL]; omega
theorem foldl_take_succ {α β : Type} (f : β → α → β) (b : β) {xs : List α} {i : Nat} {x : α} (h : xs[i]? = some x) : (xs.take (i + 1)).foldl f b = f ((xs.take i).foldl f b) x := by
  rw [List.take_add_one, h]; simp

theorem takeWhile_at {α : Type} {q : α → Bool} {xs : List α} {j : Nat} (h1 : (xs.take j).all q = true) (h2 : ∀ x, xs[j]? = some x → q x = false) : xs.takeWhile q = xs.take j ∧ xs.dropWhile q = xs.drop j := by
  induction xs generalizing j with
  | nil => simp
  | cons x xs ih =>
    cases j with
    | zero =>
      have := h2 x (by simp)
      simp [this]
    | succ j =>
      simp only [List.take_succ_cons, List.all_cons, Bool.and_eq_true] at h1
      have := ih (j := j) h1.2 (fun y hy => h2 y (by simpa using hy))
      simp [h1.1, this.1, this.2]

theorem map_takeE {α : Type} (enc : α → List C) (xs : List α) (i : Nat) : ((xs.map enc).take i) = (xs.take i).map enc := by simp
theorem map_dropE {α : Type} (enc : α → List C) (xs : List α) (i : Nat) : ((xs.map enc).drop i) = (xs.drop i).map enc := by simp

theorem whole {α : Type} {xs : List α} {n : Nat} (h : xs.length ≤ n) : xs = xs.take n := (List.take_of_length_le h).symm
theorem tailRows {α : Type} {enc : α → List C} {xs : List α} {j n : Nat} (h : xs.length ≤ n) : (xs.drop j).map enc = ((xs.map enc).drop j).take (n - j) := by
  rw [← List.map_drop, List.take_of_length_le (by simp; omega)]

theorem sortedPairs_ct (xs : List Pair) (hl : xs.length ≤ 1048576) :
    ACalls pk 59 [.one (.fs (xs.map eP))] [] (fun r o => r = .one (.os 0 0 xs.length xs.length) ∧ o = [ownP (sortL xs)]) := by
  refine acalls_of_body Try.func59 rfl (by kernel_rfl) rfl ?_
  refine rn rfl ?_
  refine goal_loop_keep (fun m σ => ∃ (n : Int) (i : Nat) (out : List Pair), n = i ∧ i ≤ xs.length ∧ m = xs.length - i ∧ out = (xs.take i).foldl (fun out p => insL p out) [] ∧ out.length = i ∧
      σ = ⟨[(4, .one (.int .i64 n)), (3, .one (.os 0 0 i i)), (0, .one (.fs (xs.map eP)))], [ownP out], []⟩) xs.length [4, 3, 0] [0] rfl
    ⟨_, 0, [], rfl, by omega, by omega, rfl, rfl, rfl⟩ ?_
  rintro m σ ⟨n, i, out, rfl, hi, rfl, hout, hlen, rfl⟩
  refine rn rfl ?_
  refine goal_cond rfl (fun h => ?_) (fun h => ?_) <;> simp only [decide_eq_true_eq, decide_eq_false_iff_not, List.length_map] at h
  · obtain ⟨p, hp⟩ := at_some (xs := xs) (i := i) (by omega)
    refine rn rfl ?_
    refine goal_loop_keep (fun m σ => ∃ (q : Int) (j : Nat), q = j ∧ j ≤ i ∧ m = i - j ∧ (out.take j).all (fun q => ltN q p) = true ∧
        σ = ⟨[(5, .one (.int .i64 q)), (4, .one (.int .i64 i)), (3, .one (.os 0 0 i i)), (0, .one (.fs (xs.map eP)))], [ownP out], []⟩) i [5, 4, 3, 0] [0] rfl
      ⟨_, 0, rfl, by omega, by omega, rfl, rfl⟩ ?_
    rintro m σ ⟨q, j, rfl, hj, rfl, hall, rfl⟩
    refine rn rfl ?_
    refine goal_cut (fun σ' => ∃ b : Bool, (b = true → j < i ∧ ∀ y, out[j]? = some y → ltN y p = true) ∧ (b = false → ∀ y, out[j]? = some y → ltN y p = false) ∧
      σ' = ⟨[(29, .one (.bool b)), (5, .one (.int .i64 j)), (4, .one (.int .i64 i)), (3, .one (.os 0 0 i i)), (0, .one (.fs (xs.map eP)))], [ownP out], []⟩) ?_ ?_
    · refine goal_draw' [0] 17 rfl ?_
      refine drn [0, 1, 2, 3, 4] (by kernel_rfl) (by kernel_rfl) rfl rfl ?_
      refine AH_guard (i := 5) rfl rfl rfl (fun hg => ?_) (fun hg => ?_) <;> simp only [decide_eq_true_eq, decide_eq_false_iff_not] at hg
      · obtain ⟨y, hy⟩ := at_some (xs := out) (i := j) (by omega)
        refine drn [5, 6, 10, 11] (by kernel_rfl) (by kernel_rfl) rfl rfl ?_
        refine AH_did 7 rfl (by kernel_rfl) (by kernel_rfl) (by kernel_rfl) rfl rfl (dA_indexOwn rfl rfl rfl rfl rfl rfl rfl rfl rfl (by omega) (by omega)) ?_
        refine drn [8] (by kernel_rfl) (by kernel_rfl) rfl rfl ?_
        refine AH_did 9 rfl (by kernel_rfl) (by kernel_rfl) (by kernel_rfl) rfl rfl (dA_loadEl (eP y) rfl rfl rfl rfl (map_at (by simpa using hy)) rfl rfl rfl) ?_
        refine AH_did 12 rfl (by kernel_rfl) (by kernel_rfl) (by kernel_rfl) rfl rfl (dA_index (eP p) rfl rfl rfl rfl rfl rfl rfl (by omega) (by simp; omega) (map_at (by simpa using hp)) rfl) ?_
        refine drn [13, 14, 15, 16] (by kernel_rfl) (by kernel_rfl) rfl rfl ?_
        refine AH_end (by kernel_rfl) ?_
        refine cut_end [29, 5, 4, 3, 0] [0] rfl ⟨ltN y p, fun h => ⟨by omega, fun z hz => ?_⟩, fun h z hz => ?_, rfl⟩
        · rw [hy] at hz; simp at hz; subst hz; exact h
        · rw [hy] at hz; simp at hz; subst hz; exact h
      · refine drn [5, 6, 7, 8, 9, 10, 11, 12, 13, 14, 15, 16] (by kernel_rfl) (by kernel_rfl) rfl rfl ?_
        refine AH_end (by kernel_rfl) ?_
        refine cut_end [29, 5, 4, 3, 0] [0] rfl ⟨false, (fun h => by cases h), fun _ z hz => ?_, rfl⟩
        have := lt_of_some hz
        omega
    rintro σ' ⟨b, hb1, hb2, rfl⟩
    refine rn rfl ?_
    refine goal_cond rfl (fun h2 => ?_) (fun h2 => ?_)
    · obtain ⟨hji, hlt⟩ := hb1 h2
      obtain ⟨y, hy⟩ := at_some (xs := out) (i := j) (by omega)
      refine rn rfl ?_
      refine round_keep (i - (j + 1)) [5, 4, 3, 0] [0] (by omega) rfl ⟨_, j + 1, wrap64 (by omega) (by omega), by omega, rfl, ?_, rfl⟩
      rw [all_take_succ hy, hall, hlt y hy]; rfl
    refine rn rfl ?_
    refine round_ext ?_
    refine rn rfl ?_
    have htw := takeWhile_at hall (hb2 h2)
    have hins : insL p out = out.take j ++ [p] ++ out.drop j := by simp [insL, htw.1, htw.2]
    refine goal_cut (fun σ' => σ' = ⟨[(4, .one (.int .i64 i)), (3, .one (.os 0 0 (i + 1) (i + 1))), (0, .one (.fs (xs.map eP)))], [ownP (insL p out)], []⟩) ?_ ?_
    · refine goal_draw' [0] 16 rfl ?_
      refine drn [1, 2, 5, 6, 11, 12] (by kernel_rfl) (by kernel_rfl) rfl rfl ?_
      refine AH_did 3 rfl (by kernel_rfl) (by kernel_rfl) (by kernel_rfl) rfl rfl (dA_sliceOwn 0 j i 0 j i rfl rfl rfl rfl rfl rfl rfl Bnd.none_ (Bnd.some_ rfl rfl) (.inl ⟨rfl, rfl⟩) (by omega) (by omega) (Nat.le_refl _) (by simp; omega) rfl rfl rfl rfl) ?_
      refine AH_did 7 rfl (by kernel_rfl) (by kernel_rfl) (by kernel_rfl) rfl rfl (dA_index (eP p) rfl rfl rfl rfl rfl rfl rfl (by omega) (by simp; omega) (map_at (by simpa using hp)) rfl) ?_
      refine drn [8] (by kernel_rfl) (by kernel_rfl) rfl rfl ?_
      refine AH_did 13 rfl (by kernel_rfl) (by kernel_rfl) (by kernel_rfl) rfl rfl (dA_sliceOwn j i i j (i - j) (i - j) rfl rfl rfl rfl rfl rfl rfl (Bnd.some_ rfl rfl) Bnd.none_ (.inl ⟨rfl, rfl⟩) (by omega) (by omega) (Nat.le_refl _) (by simp; omega) rfl (by simp) rfl rfl) ?_
      refine AH_two (i := 0) (j := 9) (by kernel_rfl) (step_did rfl rfl (dA_step rfl)) (mdOk rfl) (step_did rfl rfl (dA_step rfl)) (mdOk rfl) ?_ ?_ <;> rintro _ rfl
      · refine AH_two (i := 4) (j := 9) (by kernel_rfl) (step_did rfl rfl (dA_append (old := []) ((out.take j).map eP) j true (Dst.own rfl rfl rfl rfl rfl (Nat.le_refl 0) rfl) (Src.os rfl rfl (by simp; omega) rfl) rfl rfl rfl rfl rfl rfl rfl rfl (by simp) (by simpa using rows_len eP_len (out.take j)) (by simp only [List.length_map, List.length_nil, List.length_take, List.length_drop]; show _ * 24 ≤ _; omega) (by simp; omega) (by simp) (by simp; omega) (fun _ => noOwnR_map _ eP_noOwn _))) (mdOk rfl) (step_did rfl rfl (dA_step rfl)) (mdOk rfl) ?_ ?_ <;> rintro _ rfl
        · refine AH_one (i := 9) (by kernel_rfl) (step_did rfl rfl (dA_step rfl)) (mdOk rfl) ?_
          rintro _ rfl
          refine AH_one (i := 10) (by kernel_rfl) (step_did rfl rfl (dA_append (old := (out.take j).map eP) (rows := [p].map eP) ((out.take j ++ [p]).map eP) (j + 1) true (Dst.own rfl rfl rfl rfl rfl (by simp; omega) (whole (by simp; omega))) (Src.os rfl rfl (Nat.le_refl 1) rfl) rfl rfl rfl rfl rfl rfl rfl rfl (rows_len eP_len _) (rows_len eP_len _) (by simp only [List.length_map, List.length_take]; show _ * 24 ≤ _; simp; omega) (by simp; omega) (by simp) (by simp; omega) (fun _ => noOwnR_map _ eP_noOwn _))) (mdOk rfl) ?_
          rintro _ rfl
          refine AH_one (i := 14) (by kernel_rfl) (step_did rfl rfl (dA_append (old := (out.take j ++ [p]).map eP) (rows := (out.drop j).map eP) ((insL p out).map eP) (i + 1) true (Dst.own rfl rfl rfl rfl rfl (by simp; omega) (whole (by simp; omega))) (Src.os rfl rfl (by simp; omega) (tailRows (by omega))) rfl rfl rfl rfl rfl rfl rfl rfl (rows_len eP_len _) (rows_len eP_len _) (by simp only [List.length_map, List.length_append, List.length_take, List.length_drop, List.length_cons, List.length_nil]; show _ * 24 ≤ _; omega) (by simp; omega) (by rw [hins]; simp) (by rw [List.length_map, insL_length]; omega) (fun _ => noOwnR_map _ eP_noOwn _))) (mdOk rfl) ?_
          rintro _ rfl
          refine drn [15] (by kernel_rfl) (by kernel_rfl) rfl rfl ?_
          refine AH_end (by kernel_rfl) ?_
          exact cut_end [4, 3, 0] [5] rfl rfl
        · refine AH_one (i := 4) (by kernel_rfl) (step_did rfl rfl (dA_append (old := []) ((out.take j).map eP) j true (Dst.own rfl rfl rfl rfl rfl (Nat.le_refl 0) rfl) (Src.os rfl rfl (by simp; omega) rfl) rfl rfl rfl rfl rfl rfl rfl rfl (by simp) (by simpa using rows_len eP_len (out.take j)) (by simp only [List.length_map, List.length_nil, List.length_take, List.length_drop]; show _ * 24 ≤ _; omega) (by simp; omega) (by simp) (by simp; omega) (fun _ => noOwnR_map _ eP_noOwn _))) (mdOk rfl) ?_
          rintro _ rfl
          refine AH_one (i := 10) (by kernel_rfl) (step_did rfl rfl (dA_append (old := (out.take j).map eP) (rows := [p].map eP) ((out.take j ++ [p]).map eP) (j + 1) true (Dst.own rfl rfl rfl rfl rfl (by simp; omega) (whole (by simp; omega))) (Src.os rfl rfl (Nat.le_refl 1) rfl) rfl rfl rfl rfl rfl rfl rfl rfl (rows_len eP_len _) (rows_len eP_len _) (by simp only [List.length_map, List.length_take]; show _ * 24 ≤ _; simp; omega) (by simp; omega) (by simp) (by simp; omega) (fun _ => noOwnR_map _ eP_noOwn _))) (mdOk rfl) ?_
          rintro _ rfl
          refine AH_one (i := 14) (by kernel_rfl) (step_did rfl rfl (dA_append (old := (out.take j ++ [p]).map eP) (rows := (out.drop j).map eP) ((insL p out).map eP) (i + 1) true (Dst.own rfl rfl rfl rfl rfl (by simp; omega) (whole (by simp; omega))) (Src.os rfl rfl (by simp; omega) (tailRows (by omega))) rfl rfl rfl rfl rfl rfl rfl rfl (rows_len eP_len _) (rows_len eP_len _) (by simp only [List.length_map, List.length_append, List.length_take, List.length_drop, List.length_cons, List.length_nil]; show _ * 24 ≤ _; omega) (by simp; omega) (by rw [hins]; simp) (by rw [List.length_map, insL_length]; omega) (fun _ => noOwnR_map _ eP_noOwn _))) (mdOk rfl) ?_
          rintro _ rfl
          refine drn [15] (by kernel_rfl) (by kernel_rfl) rfl rfl ?_
          refine AH_end (by kernel_rfl) ?_
          exact cut_end [4, 3, 0] [5] rfl rfl
      · refine AH_one (i := 0) (by kernel_rfl) (step_did rfl rfl (dA_step rfl)) (mdOk rfl) ?_
        rintro _ rfl
        refine AH_one (i := 4) (by kernel_rfl) (step_did rfl rfl (dA_append (old := []) ((out.take j).map eP) j true (Dst.own rfl rfl rfl rfl rfl (Nat.le_refl 0) rfl) (Src.os rfl rfl (by simp; omega) rfl) rfl rfl rfl rfl rfl rfl rfl rfl (by simp) (by simpa using rows_len eP_len (out.take j)) (by simp only [List.length_map, List.length_nil, List.length_take, List.length_drop]; show _ * 24 ≤ _; omega) (by simp; omega) (by simp) (by simp; omega) (fun _ => noOwnR_map _ eP_noOwn _))) (mdOk rfl) ?_
        rintro _ rfl
        refine AH_one (i := 10) (by kernel_rfl) (step_did rfl rfl (dA_append (old := (out.take j).map eP) (rows := [p].map eP) ((out.take j ++ [p]).map eP) (j + 1) true (Dst.own rfl rfl rfl rfl rfl (by simp; omega) (whole (by simp; omega))) (Src.os rfl rfl (Nat.le_refl 1) rfl) rfl rfl rfl rfl rfl rfl rfl rfl (rows_len eP_len _) (rows_len eP_len _) (by simp only [List.length_map, List.length_take]; show _ * 24 ≤ _; simp; omega) (by simp; omega) (by simp) (by simp; omega) (fun _ => noOwnR_map _ eP_noOwn _))) (mdOk rfl) ?_
        rintro _ rfl
        refine AH_one (i := 14) (by kernel_rfl) (step_did rfl rfl (dA_append (old := (out.take j ++ [p]).map eP) (rows := (out.drop j).map eP) ((insL p out).map eP) (i + 1) true (Dst.own rfl rfl rfl rfl rfl (by simp; omega) (whole (by simp; omega))) (Src.os rfl rfl (by simp; omega) (tailRows (by omega))) rfl rfl rfl rfl rfl rfl rfl rfl (rows_len eP_len _) (rows_len eP_len _) (by simp only [List.length_map, List.length_append, List.length_take, List.length_drop, List.length_cons, List.length_nil]; show _ * 24 ≤ _; omega) (by simp; omega) (by rw [hins]; simp) (by rw [List.length_map, insL_length]; omega) (fun _ => noOwnR_map _ eP_noOwn _))) (mdOk rfl) ?_
        rintro _ rfl
        refine drn [15] (by kernel_rfl) (by kernel_rfl) rfl rfl ?_
        refine AH_end (by kernel_rfl) ?_
        exact cut_end [4, 3, 0] [5] rfl rfl
    rintro σ' rfl
    refine rn rfl ?_
    refine round_keep (xs.length - (i + 1)) [4, 3, 0] [0] (by omega) rfl ⟨_, i + 1, insL p out, wrap64 (by omega) (by omega), by omega, rfl, ?_, by rw [insL_length]; omega, rfl⟩
    rw [foldl_take_succ _ _ hp, ← hout]
  · refine rn rfl (round_ext ?_)
    refine rn rfl (fin_is [0] rfl ⟨?_, ?_⟩)
    · rw [show xs.length = i by omega]
    · rw [show i = xs.length by omega, List.take_length] at hout
      rw [hout]; rfl
end Go.Proofs.Ytkjbjgndinjdpaa
