/- Part 4 of the proof: an abstract machine over the model; contracts of the functions that the law reaches. -/
import Derived.Test.YtekdhmddibfidaaGreatKAllows3
set_option linter.unusedVariables false
set_option linter.unusedSimpArgs false
namespace Go.Proofs.YtekdhmddibfidaaGreat
open Go
set_option maxRecDepth 100000
set_option maxHeartbeats 1000000

def insS (n : Str) (S : List Str) : List Str := S.takeWhile (fun x => ltS x n) ++ n :: S.dropWhile (fun x => ltS x n)

def sortS (xs : List Str) : List Str := xs.foldl (fun out n => insS n out) []

def mkN (n : Str) : Pair := ⟨n, 0⟩

theorem insS_length (n : Str) (S : List Str) : (insS n S).length = S.length + 1 := by
  have := congrArg List.length (List.takeWhile_append_dropWhile (p := fun x => ltS x n) (l := S))
  simp only [List.length_append] at this
  simp only [insS, List.length_append, List.length_cons]; omega

theorem insS_map (n : Str) : ∀ S : List Str, (insS n S).map mkN = insL (mkN n) (S.map mkN)
  | [] => rfl
  | x :: S => by
    have ih := insS_map n S
    cases h : ltS x n with
    | true =>
      have h' : ltN (mkN x) (mkN n) = true := h
      rw [List.map_cons, insL_cons_lt h', ← ih]
      simp [insS, h]
    | false =>
      have h' : ltN (mkN x) (mkN n) = false := h
      rw [List.map_cons, insL_cons_ge h']
      simp [insS, h]

theorem sortS_map (xs : List Str) : (sortS xs).map mkN = sortL (xs.map mkN) := by
  have key : ∀ (xs S : List Str), (xs.foldl (fun out n => insS n out) S).map mkN = (xs.map mkN).foldl (fun out p => insL p out) (S.map mkN) := by
    intro xs
    induction xs with
    | nil => intro S; rfl
    | cons x xs ih => intro S; rw [List.foldl_cons, ih, List.map_cons, List.foldl_cons, insS_map]
  exact key xs []

theorem sinkR_map (p : Str) : ∀ (ra acc : List Str), (sinkR ltS p ra acc).map mkN = sinkR ltN (mkN p) (ra.map mkN) (acc.map mkN)
  | [], acc => rfl
  | x :: ra, acc => by
    have h0 : ltN (mkN p) (mkN x) = ltS p x := rfl
    simp only [sinkR, List.map_cons, h0]
    split
    · rw [sinkR_map p ra]; rfl
    · simp [sinkR]

theorem isortS_map (xs : List Str) : (isortL ltS xs).map mkN = isortL ltN (xs.map mkN) := by
  have key : ∀ (xs S : List Str), (xs.foldl (fun S x => insR ltS x S) S).map mkN = (xs.map mkN).foldl (fun S x => insR ltN x S) (S.map mkN) := by
    intro xs
    induction xs with
    | nil => intro S; rfl
    | cons x xs ih =>
      intro S
      rw [List.foldl_cons, ih, List.map_cons, List.foldl_cons]
      congr 1
      unfold insR
      rw [sinkR_map, List.map_reverse]; rfl
  exact key xs []

theorem names_mk (xs : List Str) : namesOf (xs.map mkN) = xs := by
  simp only [namesOf, List.map_map]
  have : (Pair.name ∘ mkN) = id := rfl
  rw [this, List.map_id]

theorem sortS_eq (xs : List Str) (h : xs.Nodup) : isortL ltS xs = sortS xs := by
  have h1 := isortS_map xs
  rw [sorts_eq _ (by rw [names_mk]; exact h), ← sortS_map] at h1
  have := congrArg namesOf h1
  rwa [names_mk, names_mk] at this

theorem sortS_mem (xs : List Str) (x : Str) : x ∈ sortS xs ↔ x ∈ xs := by
  have key : ∀ (xs S : List Str), x ∈ xs.foldl (fun out n => insS n out) S ↔ x ∈ S ∨ x ∈ xs := by
    intro xs
    induction xs with
    | nil => intro S; simp
    | cons y xs ih =>
      intro S
      rw [List.foldl_cons, ih]
      have : x ∈ insS y S ↔ x = y ∨ x ∈ S := by
        have h1 := List.takeWhile_append_dropWhile (p := fun x => ltS x y) (l := S)
        constructor
        · intro h
          simp only [insS, List.mem_append, List.mem_cons] at h
          rw [← h1]
          simp only [List.mem_append]
          rcases h with h | h | h <;> simp [h]
        · intro h
          rw [← h1] at h
          simp only [insS, List.mem_append, List.mem_cons] at h ⊢
          rcases h with h | h | h <;> simp [h]
      rw [this, List.mem_cons]
      constructor
      · rintro ((h | h) | h) <;> simp [h]
      · rintro (h | h | h) <;> simp [h]
  simpa [sortS] using key xs []

theorem sortS_length (xs : List Str) : (sortS xs).length = xs.length := by
  have := congrArg List.length (sortS_map xs)
  simpa [sortL_length] using this

theorem tw_at {xs : List Str} {n : Str} {j : Nat} (h1 : (xs.take j).all (fun x => ltS x n) = true) (h2 : ∀ x, xs[j]? = some x → ltS x n = false) : xs.takeWhile (fun x => ltS x n) = xs.take j ∧ xs.dropWhile (fun x => ltS x n) = xs.drop j := by
  induction xs generalizing j with
  | nil => simp
  | cons x xs ih =>
    cases j with
    | zero =>
      have := h2 x (by simp)
      simp [this]
    | succ j =>
      simp only [List.take_succ_cons, List.all_cons, Bool.and_eq_true] at h1
      obtain ⟨h3, h4⟩ := h1
      have := ih h4 (fun x hx => h2 x (by simpa using hx))
      simp [h3, this]

theorem sortedTexts_ct (xs : List Str) (hnd : xs.Nodup) (hl : xs.length ≤ 1000) : ACalls pk 156 [.one (.fs (xs.map eS))] [] (fun r o => r = .one (.fs ((sortS xs).map eS)) ∧ o = []) := by
  refine acalls_of_body Tryz.func156 rfl (by kernel_rfl) rfl ?_
  refine rn rfl ?_
  refine goal_loop_keep (fun m σ => ∃ (n : Int) (i l : Nat) (out : List Str), n = i ∧ i ≤ xs.length ∧ m = xs.length - i ∧ l = out.length ∧ out = sortS (xs.take i) ∧
      σ = ⟨[(4, .one (.int .i64 n)), (3, .one (.os 0 0 l l)), (0, .one (.fs (xs.map eS)))], [ownS out], []⟩) xs.length [4, 3, 0] [0] rfl
    ⟨_, 0, 0, [], rfl, by omega, by omega, rfl, rfl, rfl⟩ ?_
  rintro m σ ⟨n, i, l, out, rfl, hi, rfl, rfl, hout, rfl⟩
  have holen : out.length = i := by rw [hout, sortS_length]; simp; omega
  refine rn rfl ?_
  refine goal_cond rfl (fun h => ?_) (fun h => ?_) <;> (try simp only [gt_iff_lt, ge_iff_le, bne_iff_ne, ne_eq, bne_eq_false_iff_eq, beq_iff_eq, beq_eq_false_iff_ne, Bool.not_eq_true', Bool.not_eq_false', decide_eq_true_eq, decide_eq_false_iff_not, List.length_map] at h)
  · obtain ⟨p, hp⟩ := at_some (xs := xs) (i := i) (by omega)
    have hnew : p ∉ out := by
      rw [hout, sortS_mem]
      intro hm
      have h1 : (xs.take (i + 1)).Nodup := hnd.sublist (List.take_sublist _ _)
      rw [← take_snoc hp, List.nodup_append] at h1
      exact h1.2.2 p hm p (by simp) rfl
    have hst : sortS (xs.take (i + 1)) = insS p out := by
      rw [hout]; unfold sortS; rw [foldl_take_succ _ _ hp]
    refine rn rfl ?_
    refine goal_loop_keep (fun m σ => ∃ (q : Int) (j : Nat), q = j ∧ j ≤ i ∧ m = i - j ∧ (out.take j).all (fun x => ltS x p) = true ∧
      σ = ⟨[(5, .one (.int .i64 q)), (4, .one (.int .i64 i)), (3, .one (.os 0 0 i i)), (0, .one (.fs (xs.map eS)))], [ownS out], []⟩) i [5, 4, 3, 0] [0] rfl
      ⟨_, 0, rfl, by omega, by omega, by simp, by rw [holen]; rfl⟩ ?_
    rintro m σ ⟨q, j, rfl, hj, rfl, hall, rfl⟩
    refine rn rfl ?_
    refine goal_cut (fun σ' => ∃ b : Bool, (b = true → j < i ∧ ∀ x, out[j]? = some x → ltS x p = true) ∧ (b = false → ∀ x, out[j]? = some x → ltS x p = false) ∧
      σ' = ⟨[(27, .one (.bool b)), (5, .one (.int .i64 j)), (4, .one (.int .i64 i)), (3, .one (.os 0 0 i i)), (0, .one (.fs (xs.map eS)))], [ownS out], []⟩) ?_ ?_
    · refine goal_draw' [0] 15 rfl ?_
      refine drn [0, 1, 2, 3, 4] (by kernel_rfl) (by kernel_rfl) rfl rfl ?_
      refine AH_guard (i := 5) rfl rfl rfl (fun h2 => ?_) (fun h2 => ?_) <;> (try simp only [gt_iff_lt, ge_iff_le, bne_iff_ne, ne_eq, bne_eq_false_iff_eq, beq_iff_eq, beq_eq_false_iff_ne, Bool.not_eq_true', Bool.not_eq_false', decide_eq_true_eq, decide_eq_false_iff_not, List.length_map] at h2)
      · have hji : j < i := by simpa using h2
        obtain ⟨y, hy⟩ := at_some (xs := out) (i := j) (by omega)
        refine drn [5, 6, 9, 10] (by kernel_rfl) (by kernel_rfl) rfl rfl ?_
        refine AH_did 7 rfl (by kernel_rfl) (by kernel_rfl) (by kernel_rfl) rfl rfl (dA_indexOwn rfl rfl rfl rfl rfl rfl rfl rfl rfl (by omega) (by (try simp); omega)) ?_
        refine AH_did 8 rfl (by kernel_rfl) (by kernel_rfl) (by kernel_rfl) rfl rfl (dA_loadEl (eS y) rfl rfl rfl rfl (map_at (by simpa using hy)) rfl rfl rfl) ?_
        refine AH_did 11 rfl (by kernel_rfl) (by kernel_rfl) (by kernel_rfl) rfl rfl (dA_index (eS p) rfl rfl rfl rfl rfl rfl rfl (by omega) (by (try simp); omega) (map_at (by simpa using hp)) rfl) ?_
        refine drn [12, 13, 14] (by kernel_rfl) (by kernel_rfl) rfl rfl ?_
        refine AH_end (by kernel_rfl) ?_
        refine rn rfl ?_
        refine cut_end [27, 5, 4, 3, 0] [0] rfl ⟨ltS y p, fun h => ⟨hji, fun x hx => ?_⟩, fun h x hx => ?_, rfl⟩
        · rw [hy] at hx; cases hx; exact h
        · rw [hy] at hx; cases hx; exact h
      · have hji : ¬ j < i := by simpa using h2
        refine drn [5, 6, 7, 8, 9, 10, 11, 12, 13, 14] (by kernel_rfl) (by kernel_rfl) rfl rfl ?_
        refine AH_end (by kernel_rfl) ?_
        refine rn rfl ?_
        refine cut_end [27, 5, 4, 3, 0] [0] rfl ⟨false, (fun h => by cases h), fun _ x hx => ?_, rfl⟩
        have := lt_of_some hx; omega
    rintro σ' ⟨b, hb1, hb2, rfl⟩
    refine rn rfl ?_
    refine goal_cond rfl (fun h2 => ?_) (fun h2 => ?_)
    · obtain ⟨hji, hlt⟩ := hb1 h2
      obtain ⟨y, hy⟩ := at_some (xs := out) (i := j) (by omega)
      refine rn rfl ?_
      refine round_keep (i - (j + 1)) [5, 4, 3, 0] [0] (by omega) rfl ⟨_, j + 1, wrap64 (by omega) (by omega), by omega, rfl, ?_, rfl⟩
      rw [all_take_succ hy, hall, hlt y hy]; rfl
    refine rn rfl ?_
    refine round_ext ?_
    refine rn rfl ?_
    have htw := tw_at hall (hb2 h2)
    have hins : insS p out = out.take j ++ [p] ++ out.drop j := by simp [insS, htw.1, htw.2]
    refine goal_cut (fun σ' => σ' = ⟨[(44, .one (.bool true)), (5, .one (.int .i64 j)), (4, .one (.int .i64 i)), (3, .one (.os 0 0 i i)), (0, .one (.fs (xs.map eS)))], [ownS out], []⟩) ?_ ?_
    · refine goal_draw' [0] 15 rfl ?_
      refine drn [0, 1, 2, 3, 4] (by kernel_rfl) (by kernel_rfl) rfl rfl ?_
      refine AH_guard (i := 5) rfl rfl rfl (fun h4 => ?_) (fun h4 => ?_) <;> (try simp only [gt_iff_lt, ge_iff_le, bne_iff_ne, ne_eq, bne_eq_false_iff_eq, beq_iff_eq, beq_eq_false_iff_ne, Bool.not_eq_true', Bool.not_eq_false', decide_eq_true_eq, decide_eq_false_iff_not, List.length_map] at h4)
      · refine drn [5, 6, 7, 8, 9, 10, 11, 12, 13, 14] (by kernel_rfl) (by kernel_rfl) rfl rfl ?_
        refine AH_end (by kernel_rfl) ?_
        refine rn rfl ?_
        exact cut_end [44, 5, 4, 3, 0] [0] rfl rfl
      · have hji : j < i := by omega
        obtain ⟨y, hy⟩ := at_some (xs := out) (i := j) (by omega)
        have hne : (!(y == p)) = true := by
          have : y ≠ p := fun h0 => hnew (h0 ▸ List.mem_of_getElem? hy)
          simp [this]
        refine drn [5, 6, 9, 10] (by kernel_rfl) (by kernel_rfl) rfl rfl ?_
        refine AH_did 7 rfl (by kernel_rfl) (by kernel_rfl) (by kernel_rfl) rfl rfl (dA_indexOwn rfl rfl rfl rfl rfl rfl rfl rfl rfl (by omega) (by (try simp); omega)) ?_
        refine AH_did 8 rfl (by kernel_rfl) (by kernel_rfl) (by kernel_rfl) rfl rfl (dA_loadEl (eS y) rfl rfl rfl rfl (map_at (by simpa using hy)) rfl rfl rfl) ?_
        refine AH_did 11 rfl (by kernel_rfl) (by kernel_rfl) (by kernel_rfl) rfl rfl (dA_index (eS p) rfl rfl rfl rfl rfl rfl rfl (by omega) (by (try simp); omega) (map_at (by simpa using hp)) rfl) ?_
        refine drn [12, 13, 14] (by kernel_rfl) (by kernel_rfl) rfl rfl ?_
        refine AH_end (by kernel_rfl) ?_
        refine rn rfl ?_
        refine cut_end [44, 5, 4, 3, 0] [0] rfl ?_
        rw [← hne]; rfl
    rintro σ' rfl
    refine rn rfl ?_
    refine goal_cond rfl (fun _ => ?_) (fun h => by cases h)
    refine rn rfl ?_
    refine goal_cut (fun σ' => σ' = ⟨[(4, .one (.int .i64 i)), (3, .one (.os 0 0 (i + 1) (i + 1))), (0, .one (.fs (xs.map eS)))], [ownS (insS p out)], []⟩) ?_ ?_
    · refine goal_draw' [0] 16 rfl ?_
      refine drn [1, 2, 5, 6, 11, 12] (by kernel_rfl) (by kernel_rfl) rfl rfl ?_
      refine AH_did 3 rfl (by kernel_rfl) (by kernel_rfl) (by kernel_rfl) rfl rfl (dA_sliceOwn 0 j i 0 j i rfl rfl rfl rfl rfl rfl rfl Bnd.none_ (Bnd.some_ rfl rfl) (.inl ⟨rfl, rfl⟩) (by omega) (by omega) (Nat.le_refl _) (by simp; omega) rfl rfl rfl rfl) ?_
      refine AH_did 7 rfl (by kernel_rfl) (by kernel_rfl) (by kernel_rfl) rfl rfl (dA_index (eS p) rfl rfl rfl rfl rfl rfl rfl (by omega) (by simp; omega) (map_at (by simpa using hp)) rfl) ?_
      refine drn [8] (by kernel_rfl) (by kernel_rfl) rfl rfl ?_
      refine AH_did 13 rfl (by kernel_rfl) (by kernel_rfl) (by kernel_rfl) rfl rfl (dA_sliceOwn j i i j (i - j) (i - j) rfl rfl rfl rfl rfl rfl rfl (Bnd.some_ rfl rfl) Bnd.none_ (.inl ⟨rfl, rfl⟩) (by omega) (by omega) (Nat.le_refl _) (by simp; omega) rfl (by simp) rfl rfl) ?_
      refine AH_two (i := 0) (j := 9) (by kernel_rfl) (step_did rfl rfl (dA_step rfl)) (mdOk rfl) (step_did rfl rfl (dA_step rfl)) (mdOk rfl) ?_ ?_ <;> rintro _ rfl
      · refine AH_two (i := 4) (j := 9) (by kernel_rfl) (step_did rfl rfl (dA_append (old := []) ((out.take j).map eS) j true (Dst.own rfl rfl rfl rfl rfl (Nat.le_refl 0) rfl) (Src.os rfl rfl (by simp; omega) rfl) rfl rfl rfl rfl rfl rfl rfl rfl (by simp) (by simpa using rows_len eS_len (out.take j)) (by simp only [List.length_map, List.length_nil, List.length_take, List.length_drop]; show _ * 16 ≤ _; omega) (by simp; omega) (by simp) (by simp; omega) (fun _ => noOwnR_map _ eS_noOwn _))) (mdOk rfl) (step_did rfl rfl (dA_step rfl)) (mdOk rfl) ?_ ?_ <;> rintro _ rfl
        · refine AH_one (i := 9) (by kernel_rfl) (step_did rfl rfl (dA_step rfl)) (mdOk rfl) ?_
          rintro _ rfl
          refine AH_one (i := 10) (by kernel_rfl) (step_did rfl rfl (dA_append (old := (out.take j).map eS) (rows := [p].map eS) ((out.take j ++ [p]).map eS) (j + 1) true (Dst.own rfl rfl rfl rfl rfl (by simp; omega) (whole (by simp; omega))) (Src.os rfl rfl (Nat.le_refl 1) rfl) rfl rfl rfl rfl rfl rfl rfl rfl (rows_len eS_len _) (rows_len eS_len _) (by simp only [List.length_map, List.length_take]; show _ * 16 ≤ _; simp; omega) (by simp; omega) (by simp) (by simp; omega) (fun _ => noOwnR_map _ eS_noOwn _))) (mdOk rfl) ?_
          rintro _ rfl
          refine AH_one (i := 14) (by kernel_rfl) (step_did rfl rfl (dA_append (old := (out.take j ++ [p]).map eS) (rows := (out.drop j).map eS) ((insS p out).map eS) (i + 1) true (Dst.own rfl rfl rfl rfl rfl (by simp; omega) (whole (by simp; omega))) (Src.os rfl rfl (by simp; omega) (tailRows (by omega))) rfl rfl rfl rfl rfl rfl rfl rfl (rows_len eS_len _) (rows_len eS_len _) (by simp only [List.length_map, List.length_append, List.length_take, List.length_drop, List.length_cons, List.length_nil]; show _ * 16 ≤ _; omega) (by simp; omega) (by rw [hins]; simp) (by rw [List.length_map, insS_length]; omega) (fun _ => noOwnR_map _ eS_noOwn _))) (mdOk rfl) ?_
          rintro _ rfl
          refine drn [15] (by kernel_rfl) (by kernel_rfl) rfl rfl ?_
          refine AH_end (by kernel_rfl) ?_
          exact cut_end [4, 3, 0] [5] rfl rfl
        · refine AH_one (i := 4) (by kernel_rfl) (step_did rfl rfl (dA_append (old := []) ((out.take j).map eS) j true (Dst.own rfl rfl rfl rfl rfl (Nat.le_refl 0) rfl) (Src.os rfl rfl (by simp; omega) rfl) rfl rfl rfl rfl rfl rfl rfl rfl (by simp) (by simpa using rows_len eS_len (out.take j)) (by simp only [List.length_map, List.length_nil, List.length_take, List.length_drop]; show _ * 16 ≤ _; omega) (by simp; omega) (by simp) (by simp; omega) (fun _ => noOwnR_map _ eS_noOwn _))) (mdOk rfl) ?_
          rintro _ rfl
          refine AH_one (i := 10) (by kernel_rfl) (step_did rfl rfl (dA_append (old := (out.take j).map eS) (rows := [p].map eS) ((out.take j ++ [p]).map eS) (j + 1) true (Dst.own rfl rfl rfl rfl rfl (by simp; omega) (whole (by simp; omega))) (Src.os rfl rfl (Nat.le_refl 1) rfl) rfl rfl rfl rfl rfl rfl rfl rfl (rows_len eS_len _) (rows_len eS_len _) (by simp only [List.length_map, List.length_take]; show _ * 16 ≤ _; simp; omega) (by simp; omega) (by simp) (by simp; omega) (fun _ => noOwnR_map _ eS_noOwn _))) (mdOk rfl) ?_
          rintro _ rfl
          refine AH_one (i := 14) (by kernel_rfl) (step_did rfl rfl (dA_append (old := (out.take j ++ [p]).map eS) (rows := (out.drop j).map eS) ((insS p out).map eS) (i + 1) true (Dst.own rfl rfl rfl rfl rfl (by simp; omega) (whole (by simp; omega))) (Src.os rfl rfl (by simp; omega) (tailRows (by omega))) rfl rfl rfl rfl rfl rfl rfl rfl (rows_len eS_len _) (rows_len eS_len _) (by simp only [List.length_map, List.length_append, List.length_take, List.length_drop, List.length_cons, List.length_nil]; show _ * 16 ≤ _; omega) (by simp; omega) (by rw [hins]; simp) (by rw [List.length_map, insS_length]; omega) (fun _ => noOwnR_map _ eS_noOwn _))) (mdOk rfl) ?_
          rintro _ rfl
          refine drn [15] (by kernel_rfl) (by kernel_rfl) rfl rfl ?_
          refine AH_end (by kernel_rfl) ?_
          exact cut_end [4, 3, 0] [5] rfl rfl
      · refine AH_one (i := 0) (by kernel_rfl) (step_did rfl rfl (dA_step rfl)) (mdOk rfl) ?_
        rintro _ rfl
        refine AH_one (i := 4) (by kernel_rfl) (step_did rfl rfl (dA_append (old := []) ((out.take j).map eS) j true (Dst.own rfl rfl rfl rfl rfl (Nat.le_refl 0) rfl) (Src.os rfl rfl (by simp; omega) rfl) rfl rfl rfl rfl rfl rfl rfl rfl (by simp) (by simpa using rows_len eS_len (out.take j)) (by simp only [List.length_map, List.length_nil, List.length_take, List.length_drop]; show _ * 16 ≤ _; omega) (by simp; omega) (by simp) (by simp; omega) (fun _ => noOwnR_map _ eS_noOwn _))) (mdOk rfl) ?_
        rintro _ rfl
        refine AH_one (i := 10) (by kernel_rfl) (step_did rfl rfl (dA_append (old := (out.take j).map eS) (rows := [p].map eS) ((out.take j ++ [p]).map eS) (j + 1) true (Dst.own rfl rfl rfl rfl rfl (by simp; omega) (whole (by simp; omega))) (Src.os rfl rfl (Nat.le_refl 1) rfl) rfl rfl rfl rfl rfl rfl rfl rfl (rows_len eS_len _) (rows_len eS_len _) (by simp only [List.length_map, List.length_take]; show _ * 16 ≤ _; simp; omega) (by simp; omega) (by simp) (by simp; omega) (fun _ => noOwnR_map _ eS_noOwn _))) (mdOk rfl) ?_
        rintro _ rfl
        refine AH_one (i := 14) (by kernel_rfl) (step_did rfl rfl (dA_append (old := (out.take j ++ [p]).map eS) (rows := (out.drop j).map eS) ((insS p out).map eS) (i + 1) true (Dst.own rfl rfl rfl rfl rfl (by simp; omega) (whole (by simp; omega))) (Src.os rfl rfl (by simp; omega) (tailRows (by omega))) rfl rfl rfl rfl rfl rfl rfl rfl (rows_len eS_len _) (rows_len eS_len _) (by simp only [List.length_map, List.length_append, List.length_take, List.length_drop, List.length_cons, List.length_nil]; show _ * 16 ≤ _; omega) (by simp; omega) (by rw [hins]; simp) (by rw [List.length_map, insS_length]; omega) (fun _ => noOwnR_map _ eS_noOwn _))) (mdOk rfl) ?_
        rintro _ rfl
        refine drn [15] (by kernel_rfl) (by kernel_rfl) rfl rfl ?_
        refine AH_end (by kernel_rfl) ?_
        exact cut_end [4, 3, 0] [5] rfl rfl
    rintro σ' rfl
    refine rn rfl ?_
    refine round_keep (xs.length - (i + 1)) [4, 3, 0] [0] (by omega) rfl ⟨_, i + 1, i + 1, insS p out, wrap64 (by omega) (by omega), by omega, rfl, by rw [insS_length]; omega, hst.symm, rfl⟩
  · refine rn rfl (round_ext ?_)
    refine rn rfl (fin_is [] rfl ⟨?_, rfl⟩)
    rw [takeAll eS _ _ rfl, hout, show i = xs.length by omega, List.take_length]

def bareQ (p : Param) : Bool := p.kind == 0 && !p.hasD

def openQ (q : Param) (i : Nat) (n : Nat) : Bool := q.kind == 3 || (q.kind == 1 && decide (n ≤ i))

def nedQ (n : Nat) (x : Param × Nat) : Bool := openQ x.1 x.2 n && !x.1.hasD

def needNs (s : Sig) (n : Nat) : List Str := (s.zipIdx.filter (nedQ n)).map (fun x => x.1.name)

def takesC (s : Sig) (n : Nat) : Bool := !(decide (placesQ s < n) && !s.any (kIs 2)) && (s.drop n).all (fun p => !bareQ p)

def goodC (s : Sig) (n : Int) : Bool := okSig s && inR n 0 8 && takesC s n.toNat

def NeedsF (s : Sig) (n : Int) : List Str × Bool := if goodC s n then (sortS (needNs s n.toNat), true) else ([], false)

theorem needNs_succ {s : Sig} {n i : Nat} {q : Param} (hq : s[i]? = some q) : needNs (s.take (i + 1)) n = needNs (s.take i) n ++ (if nedQ n (q, i) then [q.name] else []) := by
  have hl : (s.take i).length = i := by have := lt_of_some hq; simp; omega
  unfold needNs
  rw [← take_snoc hq, List.zipIdx_append, List.filter_append, List.map_append, hl]
  congr 1
  simp only [List.zipIdx_cons, List.zipIdx_nil, Nat.zero_add, List.filter_cons, List.filter_nil]
  split <;> rfl

theorem needNs_sub (s : Sig) (n : Nat) : List.Sublist (needNs s n) (s.map Param.name) := by
  have h1 : s.map Param.name = s.zipIdx.map (fun x => x.1.name) := by
    have : (s.zipIdx.map Prod.fst) = s := by simp
    conv => lhs; rw [← this, List.map_map]
    rfl
  rw [h1]
  exact List.filter_sublist.map _

theorem needNs_len (s : Sig) (n : Nat) : (needNs s n).length ≤ s.length := by
  have := (needNs_sub s n).length_le
  simpa using this

theorem takes_iff {s : Sig} {n : Nat} : (s.drop n).all (fun p => !bareQ p) = true ↔ ∀ j p, s[j]? = some p → n ≤ j → bareQ p = false := by
  rw [List.all_eq_true]
  constructor
  · intro h j p hp hj
    have : p ∈ s.drop n := by
      have h2 : (s.drop n)[j - n]? = some p := by rw [List.getElem?_drop, show n + (j - n) = j by omega]; exact hp
      exact List.mem_of_getElem? h2
    simpa using h p this
  · intro h p hp
    obtain ⟨k, hk⟩ := List.getElem?_of_mem hp
    rw [List.getElem?_drop] at hk
    simpa using h _ p hk (by omega)

theorem open_ct (q : Param) (i n : Nat) : ACalls pk 155 [.agg (eQ q), .one (.int .i64 i), .one (.int .i64 n)] [] (fun r o => r = .one (.bool (openQ q i n)) ∧ o = []) := by
  refine acalls_of_body Tryz.func155 rfl (by kernel_rfl) rfl ?_
  refine rn rfl ?_
  refine goal_guard rfl rfl rfl (fun h1 => ?_) (fun h1 => ?_) <;> (try simp only [gt_iff_lt, ge_iff_le, bne_iff_ne, ne_eq, bne_eq_false_iff_eq, beq_iff_eq, beq_eq_false_iff_ne, Bool.not_eq_true', Bool.not_eq_false', decide_eq_true_eq, decide_eq_false_iff_not, List.length_map] at h1)
  · refine rn rfl (fin_is [] rfl ⟨?_, rfl⟩)
    simp [openQ, h1]
  · refine rn rfl ?_
    refine goal_guard rfl rfl rfl (fun h2 => ?_) (fun h2 => ?_) <;> (try simp only [gt_iff_lt, ge_iff_le, bne_iff_ne, ne_eq, bne_eq_false_iff_eq, beq_iff_eq, beq_eq_false_iff_ne, Bool.not_eq_true', Bool.not_eq_false', decide_eq_true_eq, decide_eq_false_iff_not, List.length_map] at h2)
    · refine rn rfl (fin_is [] rfl ⟨?_, rfl⟩)
      simp [openQ, h1, h2]
    · refine rn rfl (fin_is [] rfl ⟨?_, rfl⟩)
      simp [openQ, h1, h2]

theorem takesCount_ct (s : Sig) (n : Nat) (hl : s.length ≤ 1048576) (hn : n ≤ 8) : ACalls pk 153 [.agg (eG s), .one (.int .i64 n)] [] (fun r o => r = .one (.bool (takesC s n)) ∧ o = []) := by
  have hk := idxI_ge (pred := kIs 2) (xs := s) (i := 0)
  refine acalls_of_body Tryz.func153 rfl (by kernel_rfl) rfl ?_
  refine rt 1 rfl ?_
  refine goal_cutR (fun σ' => (decide (placesQ s < n) && !s.any (kIs 2)) = false ∧ σ' = ⟨[(2, .one (.op 0 0 0)), (1, .one (.int .i64 n))], [some ⟨1, [eG s], false, false, true⟩], []⟩) ?_ ?_
  · refine rn rfl ?_
    refine goal_step (step_call [] rfl rfl rfl rfl rfl rfl (splaces_ct s (by omega))) ?_
    rintro σ2 ⟨r, o', ⟨rfl, rfl⟩, hσ⟩
    obtain rfl := Option.some.inj hσ
    clear hσ
    refine rn rfl ?_
    refine goal_guard rfl rfl rfl (fun h1 => ?_) (fun h1 => ?_) <;> (try simp only [gt_iff_lt, ge_iff_le, bne_iff_ne, ne_eq, bne_eq_false_iff_eq, beq_iff_eq, beq_eq_false_iff_ne, Bool.not_eq_true', Bool.not_eq_false', decide_eq_true_eq, decide_eq_false_iff_not, List.length_map] at h1)
    · refine rn rfl ?_
      refine goal_step (step_call [] rfl rfl rfl rfl rfl rfl (kindAt_ct s 2 (by omega))) ?_
      rintro σ2 ⟨r, o', ⟨rfl, rfl⟩, hσ⟩
      obtain rfl := Option.some.inj hσ
      clear hσ
      refine rn rfl ?_
      refine goal_cond rfl (fun h2 => ?_) (fun h2 => ?_) <;> (try simp only [gt_iff_lt, ge_iff_le, bne_iff_ne, ne_eq, bne_eq_false_iff_eq, beq_iff_eq, beq_eq_false_iff_ne, Bool.not_eq_true', Bool.not_eq_false', decide_eq_true_eq, decide_eq_false_iff_not, List.length_map] at h2)
      · have h3 : s.any (kIs 2) = false := by
          cases h : s.any (kIs 2) with
          | false => rfl
          | true => have := hk.2 h; omega
        refine rn rfl ?_
        refine cut_ret ?_
        refine fin_is [] rfl ⟨?_, rfl⟩
        have : placesQ s < n := by omega
        simp [takesC, h3, this]
      · have h3 : s.any (kIs 2) = true := hk.1 (by omega)
        refine rn rfl ?_
        exact cut_nrm [2, 1] [0] rfl ⟨by simp [h3], rfl⟩
    · refine rn rfl ?_
      exact cut_nrm [2, 1] [0] rfl ⟨by have : ¬ placesQ s < n := by omega
                                       simp [this], rfl⟩
  rintro _ ⟨hpre, rfl⟩
  refine rn rfl ?_
  refine goal_loop_keep (fun m σ => ∃ (q : Int) (i : Nat), q = i ∧ n ≤ i ∧ m = s.length - i ∧ (∀ j p, s[j]? = some p → n ≤ j → j < i → bareQ p = false) ∧
      σ = ⟨[(5, .one (.int .i64 q)), (2, .one (.op 0 0 0))], [some ⟨1, [eG s], false, false, true⟩], []⟩) (s.length - n) [5, 2] [0] rfl
    ⟨_, n, rfl, by omega, by omega, fun j p _ h1 h2 => by omega, rfl⟩ ?_
  rintro m σ ⟨q, i, rfl, hi, rfl, hall, rfl⟩
  refine rn rfl ?_
  refine goal_cond rfl (fun h => ?_) (fun h => ?_) <;> (try simp only [gt_iff_lt, ge_iff_le, bne_iff_ne, ne_eq, bne_eq_false_iff_eq, beq_iff_eq, beq_eq_false_iff_ne, Bool.not_eq_true', Bool.not_eq_false', decide_eq_true_eq, decide_eq_false_iff_not, List.length_map] at h)
  · obtain ⟨p, hp⟩ := at_some (xs := s) (i := i) (by omega)
    refine rn rfl ?_
    refine goal_did rfl rfl (dA_index (eQ p) rfl rfl rfl rfl rfl rfl rfl (by omega) (by (try simp); omega) (map_at (by simpa using hp)) rfl) ?_
    refine rn rfl ?_
    refine goal_guard rfl rfl rfl (fun h1 => ?_) (fun h1 => ?_) <;> (try simp only [gt_iff_lt, ge_iff_le, bne_iff_ne, ne_eq, bne_eq_false_iff_eq, beq_iff_eq, beq_eq_false_iff_ne, Bool.not_eq_true', Bool.not_eq_false', decide_eq_true_eq, decide_eq_false_iff_not, List.length_map] at h1)
    · refine rn rfl ?_
      refine goal_did rfl rfl (dA_index (eQ p) rfl rfl rfl rfl rfl rfl rfl (by omega) (by (try simp); omega) (map_at (by simpa using hp)) rfl) ?_
      refine rn rfl ?_
      refine goal_cond rfl (fun h2 => ?_) (fun h2 => ?_) <;> (try simp only [gt_iff_lt, ge_iff_le, bne_iff_ne, ne_eq, bne_eq_false_iff_eq, beq_iff_eq, beq_eq_false_iff_ne, Bool.not_eq_true', Bool.not_eq_false', decide_eq_true_eq, decide_eq_false_iff_not, List.length_map] at h2)
      · refine rn rfl (round_ret (fin_is [] rfl ⟨?_, rfl⟩))
        have hb : bareQ p = true := by simp [bareQ, h1, h2]
        have : (s.drop n).all (fun p => !bareQ p) = false := by
          cases h : (s.drop n).all (fun p => !bareQ p) with
          | false => rfl
          | true => rw [takes_iff.1 h i p hp hi] at hb; cases hb
        simp [takesC, this]
      · have hb : bareQ p = false := by simp [bareQ, h2]
        refine rn rfl ?_
        refine round_keep (s.length - (i + 1)) [5, 2] [0] (by omega) rfl ⟨_, i + 1, wrap64 (by omega) (by omega), by omega, rfl, fun j r hr h3 h4 => ?_, rfl⟩
        by_cases hij : j = i
        · subst hij; rw [hp] at hr; cases hr; exact hb
        · exact hall j r hr h3 (by omega)
    · have hb : bareQ p = false := by simp [bareQ, h1]
      refine rn rfl ?_
      refine round_keep (s.length - (i + 1)) [5, 2] [0] (by omega) rfl ⟨_, i + 1, wrap64 (by omega) (by omega), by omega, rfl, fun j r hr h3 h4 => ?_, rfl⟩
      by_cases hij : j = i
      · subst hij; rw [hp] at hr; cases hr; exact hb
      · exact hall j r hr h3 (by omega)
  · refine rn rfl (round_ext ?_)
    refine rn rfl (fin_is [] rfl ⟨?_, rfl⟩)
    have : (s.drop n).all (fun p => !bareQ p) = true := takes_iff.2 (fun j p hp hj => hall j p hp hj (by have := lt_of_some hp; omega))
    simp only [takesC, hpre, this]; rfl

theorem goodCount_ct (s : Sig) (n : Int) (hl : LenS s) : ACalls pk 83 [.agg (eG s), .one (.int .i64 n)] [] (fun r o => r = .one (.bool (goodC s n)) ∧ o = []) := by
  obtain ⟨s1, s2⟩ := hl
  refine acalls_of_body Tryz.func83 rfl (by kernel_rfl) rfl ?_
  refine rn rfl ?_
  refine goal_step (step_call [] rfl rfl rfl rfl rfl rfl (svalidSig_ct s (by omega) s2)) ?_
  rintro σ2 ⟨r, o', ⟨rfl, rfl⟩, hσ⟩
  obtain rfl := Option.some.inj hσ
  clear hσ
  refine rn rfl ?_
  refine goal_guard rfl rfl rfl (fun h1 => ?_) (fun h1 => ?_) <;> (try simp only [gt_iff_lt, ge_iff_le, bne_iff_ne, ne_eq, bne_eq_false_iff_eq, beq_iff_eq, beq_eq_false_iff_ne, Bool.not_eq_true', Bool.not_eq_false', decide_eq_true_eq, decide_eq_false_iff_not, List.length_map] at h1)
  · refine rn rfl ?_
    refine goal_step (step_call [] rfl rfl rfl rfl rfl rfl (sin_ct n 0 8)) ?_
    rintro σ2 ⟨r, o', ⟨rfl, rfl⟩, hσ⟩
    obtain rfl := Option.some.inj hσ
    clear hσ
    refine rn rfl ?_
    refine goal_guard rfl rfl rfl (fun h2 => ?_) (fun h2 => ?_) <;> (try simp only [gt_iff_lt, ge_iff_le, bne_iff_ne, ne_eq, bne_eq_false_iff_eq, beq_iff_eq, beq_eq_false_iff_ne, Bool.not_eq_true', Bool.not_eq_false', decide_eq_true_eq, decide_eq_false_iff_not, List.length_map] at h2)
    · have hr : 0 ≤ n ∧ n ≤ 8 := by simp [inR] at h2; omega
      obtain ⟨k, rfl⟩ : ∃ k : Nat, n = k := ⟨n.toNat, by omega⟩
      refine rn rfl ?_
      refine goal_step (step_call [] rfl rfl rfl rfl rfl rfl (takesCount_ct s k s1 (by omega))) ?_
      rintro σ2 ⟨r, o', ⟨rfl, rfl⟩, hσ⟩
      obtain rfl := Option.some.inj hσ
      clear hσ
      refine rn rfl ?_
      refine rn rfl (fin_is [] rfl ⟨?_, rfl⟩)
      simp [goodC, h1, h2]
    · refine rn rfl (fin_is [] rfl ⟨?_, rfl⟩)
      simp [goodC, h1, h2]
  · refine goal_guard rfl rfl rfl (fun h => by cases h) (fun _ => ?_)
    refine rn rfl (fin_is [] rfl ⟨?_, rfl⟩)
    simp [goodC, h1]

theorem sneeds_ct (s : Sig) (n : Nat) (hs : OkS s) (hn : n ≤ 8) : ACalls pk 86 [.agg (eG s), .one (.int .i64 n)] [] (fun r o => r = .one (.fs ((sortS (needNs s n)).map eS)) ∧ o = []) := by
  have hl := hs.len
  have hnl := needNs_len s n
  have hnd : (needNs s n).Nodup := hs.nodup.sublist (needNs_sub s n)
  refine acalls_of_body Tryz.func86 rfl (by kernel_rfl) rfl ?_
  refine rn rfl ?_
  refine goal_loop_keep (fun m σ => ∃ (q : Int) (i l : Nat) (acc : List Str), q = i ∧ i ≤ s.length ∧ m = s.length - i ∧ l = acc.length ∧ acc = needNs (s.take i) n ∧
      σ = ⟨[(6, .one (.int .i64 q)), (5, .one (.os 1 0 l l)), (2, .one (.op 0 0 0)), (1, .one (.int .i64 n))], [some ⟨1, [eG s], false, false, true⟩, ownS acc], []⟩) s.length [6, 5, 2, 1] [0, 1] rfl
    ⟨_, 0, 0, [], rfl, by omega, by omega, rfl, rfl, rfl⟩ ?_
  rintro m σ ⟨q, i, l, acc, rfl, hi, rfl, rfl, hacc, rfl⟩
  have hal := needNs_len (s.take i) n
  rw [← hacc, List.length_take] at hal
  refine rn rfl ?_
  refine goal_cond rfl (fun h => ?_) (fun h => ?_) <;> (try simp only [gt_iff_lt, ge_iff_le, bne_iff_ne, ne_eq, bne_eq_false_iff_eq, beq_iff_eq, beq_eq_false_iff_ne, Bool.not_eq_true', Bool.not_eq_false', decide_eq_true_eq, decide_eq_false_iff_not, List.length_map] at h)
  · obtain ⟨p, hp⟩ := at_some (xs := s) (i := i) (by omega)
    have hst := needNs_succ (n := n) hp
    rw [← hacc] at hst
    refine rn rfl ?_
    refine goal_did rfl rfl (dA_index (eQ p) rfl rfl rfl rfl rfl rfl rfl (by omega) (by (try simp); omega) (map_at (by simpa using hp)) rfl) ?_
    refine rn rfl ?_
    refine goal_step (step_call [] rfl rfl rfl rfl rfl rfl (open_ct p i n)) ?_
    rintro σ2 ⟨r, o', ⟨rfl, rfl⟩, hσ⟩
    obtain rfl := Option.some.inj hσ
    clear hσ
    refine rn rfl ?_
    refine goal_guard rfl rfl rfl (fun h1 => ?_) (fun h1 => ?_) <;> (try simp only [gt_iff_lt, ge_iff_le, bne_iff_ne, ne_eq, bne_eq_false_iff_eq, beq_iff_eq, beq_eq_false_iff_ne, Bool.not_eq_true', Bool.not_eq_false', decide_eq_true_eq, decide_eq_false_iff_not, List.length_map] at h1)
    · refine rn rfl ?_
      refine goal_did rfl rfl (dA_index (eQ p) rfl rfl rfl rfl rfl rfl rfl (by omega) (by (try simp); omega) (map_at (by simpa using hp)) rfl) ?_
      refine rn rfl ?_
      refine goal_cond rfl (fun h2 => ?_) (fun h2 => ?_) <;> (try simp only [gt_iff_lt, ge_iff_le, bne_iff_ne, ne_eq, bne_eq_false_iff_eq, beq_iff_eq, beq_eq_false_iff_ne, Bool.not_eq_true', Bool.not_eq_false', decide_eq_true_eq, decide_eq_false_iff_not, List.length_map] at h2)
      · refine rn rfl ?_
        refine goal_did rfl rfl (dA_index (eQ p) rfl rfl rfl rfl rfl rfl rfl (by omega) (by (try simp); omega) (map_at (by simpa using hp)) rfl) ?_
        refine rn rfl ?_
        refine goal_did rfl rfl (dA_append (old := (acc).map eS) (rows := ([p.name] : List Str).map eS) (((acc) ++ ([p.name] : List Str)).map eS) (acc.length + 1) true (Dst.own rfl rfl rfl rfl rfl (by first | (simp; done) | (simp; omega)) (whole (by first | (simp; done) | (simp; omega)))) (Src.os rfl rfl (Nat.le_refl 1) rfl) rfl rfl rfl rfl rfl rfl rfl rfl (rows_len eS_len _) (rows_len eS_len _) (by (try simp only [List.length_map, List.length_append, List.length_cons, List.length_nil, List.length_take, List.length_drop]); show _ * 16 ≤ _; omega) (by first | (simp; done) | (simp; omega)) (by simp) (by first | (simp; done) | (simp; omega)) (fun _ => noOwnR_map _ eS_noOwn _)) ?_
        refine rn rfl ?_
        refine round_keep (s.length - (i + 1)) [6, 5, 2, 1] [0, 3] (by omega) rfl ⟨_, i + 1, acc.length + 1, acc ++ [p.name], wrap64 (by omega) (by omega), by omega, rfl, by simp, by rw [hst]; simp [nedQ, h1, h2], rfl⟩
      · refine rn rfl ?_
        refine round_keep (s.length - (i + 1)) [6, 5, 2, 1] [0, 1] (by omega) rfl ⟨_, i + 1, acc.length, acc, wrap64 (by omega) (by omega), by omega, rfl, rfl, by rw [hst]; simp [nedQ, h1, h2], rfl⟩
    · refine rn rfl ?_
      refine round_keep (s.length - (i + 1)) [6, 5, 2, 1] [0, 1] (by omega) rfl ⟨_, i + 1, acc.length, acc, wrap64 (by omega) (by omega), by omega, rfl, rfl, by rw [hst]; simp [nedQ, h1], rfl⟩
  · refine rn rfl (round_ext ?_)
    have hfin : acc = needNs s n := by rw [hacc, show i = s.length by omega, List.take_length]
    rw [← hfin] at hnd hnl ⊢
    refine rn rfl ?_
    refine goal_step (step_callE [] rfl rfl rfl rfl rfl rfl (cons_eq (congrArg (fun x => T.one (C.fs x)) (takeAll eS acc _ rfl)) rfl) (sortedTexts_ct acc hnd (by omega))) ?_
    rintro σ2 ⟨r, o', ⟨rfl, rfl⟩, hσ⟩
    obtain rfl := Option.some.inj hσ
    clear hσ
    refine rn rfl ?_
    exact rn rfl (fin_is [] rfl ⟨rfl, rfl⟩)

def allowQ (s : Sig) (n : Nat) (m : Str) : Prop := goesQ s m ∧ ∀ (i : Nat) (p : Param), s[i]? = some p → namedQ p = true → p.name = m → p.kind = 1 → n ≤ i

theorem wrong_allow {s : Sig} (hs : OkS s) {pl : List Int} {q : Pair} : wrongQ s pl q = none ↔ allowQ s pl.length q.name := by
  rw [wrong_iff2 hs]
  unfold allowQ
  refine and_congr_right fun _ => ?_
  constructor
  · intro h i p hp hn he hk
    have := h i p hp hn he
    unfold byPl at this
    rw [placed_kind.2 (.inr hk)] at this
    simpa using this
  · intro h i p hp hn he
    unfold byPl
    cases hpl : placedQ p with
    | false => rfl
    | true =>
      have := h i p hp hn he (by rw [placed_kind] at hpl; rw [named_kind] at hn; omega)
      simp; omega

theorem need_mem {s : Sig} {n : Nat} {m : Str} : m ∈ needNs s n ↔ ∃ (i : Nat) (p : Param), s[i]? = some p ∧ openQ p i n = true ∧ p.hasD = false ∧ p.name = m := by
  unfold needNs nedQ
  simp only [List.mem_map, List.mem_filter, Bool.and_eq_true, Bool.not_eq_true', Prod.exists]
  constructor
  · rintro ⟨p, i, ⟨h1, h2, h3⟩, h4⟩
    exact ⟨i, p, List.mem_zipIdx_iff_getElem?.1 h1, h2, h3, h4⟩
  · rintro ⟨i, p, h1, h2, h3, h4⟩
    exact ⟨p, i, ⟨List.mem_zipIdx_iff_getElem?.2 h1, h2, h3⟩, h4⟩

theorem open_kind {p : Param} {i n : Nat} : openQ p i n = true ↔ p.kind = 3 ∨ (p.kind = 1 ∧ n ≤ i) := by
  simp [openQ]

theorem takesC_iff {s : Sig} {n : Nat} : takesC s n = true ↔ (placesQ s < n → s.any (kIs 2) = true) ∧ ∀ (j : Nat) (p : Param), s[j]? = some p → n ≤ j → bareQ p = false := by
  unfold takesC
  rw [Bool.and_eq_true, takes_iff]
  refine and_congr_left fun _ => ?_
  simp only [Bool.not_eq_true', Bool.and_eq_false_iff, decide_eq_false_iff_not, Bool.not_eq_false']
  constructor
  · rintro (h | h) h1
    · exact absurd h1 h
    · exact h
  · intro h
    by_cases h1 : placesQ s < n
    · exact .inr (h h1)
    · exact .inl h1

theorem acc_law {s : Sig} {f : Flat} (hs : OkS s) (hf : OkF f) : accQ s f = true ↔
    takesC s f.places.length = true ∧ (∀ m ∈ needNs s f.places.length, m ∈ namesOf f.named) ∧ ∀ m ∈ namesOf f.named, allowQ s f.places.length m := by
  rw [acc_iff hs hf, lack_iff, takesC_iff]
  have hw : (∀ q ∈ f.named, wrongQ s f.places q = none) ↔ ∀ m ∈ namesOf f.named, allowQ s f.places.length m := by
    constructor
    · intro h m hm
      obtain ⟨q, hq, rfl⟩ := List.mem_map.1 hm
      exact (wrong_allow hs).1 (h q hq)
    · intro h q hq
      exact (wrong_allow hs).2 (h _ (List.mem_map_of_mem hq))
  rw [hw]
  constructor
  · rintro ⟨h1, h2, h3⟩
    refine ⟨⟨h1, fun j p hp hj => ?_⟩, fun m hm => ?_, h2⟩
    · unfold bareQ
      cases hk : p.kind == 0 with
      | false => rfl
      | true =>
        simp only [beq_iff_eq] at hk
        rcases h3 j p hp (single_kind.2 (.inl hk)) with h | h | ⟨h, _⟩
        · simp [h]
        · simp only [byPl, Bool.and_eq_true, decide_eq_true_eq] at h; omega
        · rw [named_kind] at h; omega
    · obtain ⟨i, p, hp, ho, hd, rfl⟩ := need_mem.1 hm
      rw [open_kind] at ho
      rcases h3 i p hp (single_kind.2 (by omega)) with h | h | ⟨_, h⟩
      · rw [hd] at h; cases h
      · simp only [byPl, Bool.and_eq_true, decide_eq_true_eq, placed_kind] at h; omega
      · exact any_names.1 h
  · rintro ⟨⟨h1, h3⟩, h4, h2⟩
    refine ⟨h1, h2, fun i p hp hsg => ?_⟩
    cases hd : p.hasD with
    | true => exact .inl rfl
    | false =>
      right
      rw [single_kind] at hsg
      by_cases hi : placedQ p = true ∧ i < f.places.length
      · left; simp [byPl, hi]
      · right
        have hne : p.kind ≠ 0 := fun h0 => by
          have := h3 i p hp (Nat.le_of_not_lt fun h5 => hi ⟨placed_kind.2 (.inl h0), h5⟩)
          simp [bareQ, h0, hd] at this
        refine ⟨named_kind.2 (by omega), any_names.2 (h4 _ (need_mem.2 ⟨i, p, hp, open_kind.2 ?_, hd, rfl⟩))⟩
        rcases hsg with h | h | h
        · exact absurd h hne
        · exact .inr ⟨h, Nat.le_of_not_lt fun h5 => hi ⟨placed_kind.2 (.inr h), h5⟩⟩
        · exact .inl h

theorem need_allow {s : Sig} (hs : OkS s) {n : Nat} {m : Str} (h : m ∈ needNs s n) : allowQ s n m := by
  obtain ⟨i, p, hp, ho, hd, rfl⟩ := need_mem.1 h
  rw [open_kind] at ho
  refine ⟨.inl ⟨i, p, hp, named_kind.2 (by omega), rfl⟩, fun j q hq hn he hk => ?_⟩
  obtain rfl := name_inj hs hq hp he
  rw [hp] at hq; cases hq
  omega

theorem allow_dec {s : Sig} (hs : OkS s) {n : Nat} {m : Str} : allowQ s n m ↔ 0 ≤ takesQ s m ∧ ∀ p, s[(takesQ s m).toNat]? = some p → p.kind = 4 ∨ openQ p (takesQ s m).toNat n = true := by
  unfold allowQ
  rw [takes_goes hs]
  constructor
  · rintro ⟨h1, h2⟩
    refine ⟨h1, fun p hp => ?_⟩
    obtain ⟨p', hp', _, hk⟩ := takesQ_some (show ¬ takesQ s m < 0 by have := (takes_goes hs).2 h1; omega)
    rw [hp] at hp'
    cases hp'
    rcases hk with ⟨h3, h4⟩ | h3
    · right
      rw [open_kind]
      rw [named_kind] at h3
      rcases h3 with h3 | h3
      · exact .inr ⟨h3, h2 _ p hp (named_kind.2 (.inl h3)) h4 h3⟩
      · exact .inl h3
    · exact .inl h3
  · rintro ⟨h1, h2⟩
    refine ⟨h1, fun i p hp hn he hk => ?_⟩
    have ht := takes_named hs hp hn
    rw [he] at ht
    have := h2 p (by rw [ht]; simpa using hp)
    rw [ht, open_kind] at this
    simp only [Int.toNat_natCast] at this
    omega

theorem need_skip {n i : Nat} {p : Param} (h : singleQ p = false ∨ p.hasD = true ∨ (placedQ p = true ∧ i < n)) : nedQ n (p, i) = false := by
  unfold nedQ openQ
  simp only
  rcases h with h | h | ⟨h, hi⟩
  · have : p.kind ≠ 1 ∧ p.kind ≠ 3 := by
      constructor <;> intro h0 <;> simp [singleQ, placedQ, h0] at h
    simp [this.1, this.2]
  · simp [h]
  · rw [placed_kind] at h
    have : ¬ n ≤ i := by omega
    have h3 : p.kind ≠ 3 := by omega
    simp [this, h3]

theorem need_take {n i : Nat} {p : Param} (hs : singleQ p = true) (hd : p.hasD = false) (hp : placedQ p = false ∨ n ≤ i) (hk : ¬ p.kind = 0) : nedQ n (p, i) = true := by
  unfold nedQ openQ
  simp only [hd, Bool.not_false, Bool.and_true]
  rw [single_kind] at hs
  rcases hs with h | h | h
  · exact absurd h hk
  · have : n ≤ i := by
      rcases hp with hp | hp
      · simp [placedQ, h] at hp
      · exact hp
    simp [h, this]
  · simp [h]

def needsF (s : Sig) (n : Int) : List Str × Bool := if inR n 0 8 && takesC s n.toNat then (sortS (needNs s n.toNat), true) else ([], false)

theorem ineeds_ct (s : Sig) (n : Int) (hs : OkS s) : ACalls pk 94 [.agg (eG s), .one (.int .i64 n)] [] (fun r o => r = .tup [.one (.os 0 0 (needsF s n).1.length (needsF s n).1.length), .one (.bool (needsF s n).2)] ∧ o = [ownS (needsF s n).1]) := by
  have hl := hs.len
  have hP := placesQ_le s
  refine acalls_of_body Tryz.func94 rfl (by kernel_rfl) rfl ?_
  refine rt 1 rfl ?_
  refine goal_cutR (fun σ' => (inR n 0 8 = true ∧ (decide (placesQ s < n.toNat) && !s.any (kIs 2)) = false) ∧ σ' = ⟨[(2, .one (.op 0 0 0)), (1, .one (.int .i64 n))], [some ⟨1, [eG s], false, false, true⟩], []⟩) ?_ ?_
  · refine rn rfl ?_
    refine goal_step (step_call [] rfl rfl rfl rfl rfl rfl (iin_ct n 0 8)) ?_
    rintro σ2 ⟨r, o', ⟨rfl, rfl⟩, hσ⟩
    obtain rfl := Option.some.inj hσ
    clear hσ
    refine rn rfl ?_
    refine goal_guard rfl rfl rfl (fun h1 => ?_) (fun h1 => ?_) <;> (try simp only [gt_iff_lt, ge_iff_le, bne_iff_ne, ne_eq, bne_eq_false_iff_eq, beq_iff_eq, beq_eq_false_iff_ne, Bool.not_eq_true', Bool.not_eq_false', decide_eq_true_eq, decide_eq_false_iff_not, List.length_map] at h1)
    · have hz : needsF s n = ([], false) := by simp [needsF, h1]
      rw [hz]
      refine rn rfl ?_
      refine cut_ret ?_
      exact fin_weak (Weak.adopt 4 0 1) (fin_is [1] rfl ⟨rfl, rfl⟩)
    · have hr : 0 ≤ n ∧ n ≤ 8 := by simp [inR] at h1; omega
      refine rn rfl ?_
      refine goal_step (step_call [] rfl rfl rfl rfl rfl rfl (iplaces_ct s (by omega))) ?_
      rintro σ2 ⟨r, o', ⟨rfl, rfl⟩, hσ⟩
      obtain rfl := Option.some.inj hσ
      clear hσ
      refine rn rfl ?_
      refine goal_guard rfl rfl rfl (fun h2 => ?_) (fun h2 => ?_) <;> (try simp only [gt_iff_lt, ge_iff_le, bne_iff_ne, ne_eq, bne_eq_false_iff_eq, beq_iff_eq, beq_eq_false_iff_ne, Bool.not_eq_true', Bool.not_eq_false', decide_eq_true_eq, decide_eq_false_iff_not, List.length_map] at h2)
      · refine rn rfl ?_
        refine goal_step (step_call [] rfl rfl rfl rfl rfl rfl (has_ct s 2 (by omega))) ?_
        rintro σ2 ⟨r, o', ⟨rfl, rfl⟩, hσ⟩
        obtain rfl := Option.some.inj hσ
        clear hσ
        refine rn rfl ?_
        refine goal_cond rfl (fun h3 => ?_) (fun h3 => ?_) <;> (try simp only [gt_iff_lt, ge_iff_le, bne_iff_ne, ne_eq, bne_eq_false_iff_eq, beq_iff_eq, beq_eq_false_iff_ne, Bool.not_eq_true', Bool.not_eq_false', decide_eq_true_eq, decide_eq_false_iff_not, List.length_map] at h3)
        · have hz : needsF s n = ([], false) := by
            have : placesQ s < n.toNat := by omega
            simp [needsF, takesC, h3, this]
          rw [hz]
          refine rn rfl ?_
          refine cut_ret ?_
          exact fin_weak (Weak.adopt 4 0 1) (fin_is [1] rfl ⟨rfl, rfl⟩)
        · refine rn rfl ?_
          exact cut_nrm [2, 1] [0] rfl ⟨⟨by simpa using h1, by simp [h3]⟩, rfl⟩
      · have hno : ¬ placesQ s < n.toNat := by omega
        refine rn rfl ?_
        exact cut_nrm [2, 1] [0] rfl ⟨⟨by simpa using h1, by simp [hno]⟩, rfl⟩
  rintro _ ⟨⟨hin, hpre⟩, rfl⟩
  have hr : 0 ≤ n ∧ n ≤ 8 := by simp [inR] at hin; omega
  obtain ⟨k, rfl⟩ : ∃ k : Nat, n = k := ⟨n.toNat, by omega⟩
  rw [Int.toNat_natCast] at hpre
  have hnF : needsF s k = if (s.drop k).all (fun p => !bareQ p) then (sortS (needNs s k), true) else ([], false) := by
    simp only [needsF, hin, takesC, Int.toNat_natCast, hpre, Bool.true_and, Bool.not_false]
  rw [hnF]
  refine rn rfl ?_
  refine goal_weakCod (Weak.adopt 6 0 1) ?_
  refine goal_loop_keep (fun m σ => ∃ (q L pc : Int) (i l : Nat) (acc : List Str), q = i ∧ L = s.length ∧ pc = ((min i (placesQ s) : Nat) : Int) ∧ i ≤ s.length ∧ m = s.length - i ∧ l = acc.length ∧ acc = needNs (s.take i) k ∧
      (∀ j p, s[j]? = some p → k ≤ j → j < i → bareQ p = false) ∧
      σ = ⟨[(27, .one (.int .i64 q)), (26, .one (.int .i64 L)), (25, .one (.fs (s.map eQ))), (7, .one (.int .i64 pc)), (6, .one (.os 0 0 l l)), (1, .one (.int .i64 k))], [ownS acc], []⟩) s.length [27, 26, 25, 7, 6, 1] [1] rfl
    ⟨_, _, _, 0, 0, [], rfl, ?_, ?_, by omega, by omega, rfl, rfl, fun j p _ h1 h2 => by omega, rfl⟩ ?_
  · simp
  · simp
  rintro m σ ⟨q, L, pc, i, l, acc, rfl, rfl, rfl, hi, rfl, rfl, hacc, hall, rfl⟩
  have hal := needNs_len (s.take i) k
  rw [← hacc, List.length_take] at hal
  refine rn rfl ?_
  refine goal_cond rfl (fun h => ?_) (fun h => ?_) <;> (try simp only [gt_iff_lt, ge_iff_le, bne_iff_ne, ne_eq, bne_eq_false_iff_eq, beq_iff_eq, beq_eq_false_iff_ne, Bool.not_eq_true', Bool.not_eq_false', decide_eq_true_eq, decide_eq_false_iff_not, List.length_map] at h)
  · obtain ⟨p, hp⟩ := at_some (xs := s) (i := i) (by omega)
    have hst := needNs_succ (n := k) hp
    rw [← hacc] at hst
    have hpi := hs.placed_iff hp
    have hskip : nedQ k (p, i) = false → needNs (s.take (i + 1)) k = acc := fun h0 => by rw [hst, h0]; simp
    have hallS : bareQ p = false ∨ i < k → ∀ j r, s[j]? = some r → k ≤ j → j < i + 1 → bareQ r = false := fun h0 j r hr hj hji => by
      by_cases hij : j = i
      · subst hij
        rw [hp] at hr; cases hr
        rcases h0 with h0 | h0
        · exact h0
        · omega
      · exact hall j r hr hj (by omega)
    refine rn rfl ?_
    refine goal_did rfl rfl (dA_index (eQ p) rfl rfl rfl rfl rfl rfl rfl (by omega) (by (try simp); omega) (map_at (by simpa using hp)) rfl) ?_
    refine rt 8 rfl ?_
    refine goal_cutR (fun σ' => σ' = ⟨[(27, .one (.int .i64 i)), (26, .one (.int .i64 s.length)), (25, .one (.fs (s.map eQ))), (9, .one (.op 1 0 0)), (7, .one (.int .i64 ((min (i + 1) (placesQ s) : Nat) : Int))), (6, .one (.os 0 0 acc.length acc.length)), (1, .one (.int .i64 k))], [ownS acc, some ⟨4, [eQ p], false, false, true⟩], []⟩) ?_ ?_
    · refine rn rfl ?_
      refine goal_step (step_call [] rfl rfl rfl rfl rfl rfl (iplaced_ct p)) ?_
      rintro σ2 ⟨r, o', ⟨rfl, rfl⟩, hσ⟩
      obtain rfl := Option.some.inj hσ
      clear hσ
      refine rn rfl ?_
      refine goal_cond rfl (fun h1 => ?_) (fun h1 => ?_) <;> (try simp only [gt_iff_lt, ge_iff_le, bne_iff_ne, ne_eq, bne_eq_false_iff_eq, beq_iff_eq, beq_eq_false_iff_ne, Bool.not_eq_true', Bool.not_eq_false', decide_eq_true_eq, decide_eq_false_iff_not, List.length_map] at h1)
      · have hip := hpi.1 h1
        have e : IntKind.i64.wrap (((min i (placesQ s) : Nat) : Int) + 1) = ((min (i + 1) (placesQ s) : Nat) : Int) := by rw [wrap64 (by omega) (by omega)]; omega
        rw [← e]
        refine rn rfl ?_
        exact cut_nrm [27, 26, 25, 9, 7, 6, 1] [0, 1] rfl rfl
      · have hip : ¬ i < placesQ s := fun h0 => by rw [hpi.2 h0] at h1; cases h1
        have e : min (i + 1) (placesQ s) = min i (placesQ s) := by omega
        rw [e]
        refine rn rfl ?_
        exact cut_nrm [27, 26, 25, 9, 7, 6, 1] [0, 1] rfl rfl
    rintro _ rfl
    refine rt 10 rfl ?_
    refine goal_cutR (fun σ' => (singleQ p = true ∧ p.hasD = false ∧ (placedQ p = false ∨ k ≤ i)) ∧ σ' = ⟨[(27, .one (.int .i64 i)), (26, .one (.int .i64 s.length)), (25, .one (.fs (s.map eQ))), (9, .one (.op 1 0 0)), (7, .one (.int .i64 ((min (i + 1) (placesQ s) : Nat) : Int))), (6, .one (.os 0 0 acc.length acc.length)), (1, .one (.int .i64 k))], [ownS acc, some ⟨4, [eQ p], false, false, true⟩], []⟩) ?_ ?_
    · have next : ∀ h0 : singleQ p = false ∨ p.hasD = true ∨ (placedQ p = true ∧ i < k), needNs (s.take (i + 1)) k = acc ∧ ∀ j r, s[j]? = some r → k ≤ j → j < i + 1 → bareQ r = false := fun h0 =>
        ⟨hskip (need_skip h0), hallS (by
          rcases h0 with h0 | h0 | ⟨_, h0⟩
          · left
            have : p.kind ≠ 0 := fun h2 => by simp [singleQ, placedQ, h2] at h0
            simp [bareQ, this]
          · left; simp [bareQ, h0]
          · right; exact h0)⟩
      refine rn rfl ?_
      refine goal_step (step_call [] rfl rfl rfl rfl rfl rfl (isingle_ct p)) ?_
      rintro σ2 ⟨r, o', ⟨rfl, rfl⟩, hσ⟩
      obtain rfl := Option.some.inj hσ
      clear hσ
      refine rn rfl ?_
      refine goal_guard rfl rfl rfl (fun h1 => ?_) (fun h1 => ?_) <;> (try simp only [gt_iff_lt, ge_iff_le, bne_iff_ne, ne_eq, bne_eq_false_iff_eq, beq_iff_eq, beq_eq_false_iff_ne, Bool.not_eq_true', Bool.not_eq_false', decide_eq_true_eq, decide_eq_false_iff_not, List.length_map] at h1)
      · obtain ⟨n1, n2⟩ := next (.inl h1)
        refine rn rfl ?_
        refine cut_ext ?_
        refine rn rfl ?_
        refine round_keep (s.length - (i + 1)) [27, 26, 25, 7, 6, 1] [0] (by omega) rfl ⟨_, _, _, i + 1, acc.length, acc, wrap64 (by omega) (by omega), rfl, rfl, by omega, rfl, rfl, n1.symm, n2, rfl⟩
      · refine rn rfl ?_
        refine goal_guard rfl rfl rfl (fun h2 => ?_) (fun h2 => ?_) <;> (try simp only [gt_iff_lt, ge_iff_le, bne_iff_ne, ne_eq, bne_eq_false_iff_eq, beq_iff_eq, beq_eq_false_iff_ne, Bool.not_eq_true', Bool.not_eq_false', decide_eq_true_eq, decide_eq_false_iff_not, List.length_map] at h2)
        · obtain ⟨n1, n2⟩ := next (.inr (.inl h2))
          refine rn rfl ?_
          refine cut_ext ?_
          refine rn rfl ?_
          refine round_keep (s.length - (i + 1)) [27, 26, 25, 7, 6, 1] [0] (by omega) rfl ⟨_, _, _, i + 1, acc.length, acc, wrap64 (by omega) (by omega), rfl, rfl, by omega, rfl, rfl, n1.symm, n2, rfl⟩
        · refine rn rfl ?_
          refine goal_step (step_call [] rfl rfl rfl rfl rfl rfl (iplaced_ct p)) ?_
          rintro σ2 ⟨r, o', ⟨rfl, rfl⟩, hσ⟩
          obtain rfl := Option.some.inj hσ
          clear hσ
          refine rn rfl ?_
          refine goal_guard rfl rfl rfl (fun h3 => ?_) (fun h3 => ?_) <;> (try simp only [gt_iff_lt, ge_iff_le, bne_iff_ne, ne_eq, bne_eq_false_iff_eq, beq_iff_eq, beq_eq_false_iff_ne, Bool.not_eq_true', Bool.not_eq_false', decide_eq_true_eq, decide_eq_false_iff_not, List.length_map] at h3)
          · have hip := hpi.1 h3
            refine rn rfl ?_
            refine goal_cond rfl (fun h4 => ?_) (fun h4 => ?_) <;> (try simp only [gt_iff_lt, ge_iff_le, bne_iff_ne, ne_eq, bne_eq_false_iff_eq, beq_iff_eq, beq_eq_false_iff_ne, Bool.not_eq_true', Bool.not_eq_false', decide_eq_true_eq, decide_eq_false_iff_not, List.length_map] at h4)
            · obtain ⟨n1, n2⟩ := next (.inr (.inr ⟨h3, by omega⟩))
              refine rn rfl ?_
              refine cut_ext ?_
              refine rn rfl ?_
              refine round_keep (s.length - (i + 1)) [27, 26, 25, 7, 6, 1] [0] (by omega) rfl ⟨_, _, _, i + 1, acc.length, acc, wrap64 (by omega) (by omega), rfl, rfl, by omega, rfl, rfl, n1.symm, n2, rfl⟩
            · refine rn rfl ?_
              exact cut_nrm [27, 26, 25, 9, 7, 6, 1] [0, 1] rfl ⟨⟨h1, h2, .inr (by omega)⟩, rfl⟩
          · refine rn rfl ?_
            exact cut_nrm [27, 26, 25, 9, 7, 6, 1] [0, 1] rfl ⟨⟨h1, h2, .inl h3⟩, rfl⟩
    rintro _ ⟨⟨g1, g2, g3⟩, rfl⟩
    refine rn rfl ?_
    refine goal_cond rfl (fun h5 => ?_) (fun h5 => ?_) <;> (try simp only [gt_iff_lt, ge_iff_le, bne_iff_ne, ne_eq, bne_eq_false_iff_eq, beq_iff_eq, beq_eq_false_iff_ne, Bool.not_eq_true', Bool.not_eq_false', decide_eq_true_eq, decide_eq_false_iff_not, List.length_map] at h5)
    · refine rn rfl (round_ret ?_)
      have hki : k ≤ i := by
        rcases g3 with g3 | g3
        · simp [placedQ, h5] at g3
        · exact g3
      have hno : (s.drop k).all (fun p => !bareQ p) = false := by
        cases hb : (s.drop k).all (fun p => !bareQ p) with
        | false => rfl
        | true =>
          have := takes_iff.1 hb i p hp hki
          simp [bareQ, h5, g2] at this
      rw [hno]
      exact fin_weak (Weak.adopt 4 0 1) (fin_is [2] rfl ⟨rfl, rfl⟩)
    · have hne := need_take g1 g2 g3 h5
      refine rn rfl ?_
      refine goal_did rfl rfl (dA_append (old := (acc).map eS) (rows := ([p.name] : List Str).map eS) (((acc) ++ ([p.name] : List Str)).map eS) (acc.length + 1) true (Dst.own rfl rfl rfl rfl rfl (by first | (simp; done) | (simp; omega)) (whole (by first | (simp; done) | (simp; omega)))) (Src.os rfl rfl (Nat.le_refl 1) rfl) rfl rfl rfl rfl rfl rfl rfl rfl (rows_len eS_len _) (rows_len eS_len _) (by (try simp only [List.length_map, List.length_append, List.length_cons, List.length_nil, List.length_take, List.length_drop]); show _ * 16 ≤ _; omega) (by first | (simp; done) | (simp; omega)) (by simp) (by first | (simp; done) | (simp; omega)) (fun _ => noOwnR_map _ eS_noOwn _)) ?_
      refine rn rfl ?_
      refine round_keep (s.length - (i + 1)) [27, 26, 25, 7, 6, 1] [3] (by omega) rfl ⟨_, _, _, i + 1, acc.length + 1, acc ++ [p.name], wrap64 (by omega) (by omega), rfl, rfl, by omega, rfl, by simp, by rw [hst, hne]; rfl, hallS (.inl (by simp [bareQ, h5])), rfl⟩
  · refine rn rfl (round_ext ?_)
    have hfin : acc = needNs s k := by rw [hacc, show i = s.length by omega, List.take_length]
    have hnd : (needNs s k).Nodup := hs.nodup.sublist (needNs_sub s k)
    have hyes : (s.drop k).all (fun p => !bareQ p) = true := takes_iff.2 (fun j p hp hj => hall j p hp hj (by have := lt_of_some hp; omega))
    rw [hyes, ← hfin]
    rw [← hfin] at hnd
    refine rn rfl ?_
    refine goal_step (step_call [0] rfl rfl rfl rfl rfl rfl (sortSmallS_ct acc acc.length (by omega))) ?_
    rintro σ2 ⟨r, o', ⟨rfl, rfl⟩, hσ⟩
    obtain rfl := Option.some.inj hσ
    clear hσ
    refine rn rfl ?_
    refine rn rfl ?_
    refine goal_step (step_callE [0] rfl rfl rfl rfl rfl rfl (congrArg (fun x => [T.one (.os 0 0 x acc.length)]) (isortL_length ltS acc).symm) (clipS_ct (isortL ltS acc) acc.length (by rw [isortL_length]; exact Nat.le_refl _))) ?_
    rintro σ2 ⟨r, o', ⟨rfl, rfl⟩, hσ⟩
    obtain rfl := Option.some.inj hσ
    clear hσ
    refine rn rfl ?_
    rw [sortS_eq acc hnd]
    exact rn rfl (fin_is [0] rfl ⟨rfl, rfl⟩)

theorem ineedsAt_ct (s : Sig) (n : Int) (hl : LenS s) : ACalls pk 35 [.agg (eG s), .one (.int .i64 n)] [] (fun r o => r = .tup [.one (.os 0 0 (NeedsF s n).1.length (NeedsF s n).1.length), .one (.bool (NeedsF s n).2)] ∧ o = [ownS (NeedsF s n).1]) := by
  obtain ⟨s1, s2⟩ := hl
  refine acalls_of_body Tryz.func35 rfl (by kernel_rfl) rfl ?_
  refine rn rfl ?_
  refine goal_step (step_call [] rfl rfl rfl rfl rfl rfl (ivalidSig_ct s (by omega) s2)) ?_
  rintro σ2 ⟨r, o', ⟨rfl, rfl⟩, hσ⟩
  obtain rfl := Option.some.inj hσ
  clear hσ
  refine rn rfl ?_
  refine goal_cond rfl (fun h => ?_) (fun h => ?_) <;> (try simp only [gt_iff_lt, ge_iff_le, bne_iff_ne, ne_eq, bne_eq_false_iff_eq, beq_iff_eq, beq_eq_false_iff_ne, Bool.not_eq_true', Bool.not_eq_false', decide_eq_true_eq, decide_eq_false_iff_not, List.length_map] at h)
  · have hz : NeedsF s n = ([], false) := by simp [NeedsF, goodC, h]
    rw [hz]
    refine rn rfl ?_
    exact fin_weak (Weak.adopt 4 0 1) (fin_is [1] rfl ⟨rfl, rfl⟩)
  · have hz : NeedsF s n = needsF s n := by simp [NeedsF, needsF, goodC, h]
    rw [hz]
    refine rn rfl ?_
    refine goal_step (step_call [] rfl rfl rfl rfl rfl rfl (ineeds_ct s n (okSig_iff.1 h))) ?_
    rintro σ2 ⟨r, o', ⟨rfl, rfl⟩, hσ⟩
    obtain rfl := Option.some.inj hσ
    clear hσ
    refine rn rfl ?_
    exact rn rfl (fin_is [1] rfl ⟨rfl, rfl⟩)

theorem asS (xs : List Str) : T.one (C.fs (List.take xs.length (List.drop 0 (xs.map eS)))) = T.one (.fs (xs.map eS)) := by rw [takeAll eS _ _ rfl]

theorem ineedsAtD_ct (s : Sig) (n : Int) (hl : LenS s) : ACalls pk 35 [.agg (eG s), .one (.int .i64 n)] [] (fun r o => r = .tup [.one (.fs ((NeedsF s n).1.map eS)), .one (.bool (NeedsF s n).2)] ∧ o = []) :=
  (ineedsAt_ct s n hl).told [] (by rintro r o ⟨rfl, rfl⟩; exact ⟨_, _, rfl, congrArg (fun t => T.tup [t, .one (.bool (NeedsF s n).2)]) (asS _), rfl⟩)

def stepN (xs : List Str) (i : Nat) : Bool := match xs[i]? with
  | some n => okName n && (i == 0 || (match xs[i - 1]? with
    | some m => ltS m n
    | none => false))
  | none => true

def okNs (xs : List Str) : Bool := (List.range xs.length).all (stepN xs)

def okX (x : Shp) : Bool := okNs x.names && inR x.count 0 8 && decide (x.names.length ≤ 8)

def flatX (x : Shp) : Flat := ⟨List.replicate x.count.toNat 0, x.names.map mkN⟩

theorem okNs_all {xs : List Str} : okNs xs = true ↔ ∀ i, i < xs.length → stepN xs i = true := by
  simp [okNs, List.all_eq_true, List.mem_range]

theorem okNs_iff {xs : List Str} : okNs xs = true ↔ (∀ n ∈ xs, okName n = true) ∧ xs.Pairwise (fun a b => ltS a b = true) := by
  rw [okNs_all]
  constructor
  · intro h
    refine ⟨fun n hn => ?_, ?_⟩
    · obtain ⟨i, hi⟩ := List.getElem?_of_mem hn
      have := h i (lt_of_some hi)
      unfold stepN at this
      rw [hi] at this
      simp only [Bool.and_eq_true] at this
      exact this.1
    · rw [List.pairwise_iff_getElem]
      have key : ∀ (d i : Nat) (hi : i < xs.length) (hj : i + (d + 1) < xs.length), ltS xs[i] xs[i + (d + 1)] = true := by
        intro d
        induction d with
        | zero =>
          intro i hi hj
          have := h (i + 1) hj
          unfold stepN at this
          rw [List.getElem?_eq_getElem hj] at this
          simp only [Nat.add_sub_cancel, List.getElem?_eq_getElem hi, Bool.and_eq_true] at this
          simpa using this.2
        | succ d ih =>
          intro i hi hj
          have h1 := ih i hi (by omega)
          have := h (i + (d + 1) + 1) (by omega)
          unfold stepN at this
          rw [List.getElem?_eq_getElem (by omega)] at this
          simp only [Nat.add_sub_cancel, List.getElem?_eq_getElem (show i + (d + 1) < xs.length by omega), Bool.and_eq_true] at this
          have h2 := this.2
          simp only [Bool.or_eq_true, beq_iff_eq] at h2
          rcases h2 with h2 | h2
          · omega
          · exact ltS_trans h1 h2
      intro i j hi hj hij
      obtain ⟨d, rfl⟩ : ∃ d, j = i + (d + 1) := ⟨j - i - 1, by omega⟩
      exact key d i hi hj
  · rintro ⟨h1, h2⟩ i hi
    rw [List.pairwise_iff_getElem] at h2
    unfold stepN
    rw [List.getElem?_eq_getElem hi]
    simp only [Bool.and_eq_true]
    refine ⟨h1 _ (List.getElem_mem hi), ?_⟩
    cases i with
    | zero => rfl
    | succ i =>
      rw [Nat.add_sub_cancel, List.getElem?_eq_getElem (by omega)]
      simp only [Bool.or_eq_true]
      exact .inr (h2 i (i + 1) (by omega) hi (by omega))

theorem okNs_nodup {xs : List Str} (h : okNs xs = true) : xs.Nodup := by
  refine (okNs_iff.1 h).2.imp fun hab he => ?_
  rw [he, ltS_irrefl] at hab; cases hab

theorem flatX_names (x : Shp) : namesOf (flatX x).named = x.names := names_mk x.names

theorem flatX_places (x : Shp) : (flatX x).places.length = x.count.toNat := by simp [flatX]

theorem okX_flat {x : Shp} (h : okX x = true) : OkF (flatX x) := by
  simp only [okX, Bool.and_eq_true, decide_eq_true_eq] at h
  obtain ⟨⟨h1, h2⟩, h3⟩ := h
  have h4 := (okNs_iff.1 h1).1
  refine ⟨fun p hp => ?_, ?_, fun n hn => ?_, ?_, ?_⟩
  · obtain ⟨n, hn, rfl⟩ := List.mem_map.1 hp
    simp [okPair, mkN, h4 n hn, okVal, inR]
  · rw [flatX_names]; exact okNs_nodup h1
  · have := (List.mem_replicate.1 hn).2
    subst this
    simp [okVal, inR]
  · rw [flatX_places]; simp [inR] at h2; omega
  · simpa [flatX] using h3

theorem sortS_sorted {xs : List Str} (h : xs.Nodup) : (sortS xs).Pairwise (fun a b => ltS a b = true) := by
  have := sortL_sorted (xs := xs.map mkN) (by rw [names_mk]; exact h)
  rw [← sortS_map] at this
  unfold Sorted at this
  rw [List.pairwise_map] at this
  exact this

theorem OkS.okName {s : Sig} (h : OkS s) {p : Param} (hp : p ∈ s) : okName p.name = true := by
  have := h.params p hp
  simp only [okQ, Bool.and_eq_true] at this
  exact this.1.1.1.1

theorem needNs_nodup {s : Sig} (hs : OkS s) (n : Nat) : (needNs s n).Nodup := hs.nodup.sublist (needNs_sub s n)

theorem needs_okX {s : Sig} (hs : OkS s) {n : Nat} (hn : n ≤ 8) : okX ⟨n, sortS (needNs s n)⟩ = true := by
  have hl := needNs_len s n
  have hsl := hs.len
  simp only [okX, Bool.and_eq_true, decide_eq_true_eq]
  refine ⟨⟨okNs_iff.2 ⟨fun m hm => ?_, sortS_sorted (needNs_nodup hs n)⟩, by simp [inR]; omega⟩, by rw [sortS_length]; omega⟩
  obtain ⟨i, p, hp, _, _, rfl⟩ := need_mem.1 ((sortS_mem _ _).1 hm)
  exact hs.okName (List.mem_of_getElem? hp)

theorem bind_ok {s : Sig} {f : Flat} (hs : OkS s) (hf : OkF f) : (BindQ s f).2 = accQ s f := by
  unfold BindQ
  rw [fitQ_iff.2 ⟨hs, hf⟩]
  simp only [Bool.true_and]
  split
  · rename_i h; exact h.symm
  · rename_i h; simpa using h

def allowB (s : Sig) (n : Nat) (m : Str) : Bool := decide (0 ≤ takesQ s m) && (match s[(takesQ s m).toNat]? with
  | some p => p.kind == 4 || openQ p (takesQ s m).toNat n
  | none => true)

theorem allowB_iff {s : Sig} (hs : OkS s) {n : Nat} {m : Str} : allowB s n m = true ↔ allowQ s n m := by
  rw [allow_dec hs]
  unfold allowB
  rw [Bool.and_eq_true, decide_eq_true_eq]
  refine and_congr_right fun _ => ?_
  cases hp : s[(takesQ s m).toNat]? with
  | none => simp
  | some p => simp

def AllowsF (s : Sig) (n : Int) (m : Str) : Bool := goodC s n && okName m && allowB s n.toNat m && ((needNs s n.toNat).contains m || decide ((needNs s n.toNat).length < 8))

def hd0 (xs : List Int) : Int := xs.headD 0

structure LenX (x : Shp) : Prop where
  len : x.names.length ≤ 1048576
  names : ∀ n ∈ x.names, n.length ≤ 9223372036854775807

theorem stepN_all {xs : List Str} {i : Nat} {n : Str} (hn : xs[i]? = some n) (hall : ∀ j, j < i → stepN xs j = true) (h : stepN xs i = true) : ∀ j, j < i + 1 → stepN xs j = true := fun j hj => by
  by_cases hji : j = i
  · subst hji; exact h
  · exact hall j (by omega)

theorem okX_no {x : Shp} {i : Nat} (hi : i < x.names.length) (h : stepN x.names i = false) : okX x = false := by
  have : okNs x.names = false := by
    cases ho : okNs x.names with
    | false => rfl
    | true => rw [okNs_all.1 ho i hi] at h; cases h
  simp [okX, this]

theorem ivalidShape_ct (x : Shp) (hx : LenX x) : ACalls pk 95 [.agg (eX x)] [] (fun r o => r = .one (.bool (okX x)) ∧ o = []) := by
  have hl := hx.len
  refine acalls_of_body Tryz.func95 rfl (by kernel_rfl) rfl ?_
  refine rn rfl ?_
  refine goal_loop_keep (fun m σ => ∃ (q L : Int) (i : Nat), q = i ∧ L = x.names.length ∧ i ≤ x.names.length ∧ m = x.names.length - i ∧ (∀ j, j < i → stepN x.names j = true) ∧
      σ = ⟨[(8, .one (.int .i64 q)), (7, .one (.int .i64 L)), (6, .one (.fs (x.names.map eS))), (1, .one (.op 0 0 0))], [some ⟨2, [eX x], false, false, true⟩], []⟩) x.names.length [8, 7, 6, 1] [0] rfl
    ⟨_, _, 0, rfl, by simp, by omega, by omega, fun j hj => by omega, rfl⟩ ?_
  rintro m σ ⟨q, L, i, rfl, rfl, hi, rfl, hall, rfl⟩
  refine rn rfl ?_
  refine goal_cond rfl (fun h => ?_) (fun h => ?_) <;> (try simp only [gt_iff_lt, ge_iff_le, bne_iff_ne, ne_eq, bne_eq_false_iff_eq, beq_iff_eq, beq_eq_false_iff_ne, Bool.not_eq_true', Bool.not_eq_false', decide_eq_true_eq, decide_eq_false_iff_not, List.length_map] at h)
  · obtain ⟨n, hn⟩ := at_some (xs := x.names) (i := i) (by omega)
    refine rn rfl ?_
    refine goal_did rfl rfl (dA_index (eS n) rfl rfl rfl rfl rfl rfl rfl (by omega) (by (try simp); omega) (map_at (by simpa using hn)) rfl) ?_
    refine rn rfl ?_
    refine goal_step (step_call [] rfl rfl rfl rfl rfl rfl (isName_ct n (hx.names n (List.mem_of_getElem? hn)))) ?_
    rintro σ2 ⟨r, o', ⟨rfl, rfl⟩, hσ⟩
    obtain rfl := Option.some.inj hσ
    clear hσ
    refine rn rfl ?_
    refine goal_guard rfl rfl rfl (fun h1 => ?_) (fun h1 => ?_) <;> (try simp only [gt_iff_lt, ge_iff_le, bne_iff_ne, ne_eq, bne_eq_false_iff_eq, beq_iff_eq, beq_eq_false_iff_ne, Bool.not_eq_true', Bool.not_eq_false', decide_eq_true_eq, decide_eq_false_iff_not, List.length_map] at h1)
    · refine rn rfl (round_ret (fin_is [] rfl ⟨?_, rfl⟩))
      rw [okX_no (lt_of_some hn)]
      simp [stepN, hn, h1]
    · refine rn rfl ?_
      refine goal_guard rfl rfl rfl (fun h2 => ?_) (fun h2 => ?_) <;> (try simp only [gt_iff_lt, ge_iff_le, bne_iff_ne, ne_eq, bne_eq_false_iff_eq, beq_iff_eq, beq_eq_false_iff_ne, Bool.not_eq_true', Bool.not_eq_false', decide_eq_true_eq, decide_eq_false_iff_not, List.length_map] at h2)
      · obtain ⟨k, rfl⟩ : ∃ k, i = k + 1 := ⟨i - 1, by omega⟩
        obtain ⟨l, hl'⟩ := at_some (xs := x.names) (i := k) (by omega)
        have hw : IntKind.i64.wrap (((k + 1 : Nat) : Int) - 1) = (k : Int) := by rw [wrap64 (by omega) (by omega)]; omega
        refine rn rfl ?_
        rw [hw]
        refine goal_did rfl rfl (dA_index (eS l) rfl rfl rfl rfl rfl rfl rfl (by omega) (by (try simp); omega) (map_at (by simpa using hl')) rfl) ?_
        refine rn rfl ?_
        refine goal_cond rfl (fun h3 => ?_) (fun h3 => ?_)
        · refine rn rfl (round_ret (fin_is [] rfl ⟨?_, rfl⟩))
          have h3' : ltS l n = false := by simpa [ltS] using h3
          rw [okX_no (lt_of_some hn)]
          simp [stepN, hn, hl', h3']
        · have h3' : ltS l n = true := by simpa [ltS] using h3
          refine rn rfl ?_
          refine round_keep (x.names.length - (k + 1 + 1)) [8, 7, 6, 1] [0] (by omega) rfl ⟨_, _, k + 1 + 1, wrap64 (by omega) (by omega), rfl, by omega, rfl, stepN_all hn hall (by simp [stepN, hn, hl', h1, h3']), rfl⟩
      · refine rn rfl ?_
        refine round_keep (x.names.length - (i + 1)) [8, 7, 6, 1] [0] (by omega) rfl ⟨_, _, i + 1, wrap64 (by omega) (by omega), rfl, by omega, rfl, stepN_all hn hall ?_, rfl⟩
        have : i = 0 := by omega
        subst this
        simp [stepN, hn, h1]
  · refine rn rfl (round_ext ?_)
    have hok : okNs x.names = true := okNs_all.2 fun j hj => hall j (by omega)
    refine rn rfl ?_
    refine goal_step (step_call [] rfl rfl rfl rfl rfl rfl (iin_ct x.count 0 8)) ?_
    rintro σ2 ⟨r, o', ⟨rfl, rfl⟩, hσ⟩
    obtain rfl := Option.some.inj hσ
    clear hσ
    refine rn rfl ?_
    refine goal_guard rfl rfl rfl (fun h1 => ?_) (fun h1 => ?_) <;> (try simp only [gt_iff_lt, ge_iff_le, bne_iff_ne, ne_eq, bne_eq_false_iff_eq, beq_iff_eq, beq_eq_false_iff_ne, Bool.not_eq_true', Bool.not_eq_false', decide_eq_true_eq, decide_eq_false_iff_not, List.length_map] at h1)
    · refine rn rfl (fin_is [] rfl ⟨?_, rfl⟩)
      simp [okX, hok, h1]; omega
    · refine rn rfl (fin_is [] rfl ⟨?_, rfl⟩)
      simp [okX, hok, h1]

def flatXF (x : Shp) : Flat := if okX x then flatX x else zF

theorem iflatOf_ct (x : Shp) (hx : LenX x) : ACalls pk 37 [.agg (eX x)] [] (fun r o => r = .agg (eF (flatXF x)) ∧ o = []) := by
  refine acalls_of_body Tryz.func37 rfl (by kernel_rfl) rfl ?_
  refine rn rfl ?_
  refine goal_step (step_call [] rfl rfl rfl rfl rfl rfl (ivalidShape_ct x hx)) ?_
  rintro σ2 ⟨r, o', ⟨rfl, rfl⟩, hσ⟩
  obtain rfl := Option.some.inj hσ
  clear hσ
  refine rn rfl ?_
  refine goal_cond rfl (fun h => ?_) (fun h => ?_) <;> (try simp only [gt_iff_lt, ge_iff_le, bne_iff_ne, ne_eq, bne_eq_false_iff_eq, beq_iff_eq, beq_eq_false_iff_ne, Bool.not_eq_true', Bool.not_eq_false', decide_eq_true_eq, decide_eq_false_iff_not, List.length_map] at h)
  · refine rn rfl (fin_is [] rfl ⟨?_, rfl⟩)
    simp [flatXF, h]; rfl
  have hc := h
  simp only [okX, Bool.and_eq_true, decide_eq_true_eq, inR] at hc
  obtain ⟨n, hn⟩ : ∃ n : Nat, x.count = n := ⟨x.count.toNat, by omega⟩
  have hl := hc.2
  have hF : flatXF x = ⟨List.replicate n 0, x.names.map mkN⟩ := by simp [flatXF, h, flatX, hn]
  rw [hF]
  obtain ⟨c, names⟩ := x
  simp only at hn hl hc
  subst hn
  refine rn rfl ?_
  refine goal_did rfl rfl (dA_make n ((List.replicate n (0 : Int)).map eI) rfl rfl rfl (by simp) (by simp) rfl rfl rfl rfl rfl (by show 8 * n ≤ _; omega) (by omega) (by rw [← rep_map]; rfl)) ?_
  refine rn rfl ?_
  refine goal_weakCod (Weak.adoptO 3 1 2) ?_
  refine goal_loop_keep (fun m σ => ∃ (q L : Int) (i l : Nat) (acc : List Pair), q = i ∧ L = names.length ∧ i ≤ names.length ∧ m = names.length - i ∧ l = acc.length ∧ acc = (names.take i).map mkN ∧
      σ = ⟨[(17, .one (.int .i64 q)), (16, .one (.int .i64 L)), (15, .one (.fs (names.map eS))), (3, .one (.op 2 0 0)), (2, .one (.op 0 0 0))],
        [some ⟨2, [[.fs [], .fs []]], false, false, true⟩, ownI (List.replicate n 0), some ⟨2, [[.os 1 0 n n, .os 3 0 l l]], false, false, true⟩, ownP acc], []⟩) names.length [17, 16, 15, 3, 2] [1, 2, 3, 4] rfl
    ⟨_, _, 0, 0, [], rfl, by simp, by omega, by omega, rfl, rfl, rfl⟩ ?_
  rintro m σ ⟨q, L, i, l, acc, rfl, rfl, hi, rfl, rfl, hacc, rfl⟩
  refine rn rfl ?_
  refine goal_cond rfl (fun h2 => ?_) (fun h2 => ?_) <;> (try simp only [gt_iff_lt, ge_iff_le, bne_iff_ne, ne_eq, bne_eq_false_iff_eq, beq_iff_eq, beq_eq_false_iff_ne, Bool.not_eq_true', Bool.not_eq_false', decide_eq_true_eq, decide_eq_false_iff_not, List.length_map] at h2)
  · obtain ⟨nm, hnm⟩ := at_some (xs := names) (i := i) (by omega)
    have hlen : acc.length = i := by rw [hacc]; simp; omega
    refine rn rfl ?_
    refine goal_did rfl rfl (dA_index (eS nm) rfl rfl rfl rfl rfl rfl rfl (by omega) (by (try simp); omega) (map_at (by simpa using hnm)) rfl) ?_
    refine rn rfl ?_
    refine goal_did rfl rfl (dA_append (old := (acc).map eP) (rows := ([mkN nm] : List Pair).map eP) (((acc) ++ ([mkN nm] : List Pair)).map eP) (acc.length + 1) true (Dst.own rfl rfl rfl rfl rfl (by first | (simp; done) | (simp; omega)) (whole (by first | (simp; done) | (simp; omega)))) (Src.os rfl rfl (Nat.le_refl 1) rfl) rfl rfl rfl rfl rfl rfl rfl rfl (rows_len eP_len _) (rows_len eP_len _) (by (try simp only [List.length_map, List.length_append, List.length_cons, List.length_nil, List.length_take, List.length_drop]); show _ * 24 ≤ _; omega) (by first | (simp; done) | (simp; omega)) (by simp) (by first | (simp; done) | (simp; omega)) (fun _ => noOwnR_map _ eP_noOwn _)) ?_
    refine rn rfl ?_
    refine round_keep (names.length - (i + 1)) [17, 16, 15, 3, 2] [0, 1, 2, 5] (by omega) rfl ⟨_, _, i + 1, acc.length + 1, acc ++ [mkN nm], wrap64 (by omega) (by omega), rfl, by omega, rfl, by simp, by rw [hacc, ← take_snoc hnm]; simp, rfl⟩
  · refine rn rfl (round_ext ?_)
    have hfin : acc = names.map mkN := by rw [hacc, List.take_of_length_le (by omega)]
    rw [← hfin]
    refine rn rfl ?_
    have hA : T.agg [.fs (List.take n (List.drop 0 ((List.replicate n (0 : Int)).map eI))), .fs (List.take acc.length (List.drop 0 (acc.map eP)))] = T.agg (eF ⟨List.replicate n 0, acc⟩) := by rw [takeAll eI _ _ (by simp), takeAll eP _ _ rfl]; rfl
    refine goal_step (step_callE [] rfl rfl rfl rfl rfl rfl (cons_eq hA rfl) (copyOf_ct ⟨List.replicate n 0, acc⟩ (by simp; omega) (by simp [hfin]; omega))) ?_
    rintro σ2 ⟨r, o', ⟨rfl, rfl⟩, hσ⟩
    obtain rfl := Option.some.inj hσ
    clear hσ
    refine rn rfl ?_
    refine rn rfl (fin_is [] rfl ⟨?_, rfl⟩)
    exact asFl _

theorem needsF_snd (s : Sig) (n : Int) : (NeedsF s n).2 = goodC s n := by
  unfold NeedsF; split
  · rename_i h; exact h.symm
  · rename_i h; simpa using h

theorem goodC_at {s : Sig} {n : Nat} (hn : n ≤ 8) : goodC s n = (okSig s && takesC s n) := by
  have : inR (n : Int) 0 8 = true := by simp [inR]; omega
  simp [goodC, this]

section

variable {X : Pk} {N np : Nat} {K : KP} {σ : State}

end

theorem SmallS.lens {s : Sig} (h : SmallS s) : LenS s := ⟨by have := h.len; omega, fun p hp => by have := h.names p hp; omega⟩

theorem flatXF_len {x : Shp} (hx : LenX x) : LenF (flatXF x) := by
  unfold flatXF
  split
  · rename_i h
    have := okX_flat h
    exact ⟨by have := this.places; omega, by have := this.named; omega, fun p hp => by
      obtain ⟨n, hn, rfl⟩ := List.mem_map.1 hp
      exact hx.names n hn⟩
  · exact ⟨by simp [zF], by simp [zF], by simp [zF]⟩

theorem needs_lenX {s : Sig} (hs : OkS s) (n : Nat) (c : Int) : LenX ⟨c, sortS (needNs s n)⟩ := by
  have h2 := needNs_len s n
  have := hs.len
  refine ⟨by simp only [sortS_length]; omega, fun m hm => ?_⟩
  obtain ⟨i, p, hp, _, _, rfl⟩ := need_mem.1 ((sortS_mem _ _).1 hm)
  have := hs.nameLen (List.mem_of_getElem? hp)
  omega

theorem goodC_ok {s : Sig} {n : Int} (h : goodC s n = true) : OkS s ∧ ∃ k : Nat, n = k ∧ k ≤ 8 ∧ takesC s k = true ∧ NeedsF s n = (sortS (needNs s k), true) := by
  have hh := h
  simp only [goodC, Bool.and_eq_true] at h
  have hr : 0 ≤ n ∧ n ≤ 8 := by have := h.1.2; simp [inR] at this; omega
  refine ⟨okSig_iff.1 h.1.1, n.toNat, by omega, by omega, h.2, by unfold NeedsF; rw [if_pos hh]⟩

def cmpT : Str → List Str → List Str
  | _, [] => []
  | a, b :: l => if b = a then cmpT a l else b :: cmpT b l

def compS : List Str → List Str
  | [] => []
  | a :: l => a :: cmpT a l

def WS (xs : List Str) : Prop := xs.Pairwise (fun a b => ltS b a = false)

def SS (xs : List Str) : Prop := xs.Pairwise (fun a b => ltS a b = true)

theorem cmpT_snoc : ∀ (l : List Str) (a b c : Str), (a :: l).getLast? = some c → cmpT a (l ++ [b]) = cmpT a l ++ (if b = c then [] else [b])
  | [], a, b, c, h => by
    simp at h; subst h
    simp [cmpT]
  | x :: l, a, b, c, h => by
    rw [List.getLast?_cons_cons] at h
    rw [List.cons_append]
    unfold cmpT
    by_cases hx : x = a
    · subst hx
      rw [if_pos rfl, if_pos rfl, cmpT_snoc l x b c h]
    · rw [if_neg hx, if_neg hx, cmpT_snoc l x b c h]; rfl

theorem compS_succ {xs : List Str} {n : Nat} {b c : Str} (hb : xs[n + 1]? = some b) (hc : xs[n]? = some c) : compS (xs.take (n + 1 + 1)) = compS (xs.take (n + 1)) ++ (if b = c then [] else [b]) := by
  rw [← take_snoc hb]
  have hlast : (xs.take (n + 1)).getLast? = some c := by rw [← take_snoc hc]; simp
  cases hz : xs.take (n + 1) with
  | nil => rw [hz] at hlast; simp at hlast
  | cons a l =>
    rw [hz] at hlast
    show a :: cmpT a (l ++ [b]) = a :: cmpT a l ++ _
    rw [cmpT_snoc l a b c hlast]; rfl

theorem compS_one {xs : List Str} (h : 1 ≤ xs.length) : compS (xs.take 1) = xs.take 1 := by
  cases xs with
  | nil => simp at h
  | cons a l => simp [compS, cmpT]

theorem cmpT_mem (x : Str) : ∀ (l : List Str) (a : Str), (x ∈ cmpT a l ∨ x = a) ↔ (x ∈ l ∨ x = a)
  | [], a => by simp [cmpT]
  | b :: l, a => by
    unfold cmpT
    by_cases hb : b = a
    · subst hb
      rw [if_pos rfl, cmpT_mem x l b]
      simp only [List.mem_cons]
      constructor
      · rintro (h | h)
        · exact .inl (.inr h)
        · exact .inr h
      · rintro ((h | h) | h)
        · exact .inr h
        · exact .inl h
        · exact .inr h
    · rw [if_neg hb]
      have ih := cmpT_mem x l b
      simp only [List.mem_cons]
      constructor
      · rintro ((h | h) | h)
        · exact .inl (.inl h)
        · rcases ih.1 (.inl h) with h1 | h1
          · exact .inl (.inr h1)
          · exact .inl (.inl h1)
        · exact .inr h
      · rintro ((h | h) | h)
        · exact .inl (.inl h)
        · rcases ih.2 (.inl h) with h1 | h1
          · exact .inl (.inr h1)
          · exact .inl (.inl h1)
        · exact .inr h

theorem compS_mem (x : Str) (xs : List Str) : x ∈ compS xs ↔ x ∈ xs := by
  cases xs with
  | nil => rfl
  | cons a l =>
    have := cmpT_mem x l a
    simp only [compS, List.mem_cons]
    rw [or_comm, this, or_comm]

theorem cmpT_strict : ∀ (l : List Str) (a : Str), WS (a :: l) → SS (a :: cmpT a l)
  | [], a, _ => by simp [SS, cmpT]
  | b :: l, a, h => by
    have h1 := List.pairwise_cons.1 h
    have h2 := List.pairwise_cons.1 h1.2
    unfold cmpT
    by_cases hb : b = a
    · subst hb
      rw [if_pos rfl]
      exact cmpT_strict l b h1.2
    · rw [if_neg hb]
      have ih := cmpT_strict l b h1.2
      have hab : ltS a b = true := ltS_total hb (h1.1 b (by simp))
      refine List.pairwise_cons.2 ⟨fun y hy => ?_, ih⟩
      rcases List.mem_cons.1 hy with rfl | hy
      · exact hab
      · exact ltS_trans hab ((List.pairwise_cons.1 ih).1 y hy)

theorem compS_strict {xs : List Str} (h : WS xs) : SS (compS xs) := by
  cases xs with
  | nil => exact List.Pairwise.nil
  | cons a l => exact cmpT_strict l a h

theorem compS_length (xs : List Str) : (compS xs).length ≤ xs.length := by
  have key : ∀ (l : List Str) (a : Str), (cmpT a l).length ≤ l.length := by
    intro l
    induction l with
    | nil => intro a; simp [cmpT]
    | cons b l ih =>
      intro a
      unfold cmpT
      split
      · have := ih a; simp only [List.length_cons]; omega
      · have := ih b; simp only [List.length_cons]; omega
  cases xs with
  | nil => simp [compS]
  | cons a l => have := key l a; simp only [compS, List.length_cons]; omega

theorem sinkR_perm (p : Str) : ∀ (ra acc : List Str), (sinkR ltS p ra acc).Perm (p :: (ra.reverse ++ acc))
  | [], acc => by simp [sinkR]
  | x :: ra, acc => by
    unfold sinkR
    split
    · refine (sinkR_perm p ra (x :: acc)).trans ?_
      simp
    · exact List.perm_middle

theorem sinkR_ws (p : Str) : ∀ (ra acc : List Str), WS (ra.reverse ++ acc) → (∀ y ∈ acc, ltS p y = true) → WS (sinkR ltS p ra acc)
  | [], acc, h, ha => by
    simp only [sinkR]
    refine List.pairwise_cons.2 ⟨fun y hy => ltS_asymm (ha y hy), by simpa [WS] using h⟩
  | x :: ra, acc, h, ha => by
    unfold sinkR
    split
    · rename_i hx
      refine sinkR_ws p ra (x :: acc) (by simpa using h) fun y hy => ?_
      rcases List.mem_cons.1 hy with rfl | hy
      · exact hx
      · exact ha y hy
    · rename_i hx
      have hx' : ltS p x = false := by simpa using hx
      have h0 := h
      unfold WS at h
      rw [List.pairwise_append] at h
      obtain ⟨hl, hr, hlr⟩ := h
      unfold WS
      rw [List.pairwise_append]
      refine ⟨hl, List.pairwise_cons.2 ⟨fun y hy => ltS_asymm (ha y hy), hr⟩, fun a hal b hb => ?_⟩
      rcases List.mem_cons.1 hb with rfl | hb
      · cases hpa : ltS b a with
        | false => rfl
        | true =>
          exfalso
          rw [List.reverse_cons, List.mem_append] at hal
          rcases hal with hal | hal
          · rw [List.reverse_cons, List.pairwise_append] at hl
            have hxa := hl.2.2 a hal x (by simp)
            by_cases hax : x = a
            · rw [hax, hpa] at hx'; cases hx'
            · have := ltS_total hax hxa
              rw [ltS_trans hpa this] at hx'; cases hx'
          · simp at hal; rw [hal, hx'] at hpa; cases hpa
      · exact hlr a hal b hb

theorem isortS_ws (xs : List Str) : WS (isortL ltS xs) ∧ (isortL ltS xs).Perm xs := by
  have key : ∀ (xs S : List Str), WS S → WS (xs.foldl (fun S x => insR ltS x S) S) ∧ (xs.foldl (fun S x => insR ltS x S) S).Perm (xs ++ S) := by
    intro xs
    induction xs with
    | nil => intro S h; exact ⟨h, List.Perm.refl _⟩
    | cons x xs ih =>
      intro S h
      have h1 : WS (insR ltS x S) := sinkR_ws x S.reverse [] (by simpa using h) (by simp)
      have h2 : (insR ltS x S).Perm (x :: S) := by simpa [insR] using sinkR_perm x S.reverse []
      obtain ⟨h3, h4⟩ := ih _ h1
      refine ⟨h3, h4.trans ?_⟩
      exact (List.Perm.append_left xs h2).trans (by simp [List.perm_middle])
  have := key xs [] List.Pairwise.nil
  rw [List.append_nil] at this
  exact this

theorem SS.nodup {xs : List Str} (h : SS xs) : xs.Nodup := List.Pairwise.imp (fun hab he => by rw [he, ltS_irrefl] at hab; cases hab) h

theorem SS.ext {a b : List Str} (ha : SS a) (hb : SS b) (h : ∀ x, x ∈ a ↔ x ∈ b) : a = b := by
  refine List.Perm.eq_of_pairwise (le := fun x y => ltS x y = true) ?_ ha hb ((List.perm_ext_iff_of_nodup ha.nodup hb.nodup).2 h)
  intro x y _ _ h1 h2
  rw [ltS_asymm h1] at h2; cases h2

/-- Names once, ascending. -/
def uniqS (xs : List Str) : List Str := compS (isortL ltS xs)

theorem uniqS_ss (xs : List Str) : SS (uniqS xs) := compS_strict (isortS_ws xs).1

theorem uniqS_mem (x : Str) (xs : List Str) : x ∈ uniqS xs ↔ x ∈ xs := by
  unfold uniqS
  rw [compS_mem, (isortS_ws xs).2.mem_iff]

theorem uniqS_length (xs : List Str) : (uniqS xs).length ≤ xs.length := by
  have := compS_length (isortL ltS xs)
  rw [isortL_length] at this
  exact this

theorem uniq_more {S : List Str} {n : Str} (hS : S.Nodup) : (uniqS (S ++ [n])).length = if n ∈ S then S.length else S.length + 1 := by
  split
  · rename_i h
    refine ((List.perm_ext_iff_of_nodup (uniqS_ss _).nodup hS).2 fun x => ?_).length_eq
    rw [uniqS_mem]
    simp only [List.mem_append, List.mem_singleton]
    constructor
    · rintro (h1 | rfl)
      · exact h1
      · exact h
    · exact .inl
  · rename_i h
    have : (uniqS (S ++ [n])).Perm (n :: S) := (List.perm_ext_iff_of_nodup (uniqS_ss _).nodup (List.nodup_cons.2 ⟨h, hS⟩)).2 fun x => by
      rw [uniqS_mem]
      simp only [List.mem_append, List.mem_cons, List.not_mem_nil, or_false]
      exact or_comm
    simpa using this.length_eq

theorem growS_ct (n : Nat) (hn : n ≤ 4194304) : ACalls pk 196 [.one nilSl, .one (.int .i64 n)] [] (fun r o => ∃ rows kc, r = .one (.os 0 0 0 kc) ∧ o = [some ⟨1, rows, true, false, false⟩] ∧ (n = 0 → rows = [] ∧ kc = 0)) := by
  have hw : IntKind.i64.wrap ((n : Int) - IntKind.i64.wrap (0 - 0)) = n := by rw [show IntKind.i64.wrap (0 - 0) = 0 from rfl, wrap64] <;> omega
  refine acalls_of_body Tryz.func196 rfl (by kernel_rfl) rfl ?_
  refine rn rfl ?_
  refine goal_cond rfl (fun h => ?_) (fun h => ?_) <;> (try simp only [gt_iff_lt, ge_iff_le, bne_iff_ne, ne_eq, bne_eq_false_iff_eq, beq_iff_eq, beq_eq_false_iff_ne, Bool.not_eq_true', Bool.not_eq_false', decide_eq_true_eq, decide_eq_false_iff_not, List.length_map] at h)
  · omega
  · refine rn rfl ?_
    refine goal_did rfl rfl (dA_capNil rfl rfl rfl rfl rfl) ?_
    refine rn rfl ?_
    rw [hw]
    refine goal_cond rfl (fun h2 => ?_) (fun h2 => ?_) <;> (try simp only [gt_iff_lt, ge_iff_le, bne_iff_ne, ne_eq, bne_eq_false_iff_eq, beq_iff_eq, beq_eq_false_iff_ne, Bool.not_eq_true', Bool.not_eq_false', decide_eq_true_eq, decide_eq_false_iff_not, List.length_map] at h2)
    · refine rn rfl ?_
      refine goal_did rfl rfl (dA_capNil rfl rfl rfl rfl rfl) ?_
      refine rn rfl ?_
      refine goal_did rfl rfl (dA_sliceNil rfl rfl rfl rfl rfl rfl rfl) ?_
      refine rn rfl ?_
      refine goal_did rfl rfl (dA_growMake n (List.replicate n (eS ([] : Str))) rfl rfl rfl (by omega) rfl rfl rfl rfl rfl rfl rfl rfl (by show n * 16 ≤ _; omega) (by omega) rfl) ?_
      refine rn rfl ?_
      refine goal_did rfl rfl (dA_sliceOwn 0 0 n 0 0 n rfl rfl rfl rfl rfl rfl rfl Bnd.none_ (Bnd.some_ rfl rfl) (.inl ⟨rfl, rfl⟩) (by omega) (by omega) (by omega) (by simp) rfl rfl rfl rfl) ?_
      refine rn rfl ?_
      exact fin_is [0] rfl ⟨_, _, rfl, rfl, fun h0 => by omega⟩
    · refine rn rfl ?_
      exact fin_adopt 4 0 1 [0] rfl ⟨_, _, rfl, rfl, fun _ => ⟨rfl, rfl⟩⟩

theorem concatS_ct (xss : List (List Str)) (hn : xss.length ≤ 1000) (hl : xss.flatten.length ≤ 4194304) :
    ACalls pk 149 [.one (.fs (xss.map fun xs => [.fs (xs.map eS)]))] [] (fun r o => r = .one (.os 0 0 xss.flatten.length xss.flatten.length) ∧ o = [ownS xss.flatten]) := by
  have hpre : ∀ i, (xss.take i).flatten.length ≤ xss.flatten.length := fun i => by
    conv => rhs; rw [← List.take_append_drop i xss, List.flatten_append, List.length_append]
    omega
  have hsucc : ∀ (i : Nat) (xs : List Str), xss[i]? = some xs → (xss.take (i + 1)).flatten = (xss.take i).flatten ++ xs := fun i xs h => by
    rw [← take_snoc' h, List.flatten_append]; simp
  refine acalls_of_body Tryz.func149 rfl (by kernel_rfl) rfl ?_
  refine rn rfl ?_
  refine goal_loop_keep (fun m σ => ∃ (n L q : Int) (i : Nat), n = i ∧ L = xss.length ∧ i ≤ xss.length ∧ m = xss.length - i ∧ q = ((xss.take i).flatten.length : Nat) ∧
      σ = ⟨[(11, .one (.int .i64 n)), (10, .one (.int .i64 L)), (9, .one (.fs (xss.map fun xs => [.fs (xs.map eS)]))), (3, .one (.int .i64 q)), (0, .one (.fs (xss.map fun xs => [.fs (xs.map eS)])))], [], []⟩) xss.length [11, 10, 9, 3, 0] [] rfl
    ⟨_, _, _, 0, rfl, by simp, by omega, by omega, rfl, rfl⟩ ?_
  rintro m σ ⟨n, L, q, i, rfl, rfl, hi, rfl, rfl, rfl⟩
  refine rn rfl ?_
  refine goal_cond rfl (fun h => ?_) (fun h => ?_) <;> (try simp only [gt_iff_lt, ge_iff_le, bne_iff_ne, ne_eq, bne_eq_false_iff_eq, beq_iff_eq, beq_eq_false_iff_ne, Bool.not_eq_true', Bool.not_eq_false', decide_eq_true_eq, decide_eq_false_iff_not, List.length_map] at h)
  · obtain ⟨xs, hxs⟩ := at_some (xs := xss) (i := i) (by omega)
    have h1 := hpre (i + 1)
    have h2 := hsucc i xs hxs
    rw [h2, List.length_append] at h1
    have hw : IntKind.i64.wrap (((xss.take i).flatten.length : Nat) + (xs.length : Int)) = (((xss.take i).flatten ++ xs).length : Nat) := by rw [List.length_append, wrap64] <;> omega
    refine rn rfl ?_
    refine goal_did rfl rfl (dA_index [.fs (xs.map eS)] rfl rfl rfl rfl rfl rfl rfl (by omega) (by simp; omega) (map_at (enc := fun xs : List Str => [C.fs (xs.map eS)]) (by simpa using hxs)) rfl) ?_
    refine rn rfl ?_
    refine goal_cond rfl (fun h0 => ?_) (fun _ => ?_)
    · simp only [List.length_map, decide_eq_true_eq] at h0; rw [hw] at h0; omega
    · refine rn rfl ?_
      refine round_keep (xss.length - (i + 1)) [11, 10, 9, 3, 0] [] (by omega) rfl ⟨_, _, _, i + 1, wrap64 (by omega) (by omega), rfl, by omega, rfl, ?_, rfl⟩
      rw [List.length_map, hw, h2]
  · rw [show i = xss.length by omega, List.take_length]
    refine rn rfl ?_
    refine round_ext ?_
    refine rn rfl ?_
    refine goal_step (step_callRaw rfl rfl rfl rfl rfl rfl (growS_ct xss.flatten.length hl)) ?_
    rintro σ2 ⟨r, o', ⟨rows0, kc0, rfl, rfl, hz⟩, hσ⟩
    obtain rfl := Option.some.inj hσ
    clear hσ
    refine rn rfl ?_
    refine goal_loop_keep (fun m σ => ∃ (n L : Int) (i l kc : Nat) (rows : List (List C)), n = i ∧ L = xss.length ∧ i ≤ xss.length ∧ m = xss.length - i ∧ l = (xss.take i).flatten.length ∧ ((rows = (xss.take i).flatten.map eS ∧ kc = l) ∨ (i = 0 ∧ rows = rows0 ∧ kc = kc0)) ∧
        σ = ⟨[(27, .one (.int .i64 n)), (26, .one (.int .i64 L)), (25, .one (.fs (xss.map fun xs => [.fs (xs.map eS)]))), (6, .one (.os 0 0 l kc))], [some ⟨1, rows, true, false, false⟩], []⟩) xss.length [27, 26, 25, 6] [0] rfl
      ⟨_, ((xss.map fun xs => [C.fs (xs.map eS)]).length : Int), 0, 0, kc0, rows0, rfl, by simp, by omega, by omega, rfl, .inr ⟨rfl, rfl, rfl⟩, rfl⟩ ?_
    rintro m σ ⟨n, L, i, l, kc, rows, rfl, rfl, hi, rfl, rfl, hrows, rfl⟩
    have hold : (xss.take i).flatten.map eS = rows.take (xss.take i).flatten.length := by
      rcases hrows with ⟨rfl, _⟩ | ⟨rfl, _, _⟩
      · exact (List.take_of_length_le (by rw [List.length_map]; exact Nat.le_refl _)).symm
      · simp
    have hle : (xss.take i).flatten.length ≤ rows.length := by
      have := congrArg List.length hold
      simp only [List.length_map, List.length_take] at this; omega
    refine rn rfl ?_
    refine goal_cond rfl (fun h => ?_) (fun h => ?_) <;> (try simp only [gt_iff_lt, ge_iff_le, bne_iff_ne, ne_eq, bne_eq_false_iff_eq, beq_iff_eq, beq_eq_false_iff_ne, Bool.not_eq_true', Bool.not_eq_false', decide_eq_true_eq, decide_eq_false_iff_not, List.length_map] at h)
    · obtain ⟨xs, hxs⟩ := at_some (xs := xss) (i := i) (by omega)
      have h1 := hpre (i + 1)
      have h2 := hsucc i xs hxs
      rw [h2, List.length_append] at h1
      refine rn rfl ?_
      refine goal_did rfl rfl (dA_index [.fs (xs.map eS)] rfl rfl rfl rfl rfl rfl rfl (by omega) (by simp; omega) (map_at (enc := fun xs : List Str => [C.fs (xs.map eS)]) (by simpa using hxs)) rfl) ?_
      refine rn rfl ?_
      refine goal_did rfl rfl (dA_append (old := (xss.take i).flatten.map eS) (rows := xs.map eS) (((xss.take i).flatten ++ xs).map eS) (((xss.take i).flatten ++ xs).length) true (Dst.own rfl rfl rfl rfl rfl hle hold) (Src.fs rfl) rfl rfl rfl rfl rfl rfl rfl rfl (rows_len eS_len _) (rows_len eS_len _) (by simp only [List.length_map]; show _ * 16 ≤ _; omega) (by simp only [List.length_map]; omega) (by rw [List.map_append]) (by rw [List.length_map]) (fun _ => noOwnR_map _ eS_noOwn _)) ?_
      refine rn rfl ?_
      refine round_keep (xss.length - (i + 1)) [27, 26, 25, 6] [1] (by omega) rfl ⟨_, _, i + 1, ((xss.take i).flatten ++ xs).length, ((xss.take i).flatten ++ xs).length, ((xss.take i).flatten ++ xs).map eS, wrap64 (by omega) (by omega), rfl, by omega, rfl, by rw [h2], .inl ⟨by rw [h2], rfl⟩, rfl⟩
    · rw [show i = xss.length by omega, List.take_length] at hrows hold ⊢
      refine rn rfl ?_
      refine round_ext ?_
      have hfin : rows = xss.flatten.map eS ∧ kc = xss.flatten.length := by
        rcases hrows with hr | ⟨h0, hr, hk⟩
        · exact hr
        · have hx : xss = [] := List.eq_nil_of_length_eq_zero (by omega)
          subst hx
          obtain ⟨q1, q2⟩ := hz rfl
          exact ⟨by rw [hr, q1]; rfl, by rw [hk, q2]; rfl⟩
      obtain ⟨rfl, rfl⟩ := hfin
      exact rn rfl (fin_is [0] rfl ⟨rfl, rfl⟩)

theorem clipSd_ct (xs : List Str) (hl : xs.length ≤ 1048576) : ACalls pk 106 [.one (.fs (xs.map eS))] [] (fun r o => r = .one (.fs (xs.map eS)) ∧ o = []) := by
  refine acalls_of_body Tryz.func106 rfl (by kernel_rfl) rfl ?_
  refine rn rfl ?_
  refine goal_did rfl rfl (dA_slice3 0 xs.length xs.length (xs.map eS) rfl rfl rfl rfl rfl Bnd.none_ (Bnd.some_ rfl (by simp)) (by simp) (Bnd.some_ rfl (by simp)) (rows_len eS_len _) (by omega) (by omega) (by simp) rfl (by simp [List.take_of_length_le])) ?_
  exact rn rfl (fin_is [] rfl ⟨rfl, rfl⟩)

theorem compactS_ct (xs : List Str) (kc : Nat) (hk : xs.length ≤ kc) (hl : xs.length ≤ 1000) (hkc : kc ≤ 1048576) :
    ACalls pk 151 [.one (.os 0 0 xs.length kc)] [ownS xs] (fun r o => r = .one (.os 0 0 (compS xs).length kc) ∧ o = [ownS (compS xs ++ List.replicate (xs.length - (compS xs).length) [])]) := by
  refine acalls_of_body Tryz.func151 rfl (by kernel_rfl) rfl ?_
  refine rn rfl ?_
  refine goal_cond rfl (fun h => ?_) (fun h => ?_) <;> (try simp only [gt_iff_lt, ge_iff_le, bne_iff_ne, ne_eq, bne_eq_false_iff_eq, beq_iff_eq, beq_eq_false_iff_ne, Bool.not_eq_true', Bool.not_eq_false', decide_eq_true_eq, decide_eq_false_iff_not, List.length_map] at h)
  · have he : compS xs = xs := by
      cases xs with
      | nil => rfl
      | cons a l =>
        cases l with
        | nil => rfl
        | cons b l => simp only [List.length_cons] at h; omega
    exact rn rfl (fin_is [] rfl ⟨by rw [he], by rw [he, Nat.sub_self]; simp; rfl⟩)
  · refine rn rfl ?_
    refine goal_loop_keep (fun m σ => ∃ (q : Int) (i : Nat), q = i ∧ 1 ≤ i ∧ i ≤ xs.length ∧ m = xs.length - i ∧ compS (xs.take i) = xs.take i ∧
        σ = ⟨[(3, .one (.int .i64 q)), (0, .one (.os 0 0 xs.length kc))], [ownS xs], []⟩) (xs.length - 1) [3, 0] [] rfl
      ⟨_, 1, rfl, by omega, by omega, by omega, compS_one (by omega), rfl⟩ ?_
    rintro m σ ⟨q, i, rfl, h1, hi, rfl, hpre, rfl⟩
    refine rn rfl ?_
    refine goal_cond rfl (fun h2 => ?_) (fun h2 => ?_) <;> (try simp only [gt_iff_lt, ge_iff_le, bne_iff_ne, ne_eq, bne_eq_false_iff_eq, beq_iff_eq, beq_eq_false_iff_ne, Bool.not_eq_true', Bool.not_eq_false', decide_eq_true_eq, decide_eq_false_iff_not, List.length_map] at h2)
    · obtain ⟨k, rfl⟩ : ∃ k, i = k + 1 := ⟨i - 1, by omega⟩
      obtain ⟨b, hb⟩ := at_some (xs := xs) (i := k + 1) (by omega)
      obtain ⟨c, hc⟩ := at_some (xs := xs) (i := k) (by omega)
      have hst := compS_succ hb hc
      rw [hpre] at hst
      have hw : IntKind.i64.wrap (((k + 1 : Nat) : Int) - 1) = (k : Int) := by rw [wrap64 (by omega) (by omega)]; omega
      refine rn rfl ?_
      refine goal_draw' [0] 10 rfl ?_
      refine drn [0, 1, 4, 5, 6] (by kernel_rfl) (by kernel_rfl) rfl rfl ?_
      refine AH_did 2 rfl (by kernel_rfl) (by kernel_rfl) (by kernel_rfl) rfl rfl (dA_indexOwn rfl rfl rfl rfl rfl rfl rfl rfl rfl (by omega) (by (try simp); omega)) ?_
      refine AH_did 3 rfl (by kernel_rfl) (by kernel_rfl) (by kernel_rfl) rfl rfl (dA_loadEl (eS b) rfl rfl rfl rfl (map_at (by simpa using hb)) rfl rfl rfl) ?_
      refine AH_did 7 rfl (by kernel_rfl) (by kernel_rfl) (by kernel_rfl) rfl rfl (dA_indexOwn rfl rfl rfl rfl rfl rfl rfl rfl rfl (by rw [hw]; omega) (by rw [hw]; (try simp); omega)) ?_
      refine AH_did 8 rfl (by kernel_rfl) (by kernel_rfl) (by kernel_rfl) rfl rfl (dA_loadEl (eS c) rfl rfl rfl rfl (map_at (by rw [hw]; simpa using hc)) rfl rfl rfl) ?_
      refine drn [9] (by kernel_rfl) (by kernel_rfl) rfl rfl ?_
      refine AH_end (by kernel_rfl) ?_
      refine rn rfl ?_
      refine goal_cond rfl (fun h3 => ?_) (fun h3 => ?_) <;> simp only [beq_iff_eq, beq_eq_false_iff_ne, ne_eq, decide_eq_true_eq, decide_eq_false_iff_not] at h3
      · subst h3
        refine rn rfl ?_
        refine goal_did rfl rfl (dA_sliceOwn (k + 1) xs.length kc (k + 1) (xs.length - (k + 1)) (kc - (k + 1)) rfl rfl rfl rfl rfl rfl rfl (Bnd.some_ rfl rfl) Bnd.none_ (.inl ⟨rfl, rfl⟩) (by omega) (by omega) (Nat.le_refl _) (by simp) rfl (by simp) (by omega) rfl) ?_
        refine rn rfl ?_
        refine goal_loop_keep (fun m σ => ∃ (q j : Int) (d p : Nat) (ys : List Str), q = d ∧ j = p ∧ 1 ≤ d ∧ k + 1 + d ≤ xs.length ∧ m = xs.length - (k + 1 + d) ∧ p ≤ k + d ∧ ys.length = xs.length ∧ ys.take p = compS (xs.take (k + 1 + d)) ∧ ys.drop (k + d) = xs.drop (k + d) ∧
            σ = ⟨[(5, .one (.int .i64 q)), (4, .one (.os 0 (k + 1) (xs.length - (k + 1)) (kc - (k + 1)))), (3, .one (.int .i64 j)), (0, .one (.os 0 0 xs.length kc))], [ownS ys], []⟩) (xs.length - (k + 1 + 1)) [5, 4, 3, 0] [] rfl
          ⟨_, _, 1, k + 1, xs, rfl, rfl, by omega, by omega, by omega, by omega, rfl, by rw [hst]; simp, rfl, rfl⟩ ?_
        rintro m σ ⟨q, j, d, p, ys, rfl, rfl, hd, hdl, rfl, hp, hyl, hyt, hyd, rfl⟩
        refine rn rfl ?_
        refine goal_cond rfl (fun h4 => ?_) (fun h4 => ?_) <;> (try simp only [gt_iff_lt, ge_iff_le, bne_iff_ne, ne_eq, bne_eq_false_iff_eq, beq_iff_eq, beq_eq_false_iff_ne, Bool.not_eq_true', Bool.not_eq_false', decide_eq_true_eq, decide_eq_false_iff_not, List.length_map] at h4)
        · obtain ⟨x, hx⟩ := at_some (xs := xs) (i := k + d + 1) (by omega)
          obtain ⟨z, hz⟩ := at_some (xs := xs) (i := k + d) (by omega)
          obtain ⟨old, hold⟩ := at_some (xs := ys) (i := p) (by omega)
          have hyx : ys[k + d + 1]? = some x := by
            have := congrArg (fun l => l[1]?) hyd
            simp only [List.getElem?_drop] at this
            rw [this]; exact hx
          have hyz : ys[k + d]? = some z := by
            have := congrArg (fun l => l[0]?) hyd
            simp only [List.getElem?_drop, Nat.add_zero] at this
            rw [this]; exact hz
          have hst2 := compS_succ hx hz
          have hw2 : IntKind.i64.wrap ((d : Int) - 1) = ((d - 1 : Nat) : Int) := by rw [wrap64 (by omega) (by omega)]; omega
          have e1 : k + 1 + d = k + d + 1 := by omega
          have e2 : k + 1 + (d - 1) = k + d := by omega
          rw [e1] at hyt
          refine rn rfl ?_
          refine goal_draw' [0] 10 rfl ?_
          refine drn [0, 1, 4, 5, 6] (by kernel_rfl) (by kernel_rfl) rfl rfl ?_
          refine AH_did 2 rfl (by kernel_rfl) (by kernel_rfl) (by kernel_rfl) rfl rfl (dA_indexOwn rfl rfl rfl rfl rfl rfl rfl rfl rfl (by omega) (by (try simp); omega)) ?_
          refine AH_did 3 rfl (by kernel_rfl) (by kernel_rfl) (by kernel_rfl) rfl rfl (dA_loadEl (eS x) rfl rfl rfl rfl (map_at (by simpa [e1] using hyx)) rfl rfl rfl) ?_
          refine AH_did 7 rfl (by kernel_rfl) (by kernel_rfl) (by kernel_rfl) rfl rfl (dA_indexOwn rfl rfl rfl rfl rfl rfl rfl rfl rfl (by rw [hw2]; omega) (by rw [hw2]; (try simp); omega)) ?_
          refine AH_did 8 rfl (by kernel_rfl) (by kernel_rfl) (by kernel_rfl) rfl rfl (dA_loadEl (eS z) rfl rfl rfl rfl (map_at (by rw [hw2]; simpa [e2] using hyz)) rfl rfl rfl) ?_
          refine drn [9] (by kernel_rfl) (by kernel_rfl) rfl rfl ?_
          refine AH_end (by kernel_rfl) ?_
          refine rn rfl ?_
          refine goal_cond rfl (fun h3 => ?_) (fun h3 => ?_) <;> simp only [bne_iff_ne, ne_eq, bne_eq_false_iff_eq, Bool.not_eq_true', Bool.not_eq_false', beq_iff_eq, beq_eq_false_iff_ne, decide_eq_true_eq, decide_eq_false_iff_not] at h3
          · rw [if_neg h3] at hst2
            refine rn rfl ?_
            refine goal_did rfl rfl (dA_indexOwn rfl rfl rfl rfl rfl rfl rfl rfl rfl (by omega) (by (try simp); omega)) ?_
            refine goal_did rfl rfl (dA_loadEl (eS x) rfl rfl rfl rfl (map_at (by simpa [e1] using hyx)) rfl rfl rfl) ?_
            refine goal_did rfl rfl (dA_indexOwn rfl rfl rfl rfl rfl rfl rfl rfl rfl (by omega) (by (try simp); omega)) ?_
            refine goal_did rfl rfl (dA_storeEl (eS old) ((ys.set p x).map eS) true rfl rfl rfl rfl rfl (map_at (by simpa using hold)) rfl rfl (by simp [eS]) (by rw [map_set]; simp [patch, eS]) (fun _ => noOwnR_map _ eS_noOwn _)) ?_
            refine rn rfl ?_
            refine round_keep (xs.length - (k + 1 + (d + 1))) [5, 4, 3, 0] [] (by omega) rfl ⟨_, _, d + 1, p + 1, ys.set p x, wrap64 (by omega) (by omega), wrap64 (by omega) (by omega), by omega, by omega, rfl, by omega, by simp [hyl], ?_, ?_, rfl⟩
            · rw [show k + 1 + (d + 1) = k + d + 1 + 1 by omega, hst2, ← hyt]
              have hlt := lt_of_some hold
              rw [← take_snoc (x := x) (by rw [List.getElem?_set_self hlt]), List.take_set_of_le (by omega)]
            · rw [List.drop_set_of_lt (by omega)]
              have := congrArg (List.drop 1) hyd
              rwa [List.drop_drop, List.drop_drop] at this
          · rw [if_pos h3, List.append_nil] at hst2
            refine rn rfl ?_
            refine round_keep (xs.length - (k + 1 + (d + 1))) [5, 4, 3, 0] [] (by omega) rfl ⟨_, _, d + 1, p, ys, wrap64 (by omega) (by omega), rfl, by omega, by omega, rfl, by omega, hyl, ?_, ?_, rfl⟩
            · rw [show k + 1 + (d + 1) = k + d + 1 + 1 by omega, hst2, hyt]
            · have := congrArg (List.drop 1) hyd
              rwa [List.drop_drop, List.drop_drop] at this
        · refine rn rfl (round_ext ?_)
          rw [show xs.take (k + 1 + d) = xs from List.take_of_length_le (by omega)] at hyt
          have hpl : (compS xs).length = p := by rw [← hyt]; simp; omega
          refine rn rfl ?_
          refine goal_did rfl rfl (dA_sliceOwn p xs.length kc p (xs.length - p) (kc - p) rfl rfl rfl rfl rfl rfl rfl (Bnd.some_ rfl rfl) Bnd.none_ (.inl ⟨rfl, rfl⟩) (by omega) (by omega) (Nat.le_refl _) (by simp [hyl]) rfl (by simp) (by omega) rfl) ?_
          refine goal_did rfl rfl (dA_clear ((compS xs ++ List.replicate (xs.length - p) []).map eS) true rfl rfl rfl rfl rfl rfl rfl rfl rfl rfl (by simp [hyl]; omega) ?_ (fun _ => noOwnR_map _ eS_noOwn _) rfl) ?_
          · show _ = patch (ys.map eS) p (List.replicate (xs.length - p) [C.str []])
            have e1 : List.replicate (xs.length - p) [C.str []] = (List.replicate (xs.length - p) ([] : Str)).map eS := by rw [List.map_replicate]; rfl
            have e2 : ∀ (l m : List Str) (q : Nat), patch (l.map eS) q (m.map eS) = (patch l q m).map eS := by intro l m q; simp [patch]
            rw [e1, e2]
            congr 1
            unfold patch
            rw [hyt, List.drop_eq_nil_of_le (by simp; omega), List.append_nil]
          refine rn rfl ?_
          refine goal_did rfl rfl (dA_sliceOwn 0 p kc 0 p kc rfl rfl rfl rfl rfl rfl rfl Bnd.none_ (Bnd.some_ rfl rfl) (.inl ⟨rfl, rfl⟩) (by omega) (by omega) (Nat.le_refl _) (by simp [hpl]) rfl rfl rfl rfl) ?_
          rw [hpl]
          exact rn rfl (fin_is [] rfl ⟨rfl, rfl⟩)
      · rw [if_neg h3] at hst
        refine rn rfl ?_
        refine round_keep (xs.length - (k + 1 + 1)) [3, 0] [] (by omega) rfl ⟨_, k + 1 + 1, wrap64 (by omega) (by omega), by omega, by omega, rfl, by rw [hst, take_snoc hb], rfl⟩
    · refine rn rfl (round_ext ?_)
      have he : compS xs = xs := by rw [List.take_of_length_le (by omega)] at hpre; exact hpre
      exact rn rfl (fin_is [] rfl ⟨by rw [he], by rw [he, Nat.sub_self]; simp; rfl⟩)

theorem iunion_ct (a b : List Str) (hl : a.length + b.length ≤ 12) : ACalls pk 82 [.one (.fs (a.map eS)), .one (.fs (b.map eS))] [] (fun r o => r = .one (.fs ((uniqS (a ++ b)).map eS)) ∧ o = []) := by
  have hc := concatS_ct [a, b] (by simp) (by simp; omega)
  have hfl : [a, b].flatten = a ++ b := by simp
  rw [hfl] at hc
  have hz : (a ++ b).length ≤ 12 := by simp; omega
  have hu : uniqS (a ++ b) = compS (isortL ltS (a ++ b)) := rfl
  rw [hu]
  generalize a ++ b = zs at *
  have hil := isortL_length ltS zs
  have hcl := compS_length (isortL ltS zs)
  refine acalls_of_body Tryz.func82 rfl (by kernel_rfl) rfl ?_
  refine rn rfl ?_
  refine goal_step (step_call [] rfl rfl rfl rfl rfl rfl (hc)) ?_
  rintro σ2 ⟨r, o', ⟨rfl, rfl⟩, hσ⟩
  obtain rfl := Option.some.inj hσ
  clear hσ
  refine rn rfl ?_
  refine rn rfl ?_
  refine goal_step (step_call [1] rfl rfl rfl rfl rfl rfl (sortSmallS_ct zs zs.length (by omega))) ?_
  rintro σ2 ⟨r, o', ⟨rfl, rfl⟩, hσ⟩
  obtain rfl := Option.some.inj hσ
  clear hσ
  refine rn rfl ?_
  generalize isortL ltS zs = ys at *
  refine goal_step (step_callE [1] rfl rfl rfl rfl rfl rfl (congrArg (fun x => [T.one (.os 0 0 x zs.length)]) hil.symm) (compactS_ct ys zs.length (by omega) (by omega) (by omega))) ?_
  rintro σ2 ⟨r, o', ⟨rfl, rfl⟩, hσ⟩
  obtain rfl := Option.some.inj hσ
  clear hσ
  refine rn rfl ?_
  have hA : T.one (C.fs (List.take (compS ys).length (List.drop 0 ((compS ys ++ List.replicate (ys.length - (compS ys).length) []).map eS)))) = T.one (.fs ((compS ys).map eS)) := by
    rw [List.drop_zero, List.map_append, List.take_append_of_le_length (by simp), List.take_of_length_le (by simp)]
  refine goal_step (step_callE [] rfl rfl rfl rfl rfl rfl (cons_eq hA rfl) (clipSd_ct (compS ys) (by omega))) ?_
  rintro σ2 ⟨r, o', ⟨rfl, rfl⟩, hσ⟩
  obtain rfl := Option.some.inj hσ
  clear hσ
  refine rn rfl ?_
  exact rn rfl (fin_is [] rfl ⟨rfl, rfl⟩)

theorem allowB_at {s : Sig} {n a : Nat} {m : Str} {p : Param} (ha : takesQ s m = (a : Int)) (hp : s[a]? = some p) : allowB s n m = (p.kind == 4 || openQ p a n) := by
  unfold allowB
  rw [ha]
  simp [hp]

theorem allowB_neg {s : Sig} {n : Nat} {m : Str} (ha : takesQ s m < 0) : allowB s n m = false := by
  unfold allowB
  have : ¬ 0 ≤ takesQ s m := by omega
  simp [this]

theorem iallows_ct (s : Sig) (n : Nat) (m : Str) (hs : OkS s) (hn : n ≤ 8) (hm : m.length ≤ 9223372036854775807) :
    ACalls pk 81 [.agg (eG s), .one (.int .i64 n), .one (.str m)] [] (fun r o => r = .one (.bool (okName m && allowB s n m)) ∧ o = []) := by
  have hl := hs.len
  have hP := placesQ_le s
  refine acalls_of_body Tryz.func81 rfl (by kernel_rfl) rfl ?_
  refine rn rfl ?_
  refine goal_step (step_call [] rfl rfl rfl rfl rfl rfl (itakes_ct s m (by omega))) ?_
  rintro σ2 ⟨r, o', ⟨rfl, rfl⟩, hσ⟩
  obtain rfl := Option.some.inj hσ
  clear hσ
  refine rn rfl ?_
  by_cases h0 : takesQ s m < 0
  · refine goal_guard rfl rfl rfl (fun _ => ?_) (fun h1 => by simp at h1 <;> omega)
    refine rn rfl (fin_is [] rfl ⟨?_, rfl⟩)
    rw [allowB_neg h0, Bool.and_false]
  refine goal_guard rfl rfl rfl (fun h1 => by simp at h1 <;> omega) (fun _ => ?_)
  refine rn rfl ?_
  refine goal_step (step_call [] rfl rfl rfl rfl rfl rfl (isName_ct m hm)) ?_
  rintro σ2 ⟨r, o', ⟨rfl, rfl⟩, hσ⟩
  obtain rfl := Option.some.inj hσ
  clear hσ
  refine rn rfl ?_
  refine goal_cond rfl (fun h1 => ?_) (fun h1 => ?_) <;> simp only [Bool.not_eq_true', Bool.not_eq_false'] at h1
  · refine rn rfl (fin_is [] rfl ⟨?_, rfl⟩)
    simp [h1]
  obtain ⟨p, hp, hlt, hk⟩ := takesQ_some h0
  obtain ⟨a, ha⟩ : ∃ a : Nat, takesQ s m = a := ⟨(takesQ s m).toNat, by omega⟩
  have hb := allowB_at (n := n) ha (by rw [ha] at hp; simpa using hp)
  rw [ha] at hp hlt
  rw [hb, h1, ha]
  simp only [Int.toNat_natCast] at hp
  have hw : IntKind.i64.wrap ((a : Int) + 1) = ((a + 1 : Nat) : Int) := by rw [wrap64 (by omega) (by omega)]; omega
  have hkk : p.kind = 1 ∨ p.kind = 3 ∨ p.kind = 4 := by
    rcases hk with ⟨h2, _⟩ | h2
    · rw [named_kind] at h2; omega
    · omega
  refine rn rfl ?_
  refine goal_did rfl rfl (dA_slice 0 (a + 1) ((s.take (a + 1)).map eQ) rfl rfl rfl rfl rfl Bnd.none_ (Bnd.some_ rfl hw) (rows_len eQ_len _) (by omega) (by simp; omega) rfl (by simp)) ?_
  refine rn rfl ?_
  refine goal_loop_keep (fun mm σ => ∃ (q L pc : Int) (i : Nat), q = i ∧ L = (a + 1 : Nat) ∧ pc = ((min i (placesQ s) : Nat) : Int) ∧ i ≤ a + 1 ∧ mm = a + 1 - i ∧ (i = a + 1 → ¬ (p.kind = 1 ∧ a < n)) ∧
      σ = ⟨[(27, .one (.int .i64 q)), (26, .one (.int .i64 L)), (25, .one (.fs ((s.take (a + 1)).map eQ))), (8, .one (.int .i64 pc)), (7, .one (.int .i64 a)), (1, .one (.int .i64 n))], [], []⟩) (a + 1) [27, 26, 25, 8, 7, 1] [] rfl
    ⟨_, _, _, 0, rfl, ?_, ?_, by omega, by omega, fun h2 => by omega, rfl⟩ ?_
  · simp; omega
  · simp
  rintro mm σ ⟨q, L, pc, i, rfl, rfl, rfl, hi, rfl, hno, rfl⟩
  refine rn rfl ?_
  refine goal_cond rfl (fun h2 => ?_) (fun h2 => ?_) <;> (try simp only [gt_iff_lt, ge_iff_le, bne_iff_ne, ne_eq, bne_eq_false_iff_eq, beq_iff_eq, beq_eq_false_iff_ne, Bool.not_eq_true', Bool.not_eq_false', decide_eq_true_eq, decide_eq_false_iff_not, List.length_map] at h2)
  · obtain ⟨x, hx⟩ := at_some (xs := s) (i := i) (by omega)
    have hxt : (s.take (a + 1))[i]? = some x := by rw [List.getElem?_take, if_pos (by omega)]; exact hx
    have hpi := hs.placed_iff hx
    refine rn rfl ?_
    refine goal_did rfl rfl (dA_index (eQ x) rfl rfl rfl rfl rfl rfl rfl (by omega) (by simp; omega) (map_at (by simpa using hxt)) rfl) ?_
    refine rt 8 rfl ?_
    refine goal_cutR (fun σ' => σ' = ⟨[(27, .one (.int .i64 i)), (26, .one (.int .i64 (a + 1 : Nat))), (25, .one (.fs ((s.take (a + 1)).map eQ))), (10, .one (.op 0 0 0)), (9, .one (.int .i64 i)), (8, .one (.int .i64 ((min (i + 1) (placesQ s) : Nat) : Int))), (7, .one (.int .i64 a)), (1, .one (.int .i64 n))], [some ⟨4, [eQ x], false, false, true⟩], []⟩) ?_ ?_
    · refine rn rfl ?_
      refine goal_step (step_call [] rfl rfl rfl rfl rfl rfl (iplaced_ct x)) ?_
      rintro σ2 ⟨r, o', ⟨rfl, rfl⟩, hσ⟩
      obtain rfl := Option.some.inj hσ
      clear hσ
      refine rn rfl ?_
      refine goal_cond rfl (fun h3 => ?_) (fun h3 => ?_) <;> (try simp only [gt_iff_lt, ge_iff_le, bne_iff_ne, ne_eq, bne_eq_false_iff_eq, beq_iff_eq, beq_eq_false_iff_ne, Bool.not_eq_true', Bool.not_eq_false', decide_eq_true_eq, decide_eq_false_iff_not, List.length_map] at h3)
      · have hip := hpi.1 h3
        have e : IntKind.i64.wrap (((min i (placesQ s) : Nat) : Int) + 1) = ((min (i + 1) (placesQ s) : Nat) : Int) := by rw [wrap64 (by omega) (by omega)]; omega
        rw [← e]
        refine rn rfl ?_
        exact cut_nrm [27, 26, 25, 10, 9, 8, 7, 1] [0] rfl rfl
      · have hip : ¬ i < placesQ s := fun h4 => by rw [hpi.2 h4] at h3; cases h3
        have e : min (i + 1) (placesQ s) = min i (placesQ s) := by omega
        rw [e]
        refine rn rfl ?_
        exact cut_nrm [27, 26, 25, 10, 9, 8, 7, 1] [0] rfl rfl
    rintro _ rfl
    refine rn rfl ?_
    refine goal_guard rfl rfl rfl (fun h3 => ?_) (fun h3 => ?_) <;> (try simp only [gt_iff_lt, ge_iff_le, bne_iff_ne, ne_eq, bne_eq_false_iff_eq, beq_iff_eq, beq_eq_false_iff_ne, Bool.not_eq_true', Bool.not_eq_false', decide_eq_true_eq, decide_eq_false_iff_not, List.length_map] at h3)
    · have hia : i = a := by omega
      subst hia
      rw [hx] at hp
      cases hp
      refine rn rfl ?_
      refine goal_guard rfl rfl rfl (fun h4 => ?_) (fun h4 => ?_) <;> (try simp only [gt_iff_lt, ge_iff_le, bne_iff_ne, ne_eq, bne_eq_false_iff_eq, beq_iff_eq, beq_eq_false_iff_ne, Bool.not_eq_true', Bool.not_eq_false', decide_eq_true_eq, decide_eq_false_iff_not, List.length_map] at h4)
      · have hip := hpi.1 (placed_kind.2 (.inr h4))
        refine rn rfl ?_
        refine goal_cond rfl (fun h5 => ?_) (fun h5 => ?_) <;> (try simp only [gt_iff_lt, ge_iff_le, bne_iff_ne, ne_eq, bne_eq_false_iff_eq, beq_iff_eq, beq_eq_false_iff_ne, Bool.not_eq_true', Bool.not_eq_false', decide_eq_true_eq, decide_eq_false_iff_not, List.length_map] at h5)
        · refine rn rfl (round_ret (fin_is [] rfl ⟨?_, rfl⟩))
          have h6 : openQ p i n = false := by
            cases ho : openQ p i n with
            | false => rfl
            | true => rw [open_kind] at ho; omega
          simp [h6, h4]
        · refine rn rfl ?_
          refine round_keep (i + 1 - (i + 1)) [27, 26, 25, 8, 7, 1] [] (by omega) rfl ⟨_, _, _, i + 1, wrap64 (by omega) (by omega), rfl, rfl, by omega, rfl, fun _ => by omega, rfl⟩
      · refine rn rfl ?_
        refine round_keep (i + 1 - (i + 1)) [27, 26, 25, 8, 7, 1] [] (by omega) rfl ⟨_, _, _, i + 1, wrap64 (by omega) (by omega), rfl, rfl, by omega, rfl, fun _ h5 => h4 h5.1, rfl⟩
    · refine rn rfl ?_
      refine round_keep (a + 1 - (i + 1)) [27, 26, 25, 8, 7, 1] [] (by omega) rfl ⟨_, _, _, i + 1, wrap64 (by omega) (by omega), rfl, rfl, by omega, rfl, fun h5 => by omega, rfl⟩
  · refine rn rfl (round_ext ?_)
    have := hno (by omega)
    refine rn rfl (fin_is [] rfl ⟨?_, rfl⟩)
    rcases hkk with h3 | h3 | h3
    · have : openQ p a n = true := open_kind.2 (.inr ⟨h3, by omega⟩)
      simp [this]
    · have : openQ p a n = true := open_kind.2 (.inl h3)
      simp [this]
    · simp [h3]

theorem sallows_ct (s : Sig) (n : Nat) (m : Str) (hl : s.length ≤ 1048576) (hn : n ≤ 8) : ACalls pk 85 [.agg (eG s), .one (.int .i64 n), .one (.str m)] [] (fun r o => r = .one (.bool (allowB s n m)) ∧ o = []) := by
  refine acalls_of_body Tryz.func85 rfl (by kernel_rfl) rfl ?_
  refine rn rfl ?_
  refine goal_step (step_call [] rfl rfl rfl rfl rfl rfl (stakes_ct s m (by omega))) ?_
  rintro σ2 ⟨r, o', ⟨rfl, rfl⟩, hσ⟩
  obtain rfl := Option.some.inj hσ
  clear hσ
  refine rn rfl ?_
  by_cases h0 : takesQ s m < 0
  · refine goal_guard rfl rfl rfl (fun h1 => by simp at h1 <;> omega) (fun _ => ?_)
    refine rn rfl (fin_is [] rfl ⟨?_, rfl⟩)
    rw [allowB_neg h0]
  obtain ⟨p, hp, hlt, hk⟩ := takesQ_some h0
  obtain ⟨a, ha⟩ : ∃ a : Nat, takesQ s m = a := ⟨(takesQ s m).toNat, by omega⟩
  rw [allowB_at (n := n) ha (by rw [ha] at hp; simpa using hp)]
  rw [ha] at hp hlt ⊢
  simp only [Int.toNat_natCast] at hp
  refine goal_guard rfl rfl rfl (fun _ => ?_) (fun h1 => by simp at h1 <;> omega)
  refine rn rfl ?_
  refine goal_did rfl rfl (dA_index (eQ p) rfl rfl rfl rfl rfl rfl rfl (by omega) (by (try simp); omega) (map_at (by simpa using hp)) rfl) ?_
  refine rn rfl ?_
  refine goal_guard rfl rfl rfl (fun h1 => ?_) (fun h1 => ?_) <;> (try simp only [gt_iff_lt, ge_iff_le, bne_iff_ne, ne_eq, bne_eq_false_iff_eq, beq_iff_eq, beq_eq_false_iff_ne, Bool.not_eq_true', Bool.not_eq_false', decide_eq_true_eq, decide_eq_false_iff_not, List.length_map] at h1)
  · refine rn rfl (fin_is [] rfl ⟨?_, rfl⟩)
    simp [h1]
  · refine rn rfl ?_
    refine goal_did rfl rfl (dA_index (eQ p) rfl rfl rfl rfl rfl rfl rfl (by omega) (by (try simp); omega) (map_at (by simpa using hp)) rfl) ?_
    refine rn rfl ?_
    refine goal_step (step_call [] rfl rfl rfl rfl rfl rfl (open_ct p a n)) ?_
    rintro σ2 ⟨r, o', ⟨rfl, rfl⟩, hσ⟩
    obtain rfl := Option.some.inj hσ
    clear hσ
    refine rn rfl ?_
    refine rn rfl (fin_is [] rfl ⟨?_, rfl⟩)
    simp [h1]

theorem shasText_ct (xs : List Str) (n : Str) (hb : xs.length ≤ 9223372036854775807) :
    ACalls pk 87 [.one (.fs (xs.map eS)), .one (.str n)] [] (fun r o => r = .one (.bool (decide (n ∈ xs))) ∧ o = []) := by
  refine acalls_of_body Tryz.func87 rfl (by kernel_rfl) rfl ?_
  refine rn rfl ?_
  refine goal_loop_keep (fun m σ => ∃ (q : Int) (i : Nat), q = i ∧ i ≤ xs.length ∧ m = xs.length - i ∧ n ∉ xs.take i ∧
      σ = ⟨[(5, .one (.int .i64 q)), (1, .one (.str n)), (0, .one (.fs (xs.map eS)))], [], []⟩) xs.length [5, 1, 0] [] rfl
    ⟨_, 0, rfl, by omega, by omega, by simp, rfl⟩ ?_
  rintro m σ ⟨q, i, rfl, hi, rfl, hidx, rfl⟩
  refine rn rfl ?_
  refine goal_cond rfl (fun h => ?_) (fun h => ?_) <;> (try simp only [gt_iff_lt, ge_iff_le, bne_iff_ne, ne_eq, bne_eq_false_iff_eq, beq_iff_eq, beq_eq_false_iff_ne, Bool.not_eq_true', Bool.not_eq_false', decide_eq_true_eq, decide_eq_false_iff_not, List.length_map] at h)
  · obtain ⟨p, hp⟩ := at_some (xs := xs) (i := i) (by omega)
    refine rn rfl ?_
    refine goal_did rfl rfl (dA_index (eS p) rfl rfl rfl rfl rfl rfl rfl (by omega) (by (try simp); omega) (map_at (by simpa using hp)) rfl) ?_
    refine rn rfl ?_
    refine goal_cond rfl (fun h2 => ?_) (fun h2 => ?_) <;> (try simp only [gt_iff_lt, ge_iff_le, bne_iff_ne, ne_eq, bne_eq_false_iff_eq, beq_iff_eq, beq_eq_false_iff_ne, Bool.not_eq_true', Bool.not_eq_false', decide_eq_true_eq, decide_eq_false_iff_not, List.length_map] at h2)
    · refine rn rfl (round_ret (fin_is [] rfl ⟨?_, rfl⟩))
      have : n ∈ xs := by rw [← h2]; exact List.mem_of_getElem? hp
      simp [this]
    · refine rn rfl ?_
      refine round_keep (xs.length - (i + 1)) [5, 1, 0] [] (by omega) rfl ⟨_, i + 1, wrap64 (by omega) (by omega), by omega, rfl, ?_, rfl⟩
      rw [← take_snoc hp]; simp only [List.mem_append, List.mem_singleton, not_or]; exact ⟨hidx, fun h0 => h2 h0.symm⟩
  · refine rn rfl (round_ext ?_)
    refine rn rfl (fin_is [] rfl ⟨?_, rfl⟩)
    rw [List.take_of_length_le (by omega)] at hidx
    simp [hidx]

theorem sallowsAt_ct (s : Sig) (n : Int) (m : Str) (hl : LenS s) (hm : m.length ≤ 9223372036854775807) :
    ACalls pk 33 [.agg (eG s), .one (.int .i64 n), .one (.str m)] [] (fun r o => r = .one (.bool (AllowsF s n m)) ∧ o = []) := by
  have hl' := hl
  obtain ⟨s1, s2⟩ := hl
  refine acalls_of_body Tryz.func33 rfl (by kernel_rfl) rfl ?_
  refine rn rfl ?_
  refine goal_step (step_call [] rfl rfl rfl rfl rfl rfl (goodCount_ct s n hl')) ?_
  rintro σ2 ⟨r, o', ⟨rfl, rfl⟩, hσ⟩
  obtain rfl := Option.some.inj hσ
  clear hσ
  refine rn rfl ?_
  refine goal_guard rfl rfl rfl (fun h1 => ?_) (fun h1 => ?_) <;> (try simp only [gt_iff_lt, ge_iff_le, bne_iff_ne, ne_eq, bne_eq_false_iff_eq, beq_iff_eq, beq_eq_false_iff_ne, Bool.not_eq_true', Bool.not_eq_false', decide_eq_true_eq, decide_eq_false_iff_not, List.length_map] at h1)
  · refine rn rfl (fin_is [] rfl ⟨?_, rfl⟩)
    simp [AllowsF, h1]
  obtain ⟨hok, k, rfl, hk, ht, hne⟩ := goodC_ok h1
  refine rn rfl ?_
  refine goal_step (step_call [] rfl rfl rfl rfl rfl rfl (validName_ct m hm)) ?_
  rintro σ2 ⟨r, o', ⟨rfl, rfl⟩, hσ⟩
  obtain rfl := Option.some.inj hσ
  clear hσ
  refine rn rfl ?_
  refine goal_guard rfl rfl rfl (fun h2 => ?_) (fun h2 => ?_) <;> (try simp only [gt_iff_lt, ge_iff_le, bne_iff_ne, ne_eq, bne_eq_false_iff_eq, beq_iff_eq, beq_eq_false_iff_ne, Bool.not_eq_true', Bool.not_eq_false', decide_eq_true_eq, decide_eq_false_iff_not, List.length_map] at h2)
  · refine rn rfl (fin_is [] rfl ⟨?_, rfl⟩)
    simp [AllowsF, h2]
  refine rn rfl ?_
  refine goal_step (step_call [] rfl rfl rfl rfl rfl rfl (sallows_ct s k m s1 hk)) ?_
  rintro σ2 ⟨r, o', ⟨rfl, rfl⟩, hσ⟩
  obtain rfl := Option.some.inj hσ
  clear hσ
  refine rn rfl ?_
  refine goal_cond rfl (fun h3 => ?_) (fun h3 => ?_) <;> (try simp only [gt_iff_lt, ge_iff_le, bne_iff_ne, ne_eq, bne_eq_false_iff_eq, beq_iff_eq, beq_eq_false_iff_ne, Bool.not_eq_true', Bool.not_eq_false', decide_eq_true_eq, decide_eq_false_iff_not, List.length_map] at h3)
  · refine rn rfl (fin_is [] rfl ⟨?_, rfl⟩)
    simp [AllowsF, h3]
  refine rn rfl ?_
  refine goal_step (step_call [] rfl rfl rfl rfl rfl rfl (sneeds_ct s k hok hk)) ?_
  rintro σ2 ⟨r, o', ⟨rfl, rfl⟩, hσ⟩
  obtain rfl := Option.some.inj hσ
  clear hσ
  refine rn rfl ?_
  have hlen := sortS_length (needNs s k)
  have hmem := sortS_mem (needNs s k) m
  have hnl := needNs_len s k
  have hol := hok.len
  have hA : AllowsF s k m = (decide (m ∈ sortS (needNs s k)) || decide ((sortS (needNs s k)).length < 8)) := by
    simp [AllowsF, h1, h2, h3, hmem, hlen]
  rw [hA]
  generalize sortS (needNs s k) = S at *
  refine rn rfl ?_
  refine goal_step (step_call [] rfl rfl rfl rfl rfl rfl (shasText_ct S m (by omega))) ?_
  rintro σ2 ⟨r, o', ⟨rfl, rfl⟩, hσ⟩
  obtain rfl := Option.some.inj hσ
  clear hσ
  refine rn rfl ?_
  refine goal_guard rfl rfl rfl (fun h4 => ?_) (fun h4 => ?_) <;> (try simp only [gt_iff_lt, ge_iff_le, bne_iff_ne, ne_eq, bne_eq_false_iff_eq, beq_iff_eq, beq_eq_false_iff_ne, Bool.not_eq_true', Bool.not_eq_false', decide_eq_true_eq, decide_eq_false_iff_not, List.length_map] at h4)
  · refine rn rfl (fin_is [] rfl ⟨?_, rfl⟩)
    simp [h4]
  · refine rn rfl (fin_is [] rfl ⟨?_, rfl⟩)
    simp [h4]; omega

theorem iallowsAt_ct (s : Sig) (n : Int) (m : Str) (hl : LenS s) (hm : m.length ≤ 9223372036854775807) :
    ACalls pk 32 [.agg (eG s), .one (.int .i64 n), .one (.str m)] [] (fun r o => r = .one (.bool (AllowsF s n m)) ∧ o = []) := by
  have hD := ineedsAtD_ct s n hl
  rw [needsF_snd] at hD
  refine acalls_of_body Tryz.func32 rfl (by kernel_rfl) rfl ?_
  refine rn rfl ?_
  refine goal_step (step_call [] rfl rfl rfl rfl rfl rfl (hD)) ?_
  rintro σ2 ⟨r, o', ⟨rfl, rfl⟩, hσ⟩
  obtain rfl := Option.some.inj hσ
  clear hσ
  refine rn rfl ?_
  refine goal_guard rfl rfl rfl (fun h1 => ?_) (fun h1 => ?_) <;> (try simp only [gt_iff_lt, ge_iff_le, bne_iff_ne, ne_eq, bne_eq_false_iff_eq, beq_iff_eq, beq_eq_false_iff_ne, Bool.not_eq_true', Bool.not_eq_false', decide_eq_true_eq, decide_eq_false_iff_not, List.length_map] at h1)
  · obtain ⟨hok, k, rfl, hk, ht, hne⟩ := goodC_ok h1
    rw [hne]
    refine rn rfl ?_
    refine goal_step (step_call [] rfl rfl rfl rfl rfl rfl (iallows_ct s k m hok hk hm)) ?_
    rintro σ2 ⟨r, o', ⟨rfl, rfl⟩, hσ⟩
    obtain rfl := Option.some.inj hσ
    clear hσ
    refine rn rfl ?_
    refine goal_guard rfl rfl rfl (fun h2 => ?_) (fun h2 => ?_) <;> (try simp only [gt_iff_lt, ge_iff_le, bne_iff_ne, ne_eq, bne_eq_false_iff_eq, beq_iff_eq, beq_eq_false_iff_ne, Bool.not_eq_true', Bool.not_eq_false', decide_eq_true_eq, decide_eq_false_iff_not, List.length_map] at h2)
    · simp only [Bool.and_eq_true] at h2
      have hlen := sortS_length (needNs s k)
      have hmem := sortS_mem (needNs s k) m
      have hnl := needNs_len s k
      have hol := hok.len
      have hnd : (sortS (needNs s k)).Nodup := by
        have := sortS_sorted (needNs_nodup hok k)
        exact SS.nodup this
      have hA : AllowsF s k m = decide ((uniqS (sortS (needNs s k) ++ [m])).length ≤ 8) := by
        rw [uniq_more hnd]
        by_cases h4 : m ∈ needNs s k
        · have : (needNs s k).length ≤ 8 := by omega
          simp [AllowsF, h1, h2, hmem, hlen, h4, this]
        · simp only [AllowsF, h1, h2, Int.toNat_natCast, hmem, hlen, h4, if_false, Bool.true_and]
          have : (needNs s k).contains m = false := by simpa using h4
          rw [this, Bool.false_or]
          congr 1
      rw [hA]
      have hul := uniqS_length (sortS (needNs s k) ++ [m])
      generalize sortS (needNs s k) = S at *
      refine rn rfl ?_
      refine goal_step (step_call [] rfl rfl rfl rfl rfl rfl (iunion_ct S [m] (by simp; omega))) ?_
      rintro σ2 ⟨r, o', ⟨rfl, rfl⟩, hσ⟩
      obtain rfl := Option.some.inj hσ
      clear hσ
      refine rn rfl ?_
      refine rn rfl (fin_is [] rfl ⟨?_, rfl⟩)
      simp; omega
    · refine rn rfl (fin_is [] rfl ⟨?_, rfl⟩)
      simp only [Bool.and_eq_false_iff] at h2
      rcases h2 with h2 | h2 <;> simp [AllowsF, h2]
  · refine rn rfl (fin_is [] rfl ⟨?_, rfl⟩)
    simp [AllowsF, h1]

def putR : List Pair → Str → Int → List Pair
  | [], n, v => [⟨n, v⟩]
  | p :: ps, n, v => if p.name = n then ⟨p.name, v⟩ :: ps else p :: putR ps n v

theorem putR_pos {p : Pair} {ps : List Pair} {n : Str} {v : Int} (h : p.name = n) : putR (p :: ps) n v = ⟨p.name, v⟩ :: ps := if_pos h

theorem putR_neg {p : Pair} {ps : List Pair} {n : Str} {v : Int} (h : ¬ p.name = n) : putR (p :: ps) n v = p :: putR ps n v := if_neg h

theorem putP_eq : ∀ (ps : List Pair) (n : Str) (v : Int), putP ps n v = putR ps n v
  | [], n, v => rfl
  | p :: ps, n, v => by
    have ih := putP_eq ps n v
    unfold putP at ih ⊢
    unfold putR
    by_cases h : p.name = n
    · have h1 : nameIs n p = true := by simp [nameIs, h]
      rw [if_pos h]
      simp [List.any_cons, h1, List.findIdx_cons]
    · have h1 : nameIs n p = false := by simp [nameIs, h]
      rw [if_neg h, ← ih]
      simp only [List.any_cons, h1, Bool.false_or, List.findIdx_cons, cond_false]
      split
      · rfl
      · rfl

theorem putR_names (n : Str) (v : Int) (x : Str) : ∀ ps : List Pair, x ∈ namesOf (putR ps n v) ↔ x ∈ namesOf ps ∨ x = n
  | [] => by simp [putR, namesOf]
  | p :: ps => by
    by_cases h : p.name = n
    · simp only [putR, h, if_true, namesOf, List.map_cons, List.mem_cons]
      constructor
      · rintro (h1 | h1)
        · exact .inr h1
        · exact .inl (.inr h1)
      · rintro ((h1 | h1) | h1)
        · exact .inl h1
        · exact .inr h1
        · exact .inl h1
    · have ih := putR_names n v x ps
      simp only [putR, h, if_false, namesOf, List.map_cons, List.mem_cons] at ih ⊢
      rw [ih]; simp only [or_assoc]

theorem putR_nodup (n : Str) (v : Int) : ∀ ps : List Pair, (namesOf ps).Nodup → (namesOf (putR ps n v)).Nodup
  | [], _ => by simp [putR, namesOf]
  | p :: ps, hd => by
    by_cases h : p.name = n
    · have : namesOf (putR (p :: ps) n v) = namesOf (p :: ps) := by simp [putR, h, namesOf]
      rw [this]; exact hd
    · have h1 : namesOf (putR (p :: ps) n v) = p.name :: namesOf (putR ps n v) := by simp [putR, h, namesOf]
      have h2 : namesOf (p :: ps) = p.name :: namesOf ps := rfl
      rw [h2, List.nodup_cons] at hd
      rw [h1, List.nodup_cons]
      refine ⟨fun h0 => ?_, putR_nodup n v ps hd.2⟩
      rcases (putR_names n v p.name ps).1 h0 with h3 | h3
      · exact hd.1 h3
      · exact h h3

theorem putR_length (n : Str) (v : Int) : ∀ ps : List Pair, (putR ps n v).length = if n ∈ namesOf ps then ps.length else ps.length + 1
  | [] => by simp [putR, namesOf]
  | p :: ps => by
    have hc : namesOf (p :: ps) = p.name :: namesOf ps := rfl
    by_cases h : p.name = n
    · rw [putR_pos h, hc, if_pos (by rw [h]; simp)]; rfl
    · rw [putR_neg h, hc, List.length_cons, putR_length n v ps]
      have : (n ∈ p.name :: namesOf ps) ↔ n ∈ namesOf ps := by
        rw [List.mem_cons]
        exact ⟨fun h0 => h0.resolve_left (fun h1 => h h1.symm), .inr⟩
      simp only [this, List.length_cons]
      split <;> rfl

theorem putF_names (f : Flat) (n x : Str) (v : Int) : x ∈ namesOf (putF f n v).named ↔ x ∈ namesOf f.named ∨ x = n := by
  unfold putF
  rw [putP_eq]
  exact putR_names n v x f.named

theorem allows_law {s : Sig} (hs : OkS s) {n : Nat} (hn : n ≤ 8) (ht : takesC s n = true) (m : Str) :
    AllowsF s n m = ((putNameF (flatX ⟨n, sortS (needNs s n)⟩) m 0).2 && (BindQ s (putNameF (flatX ⟨n, sortS (needNs s n)⟩) m 0).1).2) := by
  have hF := okX_flat (needs_okX hs hn)
  have hpl : (flatX ⟨n, sortS (needNs s n)⟩).places.length = n := by rw [flatX_places]; rfl
  have hnm : ∀ x, x ∈ namesOf (flatX ⟨n, sortS (needNs s n)⟩).named ↔ x ∈ needNs s n := fun x => by rw [flatX_names]; exact sortS_mem _ _
  have hlen : (flatX ⟨n, sortS (needNs s n)⟩).named.length = (needNs s n).length := by simp [flatX, sortS_length]
  have hg : goodC s n = true := by rw [goodC_at hn]; simp [okSig_iff.2 hs, ht]
  generalize flatX ⟨n, sortS (needNs s n)⟩ = F at *
  have hnl := needNs_len s n
  have hol := hs.len
  have hnames : ∀ x, x ∈ namesOf (putF F m 0).named ↔ x ∈ needNs s n ∨ x = m := fun x => by rw [putF_names, hnm]
  have hplen : (putF F m 0).named.length = if m ∈ needNs s n then (needNs s n).length else (needNs s n).length + 1 := by
    unfold putF
    rw [putP_eq]
    simp only [putR_length, hnm, hlen]
  have hok : okFlat (putF F m 0) = true ↔ okName m = true ∧ (m ∈ needNs s n ∨ (needNs s n).length < 8) := by
    rw [okFlat_iff]
    constructor
    · intro h
      have h1 := h.pairs
      have hm : m ∈ namesOf (putF F m 0).named := (hnames m).2 (.inr rfl)
      obtain ⟨q, hq, rfl⟩ := List.mem_map.1 hm
      have h2 := h1 q hq
      have h3 := h.named
      rw [hplen] at h3
      refine ⟨by simp only [okPair, Bool.and_eq_true] at h2; exact h2.1, ?_⟩
      split at h3
      · rename_i h4; exact .inl h4
      · exact .inr (by omega)
    · rintro ⟨h1, h2⟩
      refine ⟨fun p hp => ?_, ?_, hF.vals, hF.places, ?_⟩
      · have hval : okVal p.value = true ∧ okName p.name = true := by
          have hmem : p ∈ putR F.named m 0 := by unfold putF at hp; rw [putP_eq] at hp; exact hp
          have key : ∀ ps : List Pair, (∀ q ∈ ps, okPair q = true) → p ∈ putR ps m 0 → okVal p.value = true ∧ okName p.name = true := by
            intro ps
            induction ps with
            | nil =>
              intro _ h
              simp [putR] at h
              subst h
              exact ⟨by simp [okVal, inR], h1⟩
            | cons q ps ih =>
              intro hall h
              by_cases hq : q.name = m
              · rw [putR_pos hq] at h
                rcases List.mem_cons.1 h with rfl | h
                · exact ⟨by simp [okVal, inR], by show okName q.name = true; rw [hq]; exact h1⟩
                · have := hall p (by simp [h]); simp only [okPair, Bool.and_eq_true] at this; exact ⟨this.2, this.1⟩
              · rw [putR_neg hq] at h
                rcases List.mem_cons.1 h with rfl | h
                · have := hall p (by simp); simp only [okPair, Bool.and_eq_true] at this; exact ⟨this.2, this.1⟩
                · exact ih (fun r hr => hall r (by simp [hr])) h
          exact key F.named hF.pairs hmem
        simp [okPair, hval]
      · unfold putF
        rw [putP_eq]
        exact putR_nodup m 0 _ hF.nodup
      · rw [hplen]
        split
        · omega
        · rename_i h4
          rcases h2 with h2 | h2
          · exact absurd h2 h4
          · omega
  unfold putNameF checkF
  rw [okFlat_iff.2 hF, Bool.true_and]
  by_cases ho : okFlat (putF F m 0) = true
  · rw [if_pos ho]
    have hO := okFlat_iff.1 ho
    obtain ⟨h1, h2⟩ := hok.1 ho
    simp only [Bool.true_and]
    rw [bind_ok hs hO]
    have hacc : accQ s (putF F m 0) = true ↔ allowB s n m = true := by
      rw [acc_law hs hO, allowB_iff hs]
      have hp' : (putF F m 0).places.length = n := hpl
      rw [hp']
      constructor
      · rintro ⟨_, _, h5⟩
        exact h5 m ((hnames m).2 (.inr rfl))
      · intro h5
        refine ⟨ht, fun x hx => (hnames x).2 (.inl hx), fun x hx => ?_⟩
        rcases (hnames x).1 hx with h6 | rfl
        · exact need_allow hs h6
        · exact h5
    have h3 : ((needNs s n).contains m || decide ((needNs s n).length < 8)) = true := by
      rcases h2 with h2 | h2
      · simp [h2]
      · simp [h2]
    have hA : AllowsF s n m = allowB s n m := by
      unfold AllowsF
      rw [hg, h1, Int.toNat_natCast, h3]; simp
    rw [hA]
    cases h4 : accQ s (putF F m 0) with
    | true => exact hacc.1 h4
    | false =>
      cases h5 : allowB s n m with
      | false => rfl
      | true => rw [hacc.2 h5] at h4; cases h4
  · rw [if_neg ho]
    simp only [Bool.false_and]
    have ho' : ¬ (okName m = true ∧ (m ∈ needNs s n ∨ (needNs s n).length < 8)) := fun h => ho (hok.2 h)
    unfold AllowsF
    cases h1 : okName m with
    | false => simp
    | true =>
      have h2 : ¬ (m ∈ needNs s n ∨ (needNs s n).length < 8) := fun h => ho' ⟨h1, h⟩
      have h3 : ((needNs s n).contains m || decide ((needNs s n).length < 8)) = false := by
        rw [not_or] at h2
        simp [h2.1, Nat.not_lt.1 h2.2]
      rw [Int.toNat_natCast, h3, Bool.and_false]

theorem ifindParam_ct (s : Sig) (n : Str) (hs : LenS s) : ACalls pk 36 [.agg (eG s), .one (.str n)] [] (fun r o => r = .one (.int .i64 (if okSig s then idxI (qIs n) s 0 else -1)) ∧ o = []) := by
  obtain ⟨s1, s2⟩ := hs
  refine acalls_of_body Tryz.func36 rfl (by kernel_rfl) rfl ?_
  refine rn rfl ?_
  refine goal_step (step_call [] rfl rfl rfl rfl rfl rfl (ivalidSig_ct s (by omega) s2)) ?_
  rintro σ2 ⟨r, o', ⟨rfl, rfl⟩, hσ⟩
  obtain rfl := Option.some.inj hσ
  clear hσ
  refine rn rfl ?_
  refine goal_cond rfl (fun h => ?_) (fun h => ?_) <;> (try simp only [gt_iff_lt, ge_iff_le, bne_iff_ne, ne_eq, bne_eq_false_iff_eq, beq_iff_eq, beq_eq_false_iff_ne, Bool.not_eq_true', Bool.not_eq_false', decide_eq_true_eq, decide_eq_false_iff_not, List.length_map] at h)
  · refine rn rfl (fin_is [] rfl ⟨?_, rfl⟩)
    simp [h]
  · refine rn rfl ?_
    refine goal_step (step_call [] rfl rfl rfl rfl rfl rfl (find_ct s n (by omega))) ?_
    rintro σ2 ⟨r, o', ⟨rfl, rfl⟩, hσ⟩
    obtain rfl := Option.some.inj hσ
    clear hσ
    refine rn rfl ?_
    refine rn rfl (fin_is [] rfl ⟨?_, rfl⟩)
    simp [h]

theorem nameIn_ct (bs : Str) (k : Int) (hb : bs.length ≤ 2000) (hk : 0 ≤ k) (hk' : k ≤ 1073700000) :
    ACalls pk 79 [.one (.op 0 0 0)] [oR bs k] (fun r o => ∃ s n k', SmallS s ∧ n.length ≤ 7 ∧ k ≤ k' ∧ k' ≤ k + 120 ∧ r = .tup [.agg (eG s), .one (.str n)] ∧ o = [oR bs k']) := by
  refine acalls_of_body Tryz.func79 rfl (by kernel_rfl) rfl ?_
  refine rn rfl ?_
  refine goal_step (step_callE [0] rfl rfl rfl rfl rfl rfl rfl (someSignature_ct bs k hb hk (by omega))) ?_
  rintro σ2 ⟨r, o', ⟨s, k1, hs, hk1, hk2, rfl, rfl⟩, hσ⟩
  obtain rfl := Option.some.inj hσ
  clear hσ
  have hsl := hs.len
  refine rn rfl ?_
  refine goal_guard rfl rfl rfl (fun h1 => ?_) (fun h1 => ?_) <;> (try simp only [gt_iff_lt, ge_iff_le, bne_iff_ne, ne_eq, bne_eq_false_iff_eq, beq_iff_eq, beq_eq_false_iff_ne, Bool.not_eq_true', Bool.not_eq_false', decide_eq_true_eq, decide_eq_false_iff_not, List.length_map] at h1)
  · refine rn rfl ?_
    refine goal_step (step_callE [0] rfl rfl rfl rfl rfl rfl (rfl) (pick_ct bs k1 5 hb (by omega) (by omega) (by omega))) ?_
    rintro σ2 ⟨r, o', ⟨⟨z, rfl, _, _⟩, rfl⟩, hσ⟩
    obtain rfl := Option.some.inj hσ
    clear hσ
    refine rn rfl ?_
    refine goal_cond rfl (fun h2 => ?_) (fun h2 => ?_) <;> (try simp only [gt_iff_lt, ge_iff_le, bne_iff_ne, ne_eq, bne_eq_false_iff_eq, beq_iff_eq, beq_eq_false_iff_ne, Bool.not_eq_true', Bool.not_eq_false', decide_eq_true_eq, decide_eq_false_iff_not, List.length_map] at h2)
    · refine rn rfl ?_
      refine goal_draw' [2] 13 rfl ?_
      refine drn [0, 1, 2, 3, 4, 5, 6] (by kernel_rfl) (by kernel_rfl) rfl rfl ?_
      refine AH_one (i := 7) (by kernel_rfl) (step_callE [0] rfl rfl rfl rfl rfl rfl (rfl) (pick_ct bs (k1 + 1) (s.map eQ).length hb (by omega) (by omega) (by simp; omega))) (by simp) ?_
      rintro σ2 ⟨r, o', ⟨⟨y, rfl, hy, _⟩, rfl⟩, hσ⟩
      obtain rfl := Option.some.inj hσ
      clear hσ
      have hy' := hy (by simp; omega)
      simp only [List.length_map] at hy'
      obtain ⟨p, hp⟩ := at_some (xs := s) (i := y.toNat) (by omega)
      refine AH_did 8 rfl (by kernel_rfl) (by kernel_rfl) (by kernel_rfl) rfl rfl (dA_index (eQ p) rfl rfl rfl rfl rfl rfl rfl (by omega) (by simp; omega) (map_at hp) rfl) ?_
      refine drn [9, 10] (by kernel_rfl) (by kernel_rfl) rfl rfl ?_
      refine AH_oneDid 11 rfl (by kernel_rfl) rfl (dA_step rfl) (mdOk rfl) ?_
      refine drn [12] (by kernel_rfl) (by kernel_rfl) rfl rfl ?_
      refine AH_end (by kernel_rfl) ?_
      refine rn rfl ?_
      exact rn rfl (fin_is [] rfl ⟨s, p.name, k1 + 1 + 1, hs, hs.names p (List.mem_of_getElem? hp), by omega, by omega, rfl, rfl⟩)
    · refine rn rfl ?_
      refine goal_draw' [2] 5 rfl ?_
      refine drn [0, 1] (by kernel_rfl) (by kernel_rfl) rfl rfl ?_
      refine AH_one (i := 2) (by kernel_rfl) (step_callE [0] rfl rfl rfl rfl rfl rfl (rfl) (anyName_ct bs (k1 + 1) hb (by omega) (by omega))) (by simp) ?_
      rintro σ2 ⟨r, o', ⟨⟨n, hn, rfl⟩, rfl⟩, hσ⟩
      obtain rfl := Option.some.inj hσ
      clear hσ
      refine AH_oneDid 3 rfl (by kernel_rfl) rfl (dA_step rfl) (mdOk rfl) ?_
      refine drn [4] (by kernel_rfl) (by kernel_rfl) rfl rfl ?_
      refine AH_end (by kernel_rfl) ?_
      refine rn rfl ?_
      exact rn rfl (fin_is [] rfl ⟨s, n, k1 + 1 + 2, hs, hn, by omega, by omega, rfl, rfl⟩)
  · refine rn rfl ?_
    refine goal_draw' [2] 5 rfl ?_
    refine drn [0, 1] (by kernel_rfl) (by kernel_rfl) rfl rfl ?_
    refine AH_one (i := 2) (by kernel_rfl) (step_callE [0] rfl rfl rfl rfl rfl rfl (rfl) (anyName_ct bs k1 hb (by omega) (by omega))) (by simp) ?_
    rintro σ2 ⟨r, o', ⟨⟨n, hn, rfl⟩, rfl⟩, hσ⟩
    obtain rfl := Option.some.inj hσ
    clear hσ
    refine AH_oneDid 3 rfl (by kernel_rfl) rfl (dA_step rfl) (mdOk rfl) ?_
    refine drn [4] (by kernel_rfl) (by kernel_rfl) rfl rfl ?_
    refine AH_end (by kernel_rfl) ?_
    refine rn rfl ?_
    exact rn rfl (fin_is [] rfl ⟨s, n, k1 + 2, hs, hn, by omega, by omega, rfl, rfl⟩)

theorem drawAllowsAt_ct (bs : Str) : ACalls pk 31 [.one (.fs (bs.map rowB))] [] (fun r o => ∃ s n m, SmallS s ∧ -1 ≤ n ∧ n ≤ 9 ∧ m.length ≤ 7 ∧ r = .tup [.agg (eG s), .one (.int .i64 n), .one (.str m)] ∧ o = []) := by
  have hb : (bs.take 2000).length ≤ 2000 := by simp; omega
  refine acalls_of_body Tryz.func31 rfl (by kernel_rfl) rfl ?_
  refine rn rfl ?_
  refine goal_step (step_call [] rfl rfl rfl rfl rfl rfl (newReader_ct bs)) ?_
  rintro σ2 ⟨r, o', ⟨rfl, rfl⟩, hσ⟩
  obtain rfl := Option.some.inj hσ
  clear hσ
  refine rn rfl ?_
  refine goal_step (step_callE [1] rfl rfl rfl rfl rfl rfl rfl (nameIn_ct (bs.take 2000) 0 hb (by omega) (by omega))) ?_
  rintro σ2 ⟨r, o', ⟨s, m, k1, hs, hm, hk1, hk2, rfl, rfl⟩, hσ⟩
  obtain rfl := Option.some.inj hσ
  clear hσ
  refine rn rfl ?_
  refine goal_draw' [2] 8 rfl ?_
  refine drn [0, 1, 4] (by kernel_rfl) (by kernel_rfl) rfl rfl ?_
  refine AH_oneDid 2 rfl (by kernel_rfl) rfl (dA_step rfl) (mdOk rfl) ?_
  refine AH_one (i := 3) (by kernel_rfl) (step_callE [1] rfl rfl rfl rfl rfl rfl (rfl) (one_ct (bs.take 2000) k1 [0, 1, 2, 3, 4, 8, 9, -1] hb (by omega) (by omega) (by decide) (by decide))) (by simp) ?_
  rintro σ2 ⟨r, o', ⟨⟨v, hv, rfl⟩, rfl⟩, hσ⟩
  obtain rfl := Option.some.inj hσ
  clear hσ
  refine AH_oneDid 5 rfl (by kernel_rfl) rfl (dA_step rfl) (mdOk rfl) ?_
  refine drn [6, 7] (by kernel_rfl) (by kernel_rfl) rfl rfl ?_
  refine AH_end (by kernel_rfl) ?_
  refine rn rfl ?_
  have hv' : -1 ≤ v ∧ v ≤ 9 := by
    simp only [List.mem_cons, List.not_mem_nil, or_false] at hv
    omega
  exact rn rfl (fin_is [] rfl ⟨s, v, m, hs, hv'.1, hv'.2, hm, rfl, rfl⟩)

theorem MidF.lens {f : Flat} (h : MidF f 24 9) : LenF f := ⟨by have := h.places; omega, by have := h.named; omega, fun p hp => by have := h.names p hp; omega⟩

theorem fnAllowsAt_ct (bs : Str) (hl : bs.length ≤ 9223372036854775807) : ACalls pk 6 [.one (.fs (bs.map rowB))] [] (fun r o => r = .one (.bool true) ∧ o = []) := by
  refine acalls_of_body Tryz.func6 rfl (by kernel_rfl) rfl ?_
  refine rn rfl ?_
  refine goal_cond rfl (fun h => ?_) (fun h => ?_) <;> (try simp only [gt_iff_lt, ge_iff_le, bne_iff_ne, ne_eq, bne_eq_false_iff_eq, beq_iff_eq, beq_eq_false_iff_ne, Bool.not_eq_true', Bool.not_eq_false', decide_eq_true_eq, decide_eq_false_iff_not, List.length_map] at h)
  · exact rn rfl (fin_is [] rfl ⟨rfl, rfl⟩)
  · refine rn rfl ?_
    refine goal_step (step_call [] rfl rfl rfl rfl rfl rfl (drawAllowsAt_ct bs)) ?_
    rintro σ2 ⟨r, o', ⟨s, n, m, hs, hn1, hn2, hm, rfl, rfl⟩, hσ⟩
    obtain rfl := Option.some.inj hσ
    clear hσ
    have ls := hs.lens
    have hsl := hs.len
    have hI := iallowsAt_ct s n m ls (by omega)
    have hS := sallowsAt_ct s n m ls (by omega)
    have hD := ineedsAtD_ct s n ls
    have hFp := ifindParam_ct s m ls
    have hbad : goodC s n = false → AllowsF s n m = false := fun h0 => by unfold AllowsF; rw [h0]; rfl
    have hnil : m = [] → AllowsF s n m = false := fun h0 => by unfold AllowsF; subst h0; simp [okName, inR]
    have hgood : ∀ k : Nat, n = k → k ≤ 8 → takesC s k = true → OkS s → AllowsF s n m = ((putNameF (flatX ⟨k, sortS (needNs s k)⟩) m 0).2 && (BindQ s (putNameF (flatX ⟨k, sortS (needNs s k)⟩) m 0).1).2) := fun k hk h8 ht ho => by
      rw [hk]; exact allows_law ho h8 ht m
    rw [needsF_snd] at hD
    generalize AllowsF s n m = b at *
    refine rn rfl ?_
    refine goal_step (step_call [] rfl rfl rfl rfl rfl rfl (hI)) ?_
    rintro σ2 ⟨r, o', ⟨rfl, rfl⟩, hσ⟩
    obtain rfl := Option.some.inj hσ
    clear hσ
    refine rn rfl ?_
    refine rn rfl ?_
    refine goal_step (step_call [] rfl rfl rfl rfl rfl rfl (hS)) ?_
    rintro σ2 ⟨r, o', ⟨rfl, rfl⟩, hσ⟩
    obtain rfl := Option.some.inj hσ
    clear hσ
    refine rn rfl ?_
    refine goal_guard rfl rfl rfl (fun h1 => by simp at h1) (fun _ => ?_)
    refine rn rfl ?_
    refine goal_step (step_call [] rfl rfl rfl rfl rfl rfl (ivalidSig_ct s (by omega) (fun p hp => by have := hs.names p hp; omega))) ?_
    rintro σ2 ⟨r, o', ⟨rfl, rfl⟩, hσ⟩
    obtain rfl := Option.some.inj hσ
    clear hσ
    refine rn rfl ?_
    refine goal_cond rfl (fun h1 => ?_) (fun h1 => ?_) <;> (try simp only [gt_iff_lt, ge_iff_le, bne_iff_ne, ne_eq, bne_eq_false_iff_eq, beq_iff_eq, beq_eq_false_iff_ne, Bool.not_eq_true', Bool.not_eq_false', decide_eq_true_eq, decide_eq_false_iff_not, List.length_map] at h1)
    · refine rn rfl ?_
      refine goal_step (step_call [] rfl rfl rfl rfl rfl rfl (hS)) ?_
      rintro σ2 ⟨r, o', ⟨rfl, rfl⟩, hσ⟩
      obtain rfl := Option.some.inj hσ
      clear hσ
      refine rn rfl ?_
      refine rn rfl (fin_is [] rfl ⟨?_, rfl⟩)
      simp
    refine rn rfl ?_
    refine goal_step (step_call [] rfl rfl rfl rfl rfl rfl (hD)) ?_
    rintro σ2 ⟨r, o', ⟨rfl, rfl⟩, hσ⟩
    obtain rfl := Option.some.inj hσ
    clear hσ
    refine rn rfl ?_
    refine goal_guard rfl rfl rfl (fun h2 => ?_) (fun h2 => ?_) <;> (try simp only [gt_iff_lt, ge_iff_le, bne_iff_ne, ne_eq, bne_eq_false_iff_eq, beq_iff_eq, beq_eq_false_iff_ne, Bool.not_eq_true', Bool.not_eq_false', decide_eq_true_eq, decide_eq_false_iff_not, List.length_map] at h2)
    · have hb := hbad h2
      subst hb
      exact rn rfl (fin_is [] rfl ⟨rfl, rfl⟩)
    obtain ⟨hok, k, rfl, hk, ht, hne⟩ := goodC_ok h2
    rw [hne]
    have hlaw := hgood k rfl hk ht hok
    refine rn rfl ?_
    refine goal_step (step_call [] rfl rfl rfl rfl rfl rfl (hFp)) ?_
    rintro σ2 ⟨r, o', ⟨rfl, rfl⟩, hσ⟩
    obtain rfl := Option.some.inj hσ
    clear hσ
    refine rn rfl ?_
    generalize (if okSig s then idxI (qIs m) s 0 else -1) = fp
    have hlx := needs_lenX hok k k
    have hfl := iflatOf_ct ⟨k, sortS (needNs s k)⟩ hlx
    have hflat : flatXF ⟨k, sortS (needNs s k)⟩ = flatX ⟨k, sortS (needNs s k)⟩ := by unfold flatXF; rw [if_pos (needs_okX hok hk)]
    have lfl := flatXF_len hlx
    rw [hflat] at hfl lfl
    have hpn := putName_d (flatX ⟨k, sortS (needNs s k)⟩) m 0 (by have := lfl.places; omega) (by have := lfl.named; omega) lfl.names (by omega)
    have hgl : LenF (putNameF (flatX ⟨k, sortS (needNs s k)⟩) m 0).1 := by
      unfold putNameF checkF
      split
      · rename_i h0
        simp only [Bool.and_eq_true] at h0
        exact (okFlat_iff.1 h0.2).len
      · exact ⟨by simp [zF], by simp [zF], by simp [zF]⟩
    have hac := iaccepts_ct s (putNameF (flatX ⟨k, sortS (needNs s k)⟩) m 0).1 ls hgl
    generalize sortS (needNs s k) = S at *
    generalize flatX ⟨k, S⟩ = F at *
    generalize (putNameF F m 0).1 = G at *
    generalize (putNameF F m 0).2 = good at *
    generalize (BindQ s G).2 = acc at *
    refine goal_guard rfl rfl rfl (fun h3 => ?_) (fun h3 => ?_) <;> (try simp only [gt_iff_lt, ge_iff_le, bne_iff_ne, ne_eq, bne_eq_false_iff_eq, beq_iff_eq, beq_eq_false_iff_ne, Bool.not_eq_true', Bool.not_eq_false', decide_eq_true_eq, decide_eq_false_iff_not, List.length_map] at h3)
    · refine rn rfl ?_
      refine goal_cond rfl (fun h4 => ?_) (fun h4 => ?_)
      · have h0 : m = [] := by simpa using h4
        have hb := hnil h0
        rw [hb]
        exact rn rfl (fin_is [] rfl ⟨rfl, rfl⟩)
      · refine rn rfl ?_
        refine goal_step (step_call [] rfl rfl rfl rfl rfl rfl (hfl)) ?_
        rintro σ2 ⟨r, o', ⟨rfl, rfl⟩, hσ⟩
        obtain rfl := Option.some.inj hσ
        clear hσ
        refine rn rfl ?_
        refine rn rfl ?_
        refine goal_step (step_call [] rfl rfl rfl rfl rfl rfl (hpn)) ?_
        rintro σ2 ⟨r, o', ⟨rfl, rfl⟩, hσ⟩
        obtain rfl := Option.some.inj hσ
        clear hσ
        refine rn rfl ?_
        refine goal_guard rfl rfl rfl (fun h5 => ?_) (fun h5 => ?_) <;> (try simp only [gt_iff_lt, ge_iff_le, bne_iff_ne, ne_eq, bne_eq_false_iff_eq, beq_iff_eq, beq_eq_false_iff_ne, Bool.not_eq_true', Bool.not_eq_false', decide_eq_true_eq, decide_eq_false_iff_not, List.length_map] at h5)
        · refine rn rfl ?_
          refine goal_step (step_call [] rfl rfl rfl rfl rfl rfl (hac)) ?_
          rintro σ2 ⟨r, o', ⟨rfl, rfl⟩, hσ⟩
          obtain rfl := Option.some.inj hσ
          clear hσ
          refine rn rfl ?_
          refine rn rfl (fin_is [] rfl ⟨?_, rfl⟩)
          rw [hlaw, h5]; simp
        · refine rn rfl (fin_is [] rfl ⟨?_, rfl⟩)
          rw [hlaw, h5]; simp
    · refine rn rfl ?_
      refine goal_step (step_call [] rfl rfl rfl rfl rfl rfl (hfl)) ?_
      rintro σ2 ⟨r, o', ⟨rfl, rfl⟩, hσ⟩
      obtain rfl := Option.some.inj hσ
      clear hσ
      refine rn rfl ?_
      refine rn rfl ?_
      refine goal_step (step_call [] rfl rfl rfl rfl rfl rfl (hpn)) ?_
      rintro σ2 ⟨r, o', ⟨rfl, rfl⟩, hσ⟩
      obtain rfl := Option.some.inj hσ
      clear hσ
      refine rn rfl ?_
      refine goal_guard rfl rfl rfl (fun h5 => ?_) (fun h5 => ?_) <;> (try simp only [gt_iff_lt, ge_iff_le, bne_iff_ne, ne_eq, bne_eq_false_iff_eq, beq_iff_eq, beq_eq_false_iff_ne, Bool.not_eq_true', Bool.not_eq_false', decide_eq_true_eq, decide_eq_false_iff_not, List.length_map] at h5)
      · refine rn rfl ?_
        refine goal_step (step_call [] rfl rfl rfl rfl rfl rfl (hac)) ?_
        rintro σ2 ⟨r, o', ⟨rfl, rfl⟩, hσ⟩
        obtain rfl := Option.some.inj hσ
        clear hσ
        refine rn rfl ?_
        refine rn rfl (fin_is [] rfl ⟨?_, rfl⟩)
        rw [hlaw, h5]; simp
      · refine rn rfl (fin_is [] rfl ⟨?_, rfl⟩)
        rw [hlaw, h5]; simp

end Go.Proofs.YtekdhmddibfidaaGreat
