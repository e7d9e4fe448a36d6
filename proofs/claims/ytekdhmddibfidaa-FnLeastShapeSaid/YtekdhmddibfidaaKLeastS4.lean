/- Part 4 of the proof: an abstract machine over the model; contracts of the functions that the law reaches. -/
import Derived.Test.YtekdhmddibfidaaKLeastS3
set_option linter.unusedVariables false
set_option linter.unusedSimpArgs false
namespace Go.Proofs.Ytekdhmddibfidaa
open Go
set_option maxRecDepth 100000
set_option maxHeartbeats 1000000

def allowQ (s : Sig) (n : Nat) (m : Str) : Prop := goesQ s m ∧ ∀ (i : Nat) (p : Param), s[i]? = some p → namedQ p = true → p.name = m → p.kind = 1 → n ≤ i

theorem wrong_allow {s : Sig} (hs : OkS s) {pl : List Int} {q : Pair} : wrongQ s pl q = none ↔ allowQ s pl.length q.name := by
  rw [wrong_iff2 hs]
  unfold allowQ
  refine and_congr_right fun _ => ?_
  constructor
  · intro h i p hp hn he hk
    have := h i p hp hn he
    unfold byPl at this
    rw [placed_kind.2 (.inr hk)] at this
    simpa using this
  · intro h i p hp hn he
    unfold byPl
    cases hpl : placedQ p with
    | false => rfl
    | true =>
      have := h i p hp hn he (by rw [placed_kind] at hpl; rw [named_kind] at hn; omega)
      simp; omega

theorem need_mem {s : Sig} {n : Nat} {m : Str} : m ∈ needNs s n ↔ ∃ (i : Nat) (p : Param), s[i]? = some p ∧ openQ p i n = true ∧ p.hasD = false ∧ p.name = m := by
  unfold needNs nedQ
  simp only [List.mem_map, List.mem_filter, Bool.and_eq_true, Bool.not_eq_true', Prod.exists]
  constructor
  · rintro ⟨p, i, ⟨h1, h2, h3⟩, h4⟩
    exact ⟨i, p, List.mem_zipIdx_iff_getElem?.1 h1, h2, h3, h4⟩
  · rintro ⟨i, p, h1, h2, h3, h4⟩
    exact ⟨p, i, ⟨List.mem_zipIdx_iff_getElem?.2 h1, h2, h3⟩, h4⟩

theorem open_kind {p : Param} {i n : Nat} : openQ p i n = true ↔ p.kind = 3 ∨ (p.kind = 1 ∧ n ≤ i) := by
  simp [openQ]

theorem takesC_iff {s : Sig} {n : Nat} : takesC s n = true ↔ (placesQ s < n → s.any (kIs 2) = true) ∧ ∀ (j : Nat) (p : Param), s[j]? = some p → n ≤ j → bareQ p = false := by
  unfold takesC
  rw [Bool.and_eq_true, takes_iff]
  refine and_congr_left fun _ => ?_
  simp only [Bool.not_eq_true', Bool.and_eq_false_iff, decide_eq_false_iff_not, Bool.not_eq_false']
  constructor
  · rintro (h | h) h1
    · exact absurd h1 h
    · exact h
  · intro h
    by_cases h1 : placesQ s < n
    · exact .inr (h h1)
    · exact .inl h1

theorem acc_law {s : Sig} {f : Flat} (hs : OkS s) (hf : OkF f) : accQ s f = true ↔
    takesC s f.places.length = true ∧ (∀ m ∈ needNs s f.places.length, m ∈ namesOf f.named) ∧ ∀ m ∈ namesOf f.named, allowQ s f.places.length m := by
  rw [acc_iff hs hf, lack_iff, takesC_iff]
  have hw : (∀ q ∈ f.named, wrongQ s f.places q = none) ↔ ∀ m ∈ namesOf f.named, allowQ s f.places.length m := by
    constructor
    · intro h m hm
      obtain ⟨q, hq, rfl⟩ := List.mem_map.1 hm
      exact (wrong_allow hs).1 (h q hq)
    · intro h q hq
      exact (wrong_allow hs).2 (h _ (List.mem_map_of_mem hq))
  rw [hw]
  constructor
  · rintro ⟨h1, h2, h3⟩
    refine ⟨⟨h1, fun j p hp hj => ?_⟩, fun m hm => ?_, h2⟩
    · unfold bareQ
      cases hk : p.kind == 0 with
      | false => rfl
      | true =>
        simp only [beq_iff_eq] at hk
        rcases h3 j p hp (single_kind.2 (.inl hk)) with h | h | ⟨h, _⟩
        · simp [h]
        · simp only [byPl, Bool.and_eq_true, decide_eq_true_eq] at h; omega
        · rw [named_kind] at h; omega
    · obtain ⟨i, p, hp, ho, hd, rfl⟩ := need_mem.1 hm
      rw [open_kind] at ho
      rcases h3 i p hp (single_kind.2 (by omega)) with h | h | ⟨_, h⟩
      · rw [hd] at h; cases h
      · simp only [byPl, Bool.and_eq_true, decide_eq_true_eq, placed_kind] at h; omega
      · exact any_names.1 h
  · rintro ⟨⟨h1, h3⟩, h4, h2⟩
    refine ⟨h1, h2, fun i p hp hsg => ?_⟩
    cases hd : p.hasD with
    | true => exact .inl rfl
    | false =>
      right
      rw [single_kind] at hsg
      by_cases hi : placedQ p = true ∧ i < f.places.length
      · left; simp [byPl, hi]
      · right
        have hne : p.kind ≠ 0 := fun h0 => by
          have := h3 i p hp (Nat.le_of_not_lt fun h5 => hi ⟨placed_kind.2 (.inl h0), h5⟩)
          simp [bareQ, h0, hd] at this
        refine ⟨named_kind.2 (by omega), any_names.2 (h4 _ (need_mem.2 ⟨i, p, hp, open_kind.2 ?_, hd, rfl⟩))⟩
        rcases hsg with h | h | h
        · exact absurd h hne
        · exact .inr ⟨h, Nat.le_of_not_lt fun h5 => hi ⟨placed_kind.2 (.inr h), h5⟩⟩
        · exact .inl h

theorem need_allow {s : Sig} (hs : OkS s) {n : Nat} {m : Str} (h : m ∈ needNs s n) : allowQ s n m := by
  obtain ⟨i, p, hp, ho, hd, rfl⟩ := need_mem.1 h
  rw [open_kind] at ho
  refine ⟨.inl ⟨i, p, hp, named_kind.2 (by omega), rfl⟩, fun j q hq hn he hk => ?_⟩
  obtain rfl := name_inj hs hq hp he
  rw [hp] at hq; cases hq
  omega

theorem need_skip {n i : Nat} {p : Param} (h : singleQ p = false ∨ p.hasD = true ∨ (placedQ p = true ∧ i < n)) : nedQ n (p, i) = false := by
  unfold nedQ openQ
  simp only
  rcases h with h | h | ⟨h, hi⟩
  · have : p.kind ≠ 1 ∧ p.kind ≠ 3 := by
      constructor <;> intro h0 <;> simp [singleQ, placedQ, h0] at h
    simp [this.1, this.2]
  · simp [h]
  · rw [placed_kind] at h
    have : ¬ n ≤ i := by omega
    have h3 : p.kind ≠ 3 := by omega
    simp [this, h3]

theorem need_take {n i : Nat} {p : Param} (hs : singleQ p = true) (hd : p.hasD = false) (hp : placedQ p = false ∨ n ≤ i) (hk : ¬ p.kind = 0) : nedQ n (p, i) = true := by
  unfold nedQ openQ
  simp only [hd, Bool.not_false, Bool.and_true]
  rw [single_kind] at hs
  rcases hs with h | h | h
  · exact absurd h hk
  · have : n ≤ i := by
      rcases hp with hp | hp
      · simp [placedQ, h] at hp
      · exact hp
    simp [h, this]
  · simp [h]

def needsF (s : Sig) (n : Int) : List Str × Bool := if inR n 0 8 && takesC s n.toNat then (sortS (needNs s n.toNat), true) else ([], false)

theorem ineeds_ct (s : Sig) (n : Int) (hs : OkS s) : ACalls pk 68 [.agg (eG s), .one (.int .i64 n)] [] (fun r o => r = .tup [.one (.os 0 0 (needsF s n).1.length (needsF s n).1.length), .one (.bool (needsF s n).2)] ∧ o = [ownS (needsF s n).1]) := by
  have hl := hs.len
  have hP := placesQ_le s
  refine acalls_of_body Try.func68 rfl (by kernel_rfl) rfl ?_
  refine rt 1 rfl ?_
  refine goal_cutR (fun σ' => (inR n 0 8 = true ∧ (decide (placesQ s < n.toNat) && !s.any (kIs 2)) = false) ∧ σ' = ⟨[(2, .one (.op 0 0 0)), (1, .one (.int .i64 n))], [some ⟨1, [eG s], false, false, true⟩], []⟩) ?_ ?_
  · refine rn rfl ?_
    refine goal_step (step_call [] rfl rfl rfl rfl rfl rfl (iin_ct n 0 8)) ?_
    rintro σ2 ⟨r, o', ⟨rfl, rfl⟩, hσ⟩
    obtain rfl := Option.some.inj hσ
    clear hσ
    refine rn rfl ?_
    refine goal_guard rfl rfl rfl (fun h1 => ?_) (fun h1 => ?_) <;> (try simp only [gt_iff_lt, ge_iff_le, bne_iff_ne, ne_eq, bne_eq_false_iff_eq, beq_iff_eq, beq_eq_false_iff_ne, Bool.not_eq_true', Bool.not_eq_false', decide_eq_true_eq, decide_eq_false_iff_not, List.length_map] at h1)
    · have hz : needsF s n = ([], false) := by simp [needsF, h1]
      rw [hz]
      refine rn rfl ?_
      refine cut_ret ?_
      exact fin_weak (Weak.adopt 4 0 1) (fin_is [1] rfl ⟨rfl, rfl⟩)
    · have hr : 0 ≤ n ∧ n ≤ 8 := by simp [inR] at h1; omega
      refine rn rfl ?_
      refine goal_step (step_call [] rfl rfl rfl rfl rfl rfl (iplaces_ct s (by omega))) ?_
      rintro σ2 ⟨r, o', ⟨rfl, rfl⟩, hσ⟩
      obtain rfl := Option.some.inj hσ
      clear hσ
      refine rn rfl ?_
      refine goal_guard rfl rfl rfl (fun h2 => ?_) (fun h2 => ?_) <;> (try simp only [gt_iff_lt, ge_iff_le, bne_iff_ne, ne_eq, bne_eq_false_iff_eq, beq_iff_eq, beq_eq_false_iff_ne, Bool.not_eq_true', Bool.not_eq_false', decide_eq_true_eq, decide_eq_false_iff_not, List.length_map] at h2)
      · refine rn rfl ?_
        refine goal_step (step_call [] rfl rfl rfl rfl rfl rfl (has_ct s 2 (by omega))) ?_
        rintro σ2 ⟨r, o', ⟨rfl, rfl⟩, hσ⟩
        obtain rfl := Option.some.inj hσ
        clear hσ
        refine rn rfl ?_
        refine goal_cond rfl (fun h3 => ?_) (fun h3 => ?_) <;> (try simp only [gt_iff_lt, ge_iff_le, bne_iff_ne, ne_eq, bne_eq_false_iff_eq, beq_iff_eq, beq_eq_false_iff_ne, Bool.not_eq_true', Bool.not_eq_false', decide_eq_true_eq, decide_eq_false_iff_not, List.length_map] at h3)
        · have hz : needsF s n = ([], false) := by
            have : placesQ s < n.toNat := by omega
            simp [needsF, takesC, h3, this]
          rw [hz]
          refine rn rfl ?_
          refine cut_ret ?_
          exact fin_weak (Weak.adopt 4 0 1) (fin_is [1] rfl ⟨rfl, rfl⟩)
        · refine rn rfl ?_
          exact cut_nrm [2, 1] [0] rfl ⟨⟨by simpa using h1, by simp [h3]⟩, rfl⟩
      · have hno : ¬ placesQ s < n.toNat := by omega
        refine rn rfl ?_
        exact cut_nrm [2, 1] [0] rfl ⟨⟨by simpa using h1, by simp [hno]⟩, rfl⟩
  rintro _ ⟨⟨hin, hpre⟩, rfl⟩
  have hr : 0 ≤ n ∧ n ≤ 8 := by simp [inR] at hin; omega
  obtain ⟨k, rfl⟩ : ∃ k : Nat, n = k := ⟨n.toNat, by omega⟩
  rw [Int.toNat_natCast] at hpre
  have hnF : needsF s k = if (s.drop k).all (fun p => !bareQ p) then (sortS (needNs s k), true) else ([], false) := by
    simp only [needsF, hin, takesC, Int.toNat_natCast, hpre, Bool.true_and, Bool.not_false]
  rw [hnF]
  refine rn rfl ?_
  refine goal_weakCod (Weak.adopt 6 0 1) ?_
  refine goal_loop_keep (fun m σ => ∃ (q L pc : Int) (i l : Nat) (acc : List Str), q = i ∧ L = s.length ∧ pc = ((min i (placesQ s) : Nat) : Int) ∧ i ≤ s.length ∧ m = s.length - i ∧ l = acc.length ∧ acc = needNs (s.take i) k ∧
      (∀ j p, s[j]? = some p → k ≤ j → j < i → bareQ p = false) ∧
      σ = ⟨[(27, .one (.int .i64 q)), (26, .one (.int .i64 L)), (25, .one (.fs (s.map eQ))), (7, .one (.int .i64 pc)), (6, .one (.os 0 0 l l)), (1, .one (.int .i64 k))], [ownS acc], []⟩) s.length [27, 26, 25, 7, 6, 1] [1] rfl
    ⟨_, _, _, 0, 0, [], rfl, ?_, ?_, by omega, by omega, rfl, rfl, fun j p _ h1 h2 => by omega, rfl⟩ ?_
  · simp
  · simp
  rintro m σ ⟨q, L, pc, i, l, acc, rfl, rfl, rfl, hi, rfl, rfl, hacc, hall, rfl⟩
  have hal := needNs_len (s.take i) k
  rw [← hacc, List.length_take] at hal
  refine rn rfl ?_
  refine goal_cond rfl (fun h => ?_) (fun h => ?_) <;> (try simp only [gt_iff_lt, ge_iff_le, bne_iff_ne, ne_eq, bne_eq_false_iff_eq, beq_iff_eq, beq_eq_false_iff_ne, Bool.not_eq_true', Bool.not_eq_false', decide_eq_true_eq, decide_eq_false_iff_not, List.length_map] at h)
  · obtain ⟨p, hp⟩ := at_some (xs := s) (i := i) (by omega)
    have hst := needNs_succ (n := k) hp
    rw [← hacc] at hst
    have hpi := hs.placed_iff hp
    have hskip : nedQ k (p, i) = false → needNs (s.take (i + 1)) k = acc := fun h0 => by rw [hst, h0]; simp
    have hallS : bareQ p = false ∨ i < k → ∀ j r, s[j]? = some r → k ≤ j → j < i + 1 → bareQ r = false := fun h0 j r hr hj hji => by
      by_cases hij : j = i
      · subst hij
        rw [hp] at hr; cases hr
        rcases h0 with h0 | h0
        · exact h0
        · omega
      · exact hall j r hr hj (by omega)
    refine rn rfl ?_
    refine goal_did rfl rfl (dA_index (eQ p) rfl rfl rfl rfl rfl rfl rfl (by omega) (by (try simp); omega) (map_at (by simpa using hp)) rfl) ?_
    refine rt 8 rfl ?_
    refine goal_cutR (fun σ' => σ' = ⟨[(27, .one (.int .i64 i)), (26, .one (.int .i64 s.length)), (25, .one (.fs (s.map eQ))), (9, .one (.op 1 0 0)), (7, .one (.int .i64 ((min (i + 1) (placesQ s) : Nat) : Int))), (6, .one (.os 0 0 acc.length acc.length)), (1, .one (.int .i64 k))], [ownS acc, some ⟨4, [eQ p], false, false, true⟩], []⟩) ?_ ?_
    · refine rn rfl ?_
      refine goal_step (step_call [] rfl rfl rfl rfl rfl rfl (iplaced_ct p)) ?_
      rintro σ2 ⟨r, o', ⟨rfl, rfl⟩, hσ⟩
      obtain rfl := Option.some.inj hσ
      clear hσ
      refine rn rfl ?_
      refine goal_cond rfl (fun h1 => ?_) (fun h1 => ?_) <;> (try simp only [gt_iff_lt, ge_iff_le, bne_iff_ne, ne_eq, bne_eq_false_iff_eq, beq_iff_eq, beq_eq_false_iff_ne, Bool.not_eq_true', Bool.not_eq_false', decide_eq_true_eq, decide_eq_false_iff_not, List.length_map] at h1)
      · have hip := hpi.1 h1
        have e : IntKind.i64.wrap (((min i (placesQ s) : Nat) : Int) + 1) = ((min (i + 1) (placesQ s) : Nat) : Int) := by rw [wrap64 (by omega) (by omega)]; omega
        rw [← e]
        refine rn rfl ?_
        exact cut_nrm [27, 26, 25, 9, 7, 6, 1] [0, 1] rfl rfl
      · have hip : ¬ i < placesQ s := fun h0 => by rw [hpi.2 h0] at h1; cases h1
        have e : min (i + 1) (placesQ s) = min i (placesQ s) := by omega
        rw [e]
        refine rn rfl ?_
        exact cut_nrm [27, 26, 25, 9, 7, 6, 1] [0, 1] rfl rfl
    rintro _ rfl
    refine rt 10 rfl ?_
    refine goal_cutR (fun σ' => (singleQ p = true ∧ p.hasD = false ∧ (placedQ p = false ∨ k ≤ i)) ∧ σ' = ⟨[(27, .one (.int .i64 i)), (26, .one (.int .i64 s.length)), (25, .one (.fs (s.map eQ))), (9, .one (.op 1 0 0)), (7, .one (.int .i64 ((min (i + 1) (placesQ s) : Nat) : Int))), (6, .one (.os 0 0 acc.length acc.length)), (1, .one (.int .i64 k))], [ownS acc, some ⟨4, [eQ p], false, false, true⟩], []⟩) ?_ ?_
    · have next : ∀ h0 : singleQ p = false ∨ p.hasD = true ∨ (placedQ p = true ∧ i < k), needNs (s.take (i + 1)) k = acc ∧ ∀ j r, s[j]? = some r → k ≤ j → j < i + 1 → bareQ r = false := fun h0 =>
        ⟨hskip (need_skip h0), hallS (by
          rcases h0 with h0 | h0 | ⟨_, h0⟩
          · left
            have : p.kind ≠ 0 := fun h2 => by simp [singleQ, placedQ, h2] at h0
            simp [bareQ, this]
          · left; simp [bareQ, h0]
          · right; exact h0)⟩
      refine rn rfl ?_
      refine goal_step (step_call [] rfl rfl rfl rfl rfl rfl (isingle_ct p)) ?_
      rintro σ2 ⟨r, o', ⟨rfl, rfl⟩, hσ⟩
      obtain rfl := Option.some.inj hσ
      clear hσ
      refine rn rfl ?_
      refine goal_guard rfl rfl rfl (fun h1 => ?_) (fun h1 => ?_) <;> (try simp only [gt_iff_lt, ge_iff_le, bne_iff_ne, ne_eq, bne_eq_false_iff_eq, beq_iff_eq, beq_eq_false_iff_ne, Bool.not_eq_true', Bool.not_eq_false', decide_eq_true_eq, decide_eq_false_iff_not, List.length_map] at h1)
      · obtain ⟨n1, n2⟩ := next (.inl h1)
        refine rn rfl ?_
        refine cut_ext ?_
        refine rn rfl ?_
        refine round_keep (s.length - (i + 1)) [27, 26, 25, 7, 6, 1] [0] (by omega) rfl ⟨_, _, _, i + 1, acc.length, acc, wrap64 (by omega) (by omega), rfl, rfl, by omega, rfl, rfl, n1.symm, n2, rfl⟩
      · refine rn rfl ?_
        refine goal_guard rfl rfl rfl (fun h2 => ?_) (fun h2 => ?_) <;> (try simp only [gt_iff_lt, ge_iff_le, bne_iff_ne, ne_eq, bne_eq_false_iff_eq, beq_iff_eq, beq_eq_false_iff_ne, Bool.not_eq_true', Bool.not_eq_false', decide_eq_true_eq, decide_eq_false_iff_not, List.length_map] at h2)
        · obtain ⟨n1, n2⟩ := next (.inr (.inl h2))
          refine rn rfl ?_
          refine cut_ext ?_
          refine rn rfl ?_
          refine round_keep (s.length - (i + 1)) [27, 26, 25, 7, 6, 1] [0] (by omega) rfl ⟨_, _, _, i + 1, acc.length, acc, wrap64 (by omega) (by omega), rfl, rfl, by omega, rfl, rfl, n1.symm, n2, rfl⟩
        · refine rn rfl ?_
          refine goal_step (step_call [] rfl rfl rfl rfl rfl rfl (iplaced_ct p)) ?_
          rintro σ2 ⟨r, o', ⟨rfl, rfl⟩, hσ⟩
          obtain rfl := Option.some.inj hσ
          clear hσ
          refine rn rfl ?_
          refine goal_guard rfl rfl rfl (fun h3 => ?_) (fun h3 => ?_) <;> (try simp only [gt_iff_lt, ge_iff_le, bne_iff_ne, ne_eq, bne_eq_false_iff_eq, beq_iff_eq, beq_eq_false_iff_ne, Bool.not_eq_true', Bool.not_eq_false', decide_eq_true_eq, decide_eq_false_iff_not, List.length_map] at h3)
          · have hip := hpi.1 h3
            refine rn rfl ?_
            refine goal_cond rfl (fun h4 => ?_) (fun h4 => ?_) <;> (try simp only [gt_iff_lt, ge_iff_le, bne_iff_ne, ne_eq, bne_eq_false_iff_eq, beq_iff_eq, beq_eq_false_iff_ne, Bool.not_eq_true', Bool.not_eq_false', decide_eq_true_eq, decide_eq_false_iff_not, List.length_map] at h4)
            · obtain ⟨n1, n2⟩ := next (.inr (.inr ⟨h3, by omega⟩))
              refine rn rfl ?_
              refine cut_ext ?_
              refine rn rfl ?_
              refine round_keep (s.length - (i + 1)) [27, 26, 25, 7, 6, 1] [0] (by omega) rfl ⟨_, _, _, i + 1, acc.length, acc, wrap64 (by omega) (by omega), rfl, rfl, by omega, rfl, rfl, n1.symm, n2, rfl⟩
            · refine rn rfl ?_
              exact cut_nrm [27, 26, 25, 9, 7, 6, 1] [0, 1] rfl ⟨⟨h1, h2, .inr (by omega)⟩, rfl⟩
          · refine rn rfl ?_
            exact cut_nrm [27, 26, 25, 9, 7, 6, 1] [0, 1] rfl ⟨⟨h1, h2, .inl h3⟩, rfl⟩
    rintro _ ⟨⟨g1, g2, g3⟩, rfl⟩
    refine rn rfl ?_
    refine goal_cond rfl (fun h5 => ?_) (fun h5 => ?_) <;> (try simp only [gt_iff_lt, ge_iff_le, bne_iff_ne, ne_eq, bne_eq_false_iff_eq, beq_iff_eq, beq_eq_false_iff_ne, Bool.not_eq_true', Bool.not_eq_false', decide_eq_true_eq, decide_eq_false_iff_not, List.length_map] at h5)
    · refine rn rfl (round_ret ?_)
      have hki : k ≤ i := by
        rcases g3 with g3 | g3
        · simp [placedQ, h5] at g3
        · exact g3
      have hno : (s.drop k).all (fun p => !bareQ p) = false := by
        cases hb : (s.drop k).all (fun p => !bareQ p) with
        | false => rfl
        | true =>
          have := takes_iff.1 hb i p hp hki
          simp [bareQ, h5, g2] at this
      rw [hno]
      exact fin_weak (Weak.adopt 4 0 1) (fin_is [2] rfl ⟨rfl, rfl⟩)
    · have hne := need_take g1 g2 g3 h5
      refine rn rfl ?_
      refine goal_did rfl rfl (dA_append (old := (acc).map eS) (rows := ([p.name] : List Str).map eS) (((acc) ++ ([p.name] : List Str)).map eS) (acc.length + 1) true (Dst.own rfl rfl rfl rfl rfl (by first | (simp; done) | (simp; omega)) (whole (by first | (simp; done) | (simp; omega)))) (Src.os rfl rfl (Nat.le_refl 1) rfl) rfl rfl rfl rfl rfl rfl rfl rfl (rows_len eS_len _) (rows_len eS_len _) (by (try simp only [List.length_map, List.length_append, List.length_cons, List.length_nil, List.length_take, List.length_drop]); show _ * 16 ≤ _; omega) (by first | (simp; done) | (simp; omega)) (by simp) (by first | (simp; done) | (simp; omega)) (fun _ => noOwnR_map _ eS_noOwn _)) ?_
      refine rn rfl ?_
      refine round_keep (s.length - (i + 1)) [27, 26, 25, 7, 6, 1] [3] (by omega) rfl ⟨_, _, _, i + 1, acc.length + 1, acc ++ [p.name], wrap64 (by omega) (by omega), rfl, rfl, by omega, rfl, by simp, by rw [hst, hne]; rfl, hallS (.inl (by simp [bareQ, h5])), rfl⟩
  · refine rn rfl (round_ext ?_)
    have hfin : acc = needNs s k := by rw [hacc, show i = s.length by omega, List.take_length]
    have hnd : (needNs s k).Nodup := hs.nodup.sublist (needNs_sub s k)
    have hyes : (s.drop k).all (fun p => !bareQ p) = true := takes_iff.2 (fun j p hp hj => hall j p hp hj (by have := lt_of_some hp; omega))
    rw [hyes, ← hfin]
    rw [← hfin] at hnd
    refine rn rfl ?_
    refine goal_step (step_call [0] rfl rfl rfl rfl rfl rfl (sortSmallS_ct acc acc.length (by omega))) ?_
    rintro σ2 ⟨r, o', ⟨rfl, rfl⟩, hσ⟩
    obtain rfl := Option.some.inj hσ
    clear hσ
    refine rn rfl ?_
    refine rn rfl ?_
    refine goal_step (step_callE [0] rfl rfl rfl rfl rfl rfl (congrArg (fun x => [T.one (.os 0 0 x acc.length)]) (isortL_length ltS acc).symm) (clipS_ct (isortL ltS acc) acc.length (by rw [isortL_length]; exact Nat.le_refl _))) ?_
    rintro σ2 ⟨r, o', ⟨rfl, rfl⟩, hσ⟩
    obtain rfl := Option.some.inj hσ
    clear hσ
    refine rn rfl ?_
    rw [sortS_eq acc hnd]
    exact rn rfl (fin_is [0] rfl ⟨rfl, rfl⟩)

theorem ineedsAt_ct (s : Sig) (n : Int) (hl : LenS s) : ACalls pk 29 [.agg (eG s), .one (.int .i64 n)] [] (fun r o => r = .tup [.one (.os 0 0 (NeedsF s n).1.length (NeedsF s n).1.length), .one (.bool (NeedsF s n).2)] ∧ o = [ownS (NeedsF s n).1]) := by
  obtain ⟨s1, s2⟩ := hl
  refine acalls_of_body Try.func29 rfl (by kernel_rfl) rfl ?_
  refine rn rfl ?_
  refine goal_step (step_call [] rfl rfl rfl rfl rfl rfl (ivalidSig_ct s (by omega) s2)) ?_
  rintro σ2 ⟨r, o', ⟨rfl, rfl⟩, hσ⟩
  obtain rfl := Option.some.inj hσ
  clear hσ
  refine rn rfl ?_
  refine goal_cond rfl (fun h => ?_) (fun h => ?_) <;> (try simp only [gt_iff_lt, ge_iff_le, bne_iff_ne, ne_eq, bne_eq_false_iff_eq, beq_iff_eq, beq_eq_false_iff_ne, Bool.not_eq_true', Bool.not_eq_false', decide_eq_true_eq, decide_eq_false_iff_not, List.length_map] at h)
  · have hz : NeedsF s n = ([], false) := by simp [NeedsF, goodC, h]
    rw [hz]
    refine rn rfl ?_
    exact fin_weak (Weak.adopt 4 0 1) (fin_is [1] rfl ⟨rfl, rfl⟩)
  · have hz : NeedsF s n = needsF s n := by simp [NeedsF, needsF, goodC, h]
    rw [hz]
    refine rn rfl ?_
    refine goal_step (step_call [] rfl rfl rfl rfl rfl rfl (ineeds_ct s n (okSig_iff.1 h))) ?_
    rintro σ2 ⟨r, o', ⟨rfl, rfl⟩, hσ⟩
    obtain rfl := Option.some.inj hσ
    clear hσ
    refine rn rfl ?_
    exact rn rfl (fin_is [1] rfl ⟨rfl, rfl⟩)

theorem asS (xs : List Str) : T.one (C.fs (List.take xs.length (List.drop 0 (xs.map eS)))) = T.one (.fs (xs.map eS)) := by rw [takeAll eS _ _ rfl]

theorem ineedsAtD_ct (s : Sig) (n : Int) (hl : LenS s) : ACalls pk 29 [.agg (eG s), .one (.int .i64 n)] [] (fun r o => r = .tup [.one (.fs ((NeedsF s n).1.map eS)), .one (.bool (NeedsF s n).2)] ∧ o = []) :=
  (ineedsAt_ct s n hl).told [] (by rintro r o ⟨rfl, rfl⟩; exact ⟨_, _, rfl, congrArg (fun t => T.tup [t, .one (.bool (NeedsF s n).2)]) (asS _), rfl⟩)

def stepN (xs : List Str) (i : Nat) : Bool := match xs[i]? with
  | some n => okName n && (i == 0 || (match xs[i - 1]? with
    | some m => ltS m n
    | none => false))
  | none => true

def okNs (xs : List Str) : Bool := (List.range xs.length).all (stepN xs)

def okX (x : Shp) : Bool := okNs x.names && inR x.count 0 8 && decide (x.names.length ≤ 8)

def flatX (x : Shp) : Flat := ⟨List.replicate x.count.toNat 0, x.names.map mkN⟩

theorem okNs_all {xs : List Str} : okNs xs = true ↔ ∀ i, i < xs.length → stepN xs i = true := by
  simp [okNs, List.all_eq_true, List.mem_range]

theorem okNs_iff {xs : List Str} : okNs xs = true ↔ (∀ n ∈ xs, okName n = true) ∧ xs.Pairwise (fun a b => ltS a b = true) := by
  rw [okNs_all]
  constructor
  · intro h
    refine ⟨fun n hn => ?_, ?_⟩
    · obtain ⟨i, hi⟩ := List.getElem?_of_mem hn
      have := h i (lt_of_some hi)
      unfold stepN at this
      rw [hi] at this
      simp only [Bool.and_eq_true] at this
      exact this.1
    · rw [List.pairwise_iff_getElem]
      have key : ∀ (d i : Nat) (hi : i < xs.length) (hj : i + (d + 1) < xs.length), ltS xs[i] xs[i + (d + 1)] = true := by
        intro d
        induction d with
        | zero =>
          intro i hi hj
          have := h (i + 1) hj
          unfold stepN at this
          rw [List.getElem?_eq_getElem hj] at this
          simp only [Nat.add_sub_cancel, List.getElem?_eq_getElem hi, Bool.and_eq_true] at this
          simpa using this.2
        | succ d ih =>
          intro i hi hj
          have h1 := ih i hi (by omega)
          have := h (i + (d + 1) + 1) (by omega)
          unfold stepN at this
          rw [List.getElem?_eq_getElem (by omega)] at this
          simp only [Nat.add_sub_cancel, List.getElem?_eq_getElem (show i + (d + 1) < xs.length by omega), Bool.and_eq_true] at this
          have h2 := this.2
          simp only [Bool.or_eq_true, beq_iff_eq] at h2
          rcases h2 with h2 | h2
          · omega
          · exact ltS_trans h1 h2
      intro i j hi hj hij
      obtain ⟨d, rfl⟩ : ∃ d, j = i + (d + 1) := ⟨j - i - 1, by omega⟩
      exact key d i hi hj
  · rintro ⟨h1, h2⟩ i hi
    rw [List.pairwise_iff_getElem] at h2
    unfold stepN
    rw [List.getElem?_eq_getElem hi]
    simp only [Bool.and_eq_true]
    refine ⟨h1 _ (List.getElem_mem hi), ?_⟩
    cases i with
    | zero => rfl
    | succ i =>
      rw [Nat.add_sub_cancel, List.getElem?_eq_getElem (by omega)]
      simp only [Bool.or_eq_true]
      exact .inr (h2 i (i + 1) (by omega) hi (by omega))

theorem okNs_nodup {xs : List Str} (h : okNs xs = true) : xs.Nodup := by
  refine (okNs_iff.1 h).2.imp fun hab he => ?_
  rw [he, ltS_irrefl] at hab; cases hab

theorem flatX_names (x : Shp) : namesOf (flatX x).named = x.names := names_mk x.names

theorem flatX_places (x : Shp) : (flatX x).places.length = x.count.toNat := by simp [flatX]

theorem okX_flat {x : Shp} (h : okX x = true) : OkF (flatX x) := by
  simp only [okX, Bool.and_eq_true, decide_eq_true_eq] at h
  obtain ⟨⟨h1, h2⟩, h3⟩ := h
  have h4 := (okNs_iff.1 h1).1
  refine ⟨fun p hp => ?_, ?_, fun n hn => ?_, ?_, ?_⟩
  · obtain ⟨n, hn, rfl⟩ := List.mem_map.1 hp
    simp [okPair, mkN, h4 n hn, okVal, inR]
  · rw [flatX_names]; exact okNs_nodup h1
  · have := (List.mem_replicate.1 hn).2
    subst this
    simp [okVal, inR]
  · rw [flatX_places]; simp [inR] at h2; omega
  · simpa [flatX] using h3

theorem sortS_sorted {xs : List Str} (h : xs.Nodup) : (sortS xs).Pairwise (fun a b => ltS a b = true) := by
  have := sortL_sorted (xs := xs.map mkN) (by rw [names_mk]; exact h)
  rw [← sortS_map] at this
  unfold Sorted at this
  rw [List.pairwise_map] at this
  exact this

theorem OkS.okName {s : Sig} (h : OkS s) {p : Param} (hp : p ∈ s) : okName p.name = true := by
  have := h.params p hp
  simp only [okQ, Bool.and_eq_true] at this
  exact this.1.1.1.1

theorem needNs_nodup {s : Sig} (hs : OkS s) (n : Nat) : (needNs s n).Nodup := hs.nodup.sublist (needNs_sub s n)

theorem needs_okX {s : Sig} (hs : OkS s) {n : Nat} (hn : n ≤ 8) : okX ⟨n, sortS (needNs s n)⟩ = true := by
  have hl := needNs_len s n
  have hsl := hs.len
  simp only [okX, Bool.and_eq_true, decide_eq_true_eq]
  refine ⟨⟨okNs_iff.2 ⟨fun m hm => ?_, sortS_sorted (needNs_nodup hs n)⟩, by simp [inR]; omega⟩, by rw [sortS_length]; omega⟩
  obtain ⟨i, p, hp, _, _, rfl⟩ := need_mem.1 ((sortS_mem _ _).1 hm)
  exact hs.okName (List.mem_of_getElem? hp)

theorem bind_ok {s : Sig} {f : Flat} (hs : OkS s) (hf : OkF f) : (BindQ s f).2 = accQ s f := by
  unfold BindQ
  rw [fitQ_iff.2 ⟨hs, hf⟩]
  simp only [Bool.true_and]
  split
  · rename_i h; exact h.symm
  · rename_i h; simpa using h

/-- A shape is accepted. -/
def accX (s : Sig) (x : Shp) : Bool := okX x && (BindQ s (flatX x)).2

theorem accX_iff {s : Sig} {x : Shp} (hs : OkS s) (hx : okX x = true) : accX s x = true ↔
    takesC s x.count.toNat = true ∧ (∀ m ∈ needNs s x.count.toNat, m ∈ x.names) ∧ ∀ m ∈ x.names, allowQ s x.count.toNat m := by
  unfold accX
  rw [hx, Bool.true_and, bind_ok hs (okX_flat hx), acc_law hs (okX_flat hx), flatX_places, flatX_names]

theorem needs_acc {s : Sig} (hs : OkS s) {n : Nat} (hn : n ≤ 8) (ht : takesC s n = true) : accX s ⟨n, sortS (needNs s n)⟩ = true := by
  rw [accX_iff hs (needs_okX hs hn)]
  simp only [Int.toNat_natCast]
  exact ⟨ht, fun m hm => (sortS_mem _ _).2 hm, fun m hm => need_allow hs ((sortS_mem _ _).1 hm)⟩

def leastN (s : Sig) : Option Nat := (List.range 9).find? (takesC s)

def LeastF (s : Sig) : Shp × Bool := if okSig s then (match leastN s with
  | some n => (⟨n, sortS (needNs s n)⟩, true)
  | none => (⟨0, []⟩, false)) else (⟨0, []⟩, false)

theorem least_at {s : Sig} {i : Nat} (hs : okSig s = true) (hi : i ≤ 8) (hall : ∀ j, j < i → takesC s j = false) (h : takesC s i = true) : LeastF s = (⟨i, sortS (needNs s i)⟩, true) := by
  have : leastN s = some i := List.find?_range_eq_some.2 ⟨h, List.mem_range.2 (by omega), fun j hj => by rw [hall j hj]; rfl⟩
  unfold LeastF
  rw [if_pos hs, this]

theorem least_none {s : Sig} (hall : ∀ j, j < 9 → takesC s j = false) : LeastF s = (⟨0, []⟩, false) := by
  have : leastN s = none := List.find?_range_eq_none.2 fun j hj => by rw [hall j hj]; rfl
  unfold LeastF
  rw [this]
  split <;> rfl

theorem least_bad {s : Sig} (hs : okSig s = false) : LeastF s = (⟨0, []⟩, false) := by
  unfold LeastF; rw [hs]; rfl

theorem least_ok {s : Sig} (h : (LeastF s).2 = true) : ∃ i, OkS s ∧ i ≤ 8 ∧ (∀ j, j < i → takesC s j = false) ∧ takesC s i = true ∧ LeastF s = (⟨i, sortS (needNs s i)⟩, true) := by
  unfold LeastF at h ⊢
  split at h
  · rename_i hs
    cases hl : leastN s with
    | none => rw [hl] at h; cases h
    | some i =>
      obtain ⟨h1, h2, h3⟩ := List.find?_range_eq_some.1 hl
      have h2' := List.mem_range.1 h2
      refine ⟨i, okSig_iff.1 hs, by omega, fun j hj => by simpa using h3 j hj, h1, by rw [if_pos hs]⟩
  · cases h

/-- The names of parameters that must be given. -/
def mustQ (p : Param) : Bool := singleQ p && !p.hasD

def mustNs (s : Sig) : List Str := (s.filter mustQ).map Param.name

theorem least_free {s : Sig} (hs : OkS s) (h : mustNs s = []) : LeastF s = (⟨0, []⟩, true) := by
  have hno : ∀ p ∈ s, mustQ p = false := fun p hp => by
    cases hm : mustQ p with
    | false => rfl
    | true =>
      have : p.name ∈ mustNs s := List.mem_map_of_mem (List.mem_filter.2 ⟨hp, hm⟩)
      rw [h] at this; cases this
  have ht : takesC s 0 = true := takesC_iff.2 ⟨fun h0 => by omega, fun j p hp _ => by
    have := hno p (List.mem_of_getElem? hp)
    cases hb : bareQ p with
    | false => rfl
    | true =>
      simp only [bareQ, Bool.and_eq_true, beq_iff_eq] at hb
      simp [mustQ, single_kind.2 (.inl hb.1), hb.2] at this⟩
  have hn : needNs s 0 = [] := List.eq_nil_iff_forall_not_mem.2 fun m hm => by
    obtain ⟨i, p, hp, ho, hd, _⟩ := need_mem.1 hm
    rw [open_kind] at ho
    have := hno p (List.mem_of_getElem? hp)
    simp [mustQ, single_kind.2 (show p.kind = 0 ∨ p.kind = 1 ∨ p.kind = 3 by omega), hd] at this
  have := least_at (okSig_iff.2 hs) (i := 0) (by omega) (fun j hj => by omega) ht
  rw [hn] at this
  exact this

def hd0 (xs : List Int) : Int := xs.headD 0

structure LenX (x : Shp) : Prop where
  len : x.names.length ≤ 1048576
  names : ∀ n ∈ x.names, n.length ≤ 9223372036854775807

theorem stepN_all {xs : List Str} {i : Nat} {n : Str} (hn : xs[i]? = some n) (hall : ∀ j, j < i → stepN xs j = true) (h : stepN xs i = true) : ∀ j, j < i + 1 → stepN xs j = true := fun j hj => by
  by_cases hji : j = i
  · subst hji; exact h
  · exact hall j (by omega)

theorem okX_no {x : Shp} {i : Nat} (hi : i < x.names.length) (h : stepN x.names i = false) : okX x = false := by
  have : okNs x.names = false := by
    cases ho : okNs x.names with
    | false => rfl
    | true => rw [okNs_all.1 ho i hi] at h; cases h
  simp [okX, this]

theorem ivalidShape_ct (x : Shp) (hx : LenX x) : ACalls pk 69 [.agg (eX x)] [] (fun r o => r = .one (.bool (okX x)) ∧ o = []) := by
  have hl := hx.len
  refine acalls_of_body Try.func69 rfl (by kernel_rfl) rfl ?_
  refine rn rfl ?_
  refine goal_loop_keep (fun m σ => ∃ (q L : Int) (i : Nat), q = i ∧ L = x.names.length ∧ i ≤ x.names.length ∧ m = x.names.length - i ∧ (∀ j, j < i → stepN x.names j = true) ∧
      σ = ⟨[(8, .one (.int .i64 q)), (7, .one (.int .i64 L)), (6, .one (.fs (x.names.map eS))), (1, .one (.op 0 0 0))], [some ⟨2, [eX x], false, false, true⟩], []⟩) x.names.length [8, 7, 6, 1] [0] rfl
    ⟨_, _, 0, rfl, by simp, by omega, by omega, fun j hj => by omega, rfl⟩ ?_
  rintro m σ ⟨q, L, i, rfl, rfl, hi, rfl, hall, rfl⟩
  refine rn rfl ?_
  refine goal_cond rfl (fun h => ?_) (fun h => ?_) <;> (try simp only [gt_iff_lt, ge_iff_le, bne_iff_ne, ne_eq, bne_eq_false_iff_eq, beq_iff_eq, beq_eq_false_iff_ne, Bool.not_eq_true', Bool.not_eq_false', decide_eq_true_eq, decide_eq_false_iff_not, List.length_map] at h)
  · obtain ⟨n, hn⟩ := at_some (xs := x.names) (i := i) (by omega)
    refine rn rfl ?_
    refine goal_did rfl rfl (dA_index (eS n) rfl rfl rfl rfl rfl rfl rfl (by omega) (by (try simp); omega) (map_at (by simpa using hn)) rfl) ?_
    refine rn rfl ?_
    refine goal_step (step_call [] rfl rfl rfl rfl rfl rfl (isName_ct n (hx.names n (List.mem_of_getElem? hn)))) ?_
    rintro σ2 ⟨r, o', ⟨rfl, rfl⟩, hσ⟩
    obtain rfl := Option.some.inj hσ
    clear hσ
    refine rn rfl ?_
    refine goal_guard rfl rfl rfl (fun h1 => ?_) (fun h1 => ?_) <;> (try simp only [gt_iff_lt, ge_iff_le, bne_iff_ne, ne_eq, bne_eq_false_iff_eq, beq_iff_eq, beq_eq_false_iff_ne, Bool.not_eq_true', Bool.not_eq_false', decide_eq_true_eq, decide_eq_false_iff_not, List.length_map] at h1)
    · refine rn rfl (round_ret (fin_is [] rfl ⟨?_, rfl⟩))
      rw [okX_no (lt_of_some hn)]
      simp [stepN, hn, h1]
    · refine rn rfl ?_
      refine goal_guard rfl rfl rfl (fun h2 => ?_) (fun h2 => ?_) <;> (try simp only [gt_iff_lt, ge_iff_le, bne_iff_ne, ne_eq, bne_eq_false_iff_eq, beq_iff_eq, beq_eq_false_iff_ne, Bool.not_eq_true', Bool.not_eq_false', decide_eq_true_eq, decide_eq_false_iff_not, List.length_map] at h2)
      · obtain ⟨k, rfl⟩ : ∃ k, i = k + 1 := ⟨i - 1, by omega⟩
        obtain ⟨l, hl'⟩ := at_some (xs := x.names) (i := k) (by omega)
        have hw : IntKind.i64.wrap (((k + 1 : Nat) : Int) - 1) = (k : Int) := by rw [wrap64 (by omega) (by omega)]; omega
        refine rn rfl ?_
        rw [hw]
        refine goal_did rfl rfl (dA_index (eS l) rfl rfl rfl rfl rfl rfl rfl (by omega) (by (try simp); omega) (map_at (by simpa using hl')) rfl) ?_
        refine rn rfl ?_
        refine goal_cond rfl (fun h3 => ?_) (fun h3 => ?_)
        · refine rn rfl (round_ret (fin_is [] rfl ⟨?_, rfl⟩))
          have h3' : ltS l n = false := by simpa [ltS] using h3
          rw [okX_no (lt_of_some hn)]
          simp [stepN, hn, hl', h3']
        · have h3' : ltS l n = true := by simpa [ltS] using h3
          refine rn rfl ?_
          refine round_keep (x.names.length - (k + 1 + 1)) [8, 7, 6, 1] [0] (by omega) rfl ⟨_, _, k + 1 + 1, wrap64 (by omega) (by omega), rfl, by omega, rfl, stepN_all hn hall (by simp [stepN, hn, hl', h1, h3']), rfl⟩
      · refine rn rfl ?_
        refine round_keep (x.names.length - (i + 1)) [8, 7, 6, 1] [0] (by omega) rfl ⟨_, _, i + 1, wrap64 (by omega) (by omega), rfl, by omega, rfl, stepN_all hn hall ?_, rfl⟩
        have : i = 0 := by omega
        subst this
        simp [stepN, hn, h1]
  · refine rn rfl (round_ext ?_)
    have hok : okNs x.names = true := okNs_all.2 fun j hj => hall j (by omega)
    refine rn rfl ?_
    refine goal_step (step_call [] rfl rfl rfl rfl rfl rfl (iin_ct x.count 0 8)) ?_
    rintro σ2 ⟨r, o', ⟨rfl, rfl⟩, hσ⟩
    obtain rfl := Option.some.inj hσ
    clear hσ
    refine rn rfl ?_
    refine goal_guard rfl rfl rfl (fun h1 => ?_) (fun h1 => ?_) <;> (try simp only [gt_iff_lt, ge_iff_le, bne_iff_ne, ne_eq, bne_eq_false_iff_eq, beq_iff_eq, beq_eq_false_iff_ne, Bool.not_eq_true', Bool.not_eq_false', decide_eq_true_eq, decide_eq_false_iff_not, List.length_map] at h1)
    · refine rn rfl (fin_is [] rfl ⟨?_, rfl⟩)
      simp [okX, hok, h1]; omega
    · refine rn rfl (fin_is [] rfl ⟨?_, rfl⟩)
      simp [okX, hok, h1]

def flatXF (x : Shp) : Flat := if okX x then flatX x else zF

theorem iflatOf_ct (x : Shp) (hx : LenX x) : ACalls pk 37 [.agg (eX x)] [] (fun r o => r = .agg (eF (flatXF x)) ∧ o = []) := by
  refine acalls_of_body Try.func37 rfl (by kernel_rfl) rfl ?_
  refine rn rfl ?_
  refine goal_step (step_call [] rfl rfl rfl rfl rfl rfl (ivalidShape_ct x hx)) ?_
  rintro σ2 ⟨r, o', ⟨rfl, rfl⟩, hσ⟩
  obtain rfl := Option.some.inj hσ
  clear hσ
  refine rn rfl ?_
  refine goal_cond rfl (fun h => ?_) (fun h => ?_) <;> (try simp only [gt_iff_lt, ge_iff_le, bne_iff_ne, ne_eq, bne_eq_false_iff_eq, beq_iff_eq, beq_eq_false_iff_ne, Bool.not_eq_true', Bool.not_eq_false', decide_eq_true_eq, decide_eq_false_iff_not, List.length_map] at h)
  · refine rn rfl (fin_is [] rfl ⟨?_, rfl⟩)
    simp [flatXF, h]; rfl
  have hc := h
  simp only [okX, Bool.and_eq_true, decide_eq_true_eq, inR] at hc
  obtain ⟨n, hn⟩ : ∃ n : Nat, x.count = n := ⟨x.count.toNat, by omega⟩
  have hl := hc.2
  have hF : flatXF x = ⟨List.replicate n 0, x.names.map mkN⟩ := by simp [flatXF, h, flatX, hn]
  rw [hF]
  obtain ⟨c, names⟩ := x
  simp only at hn hl hc
  subst hn
  refine rn rfl ?_
  refine goal_did rfl rfl (dA_make n ((List.replicate n (0 : Int)).map eI) rfl rfl rfl (by simp) (by simp) rfl rfl rfl rfl rfl (by show 8 * n ≤ _; omega) (by omega) (by rw [← rep_map]; rfl)) ?_
  refine rn rfl ?_
  refine goal_weakCod (Weak.adoptO 3 1 2) ?_
  refine goal_loop_keep (fun m σ => ∃ (q L : Int) (i l : Nat) (acc : List Pair), q = i ∧ L = names.length ∧ i ≤ names.length ∧ m = names.length - i ∧ l = acc.length ∧ acc = (names.take i).map mkN ∧
      σ = ⟨[(17, .one (.int .i64 q)), (16, .one (.int .i64 L)), (15, .one (.fs (names.map eS))), (3, .one (.op 2 0 0)), (2, .one (.op 0 0 0))],
        [some ⟨2, [[.fs [], .fs []]], false, false, true⟩, ownI (List.replicate n 0), some ⟨2, [[.os 1 0 n n, .os 3 0 l l]], false, false, true⟩, ownP acc], []⟩) names.length [17, 16, 15, 3, 2] [1, 2, 3, 4] rfl
    ⟨_, _, 0, 0, [], rfl, by simp, by omega, by omega, rfl, rfl, rfl⟩ ?_
  rintro m σ ⟨q, L, i, l, acc, rfl, rfl, hi, rfl, rfl, hacc, rfl⟩
  refine rn rfl ?_
  refine goal_cond rfl (fun h2 => ?_) (fun h2 => ?_) <;> (try simp only [gt_iff_lt, ge_iff_le, bne_iff_ne, ne_eq, bne_eq_false_iff_eq, beq_iff_eq, beq_eq_false_iff_ne, Bool.not_eq_true', Bool.not_eq_false', decide_eq_true_eq, decide_eq_false_iff_not, List.length_map] at h2)
  · obtain ⟨nm, hnm⟩ := at_some (xs := names) (i := i) (by omega)
    have hlen : acc.length = i := by rw [hacc]; simp; omega
    refine rn rfl ?_
    refine goal_did rfl rfl (dA_index (eS nm) rfl rfl rfl rfl rfl rfl rfl (by omega) (by (try simp); omega) (map_at (by simpa using hnm)) rfl) ?_
    refine rn rfl ?_
    refine goal_did rfl rfl (dA_append (old := (acc).map eP) (rows := ([mkN nm] : List Pair).map eP) (((acc) ++ ([mkN nm] : List Pair)).map eP) (acc.length + 1) true (Dst.own rfl rfl rfl rfl rfl (by first | (simp; done) | (simp; omega)) (whole (by first | (simp; done) | (simp; omega)))) (Src.os rfl rfl (Nat.le_refl 1) rfl) rfl rfl rfl rfl rfl rfl rfl rfl (rows_len eP_len _) (rows_len eP_len _) (by (try simp only [List.length_map, List.length_append, List.length_cons, List.length_nil, List.length_take, List.length_drop]); show _ * 24 ≤ _; omega) (by first | (simp; done) | (simp; omega)) (by simp) (by first | (simp; done) | (simp; omega)) (fun _ => noOwnR_map _ eP_noOwn _)) ?_
    refine rn rfl ?_
    refine round_keep (names.length - (i + 1)) [17, 16, 15, 3, 2] [0, 1, 2, 5] (by omega) rfl ⟨_, _, i + 1, acc.length + 1, acc ++ [mkN nm], wrap64 (by omega) (by omega), rfl, by omega, rfl, by simp, by rw [hacc, ← take_snoc hnm]; simp, rfl⟩
  · refine rn rfl (round_ext ?_)
    have hfin : acc = names.map mkN := by rw [hacc, List.take_of_length_le (by omega)]
    rw [← hfin]
    refine rn rfl ?_
    have hA : T.agg [.fs (List.take n (List.drop 0 ((List.replicate n (0 : Int)).map eI))), .fs (List.take acc.length (List.drop 0 (acc.map eP)))] = T.agg (eF ⟨List.replicate n 0, acc⟩) := by rw [takeAll eI _ _ (by simp), takeAll eP _ _ rfl]; rfl
    refine goal_step (step_callE [] rfl rfl rfl rfl rfl rfl (cons_eq hA rfl) (copyOf_ct ⟨List.replicate n 0, acc⟩ (by simp; omega) (by simp [hfin]; omega))) ?_
    rintro σ2 ⟨r, o', ⟨rfl, rfl⟩, hσ⟩
    obtain rfl := Option.some.inj hσ
    clear hσ
    refine rn rfl ?_
    refine rn rfl (fin_is [] rfl ⟨?_, rfl⟩)
    exact asFl _

theorem needsF_snd (s : Sig) (n : Int) : (NeedsF s n).2 = goodC s n := by
  unfold NeedsF; split
  · rename_i h; exact h.symm
  · rename_i h; simpa using h

theorem goodC_at {s : Sig} {n : Nat} (hn : n ≤ 8) : goodC s n = (okSig s && takesC s n) := by
  have : inR (n : Int) 0 8 = true := by simp [inR]; omega
  simp [goodC, this]

theorem least_len (s : Sig) : (LeastF s).1.names.length ≤ 8 := by
  unfold LeastF
  split
  · rename_i h
    have := (okSig_iff.1 h).len
    cases leastN s with
    | none => simp
    | some n =>
      have h2 := needNs_len s n
      simp only [sortS_length]; omega
  · simp

theorem ileast_ct (s : Sig) (hl : LenS s) : ACalls pk 20 [.agg (eG s)] [] (fun r o => r = .tup [rX (LeastF s).1, .one (.bool (LeastF s).2)] ∧ o = oX (LeastF s).1) := by
  refine acalls_of_body Try.func20 rfl (by kernel_rfl) rfl ?_
  refine rn rfl ?_
  refine goal_loop_keep (fun m σ => ∃ (q : Int) (i : Nat), q = i ∧ i ≤ 9 ∧ m = 9 - i ∧ (∀ j, j < i → okSig s = true → takesC s j = false) ∧
      σ = ⟨[(4, .one (.int .i64 q)), (2, .one (.op 1 0 0)), (1, .one (.op 0 0 0))], [some ⟨1, [eG s], false, false, true⟩, some ⟨2, [[.int .i64 0, .fs []]], false, false, true⟩], []⟩) 9 [4, 2, 1] [0, 1] rfl
    ⟨_, 0, rfl, by omega, by omega, fun j hj => by omega, rfl⟩ ?_
  rintro m σ ⟨q, i, rfl, hi, rfl, hall, rfl⟩
  refine rn rfl ?_
  refine goal_cond rfl (fun h => ?_) (fun h => ?_) <;> (try simp only [gt_iff_lt, ge_iff_le, bne_iff_ne, ne_eq, bne_eq_false_iff_eq, beq_iff_eq, beq_eq_false_iff_ne, Bool.not_eq_true', Bool.not_eq_false', decide_eq_true_eq, decide_eq_false_iff_not, List.length_map] at h)
  · have hg := goodC_at (s := s) (n := i) (by omega)
    refine rn rfl ?_
    refine goal_step (step_call [] rfl rfl rfl rfl rfl rfl (ineedsAt_ct s i hl)) ?_
    rintro σ2 ⟨r, o', ⟨rfl, rfl⟩, hσ⟩
    obtain rfl := Option.some.inj hσ
    clear hσ
    refine rn rfl ?_
    rw [needsF_snd, hg]
    refine goal_cond rfl (fun h2 => ?_) (fun h2 => ?_)
    · simp only [Bool.and_eq_true] at h2
      have hle : LeastF s = (⟨i, sortS (needNs s i)⟩, true) := least_at h2.1 (by omega) (fun j hj => hall j hj h2.1) h2.2
      have hne : NeedsF s i = (sortS (needNs s i), true) := by unfold NeedsF; rw [if_pos (by rw [hg]; simp [h2])]; simp
      rw [hle, hne]
      refine rn rfl (round_ret (fin_is [2] rfl ⟨rfl, rfl⟩))
    · refine rn rfl ?_
      refine round_keep (9 - (i + 1)) [4, 2, 1] [0, 1] (by omega) rfl ⟨_, i + 1, wrap64 (by omega) (by omega), by omega, rfl, fun j hj hs => ?_, rfl⟩
      by_cases hji : j = i
      · subst hji; rw [hs] at h2; simpa using h2
      · exact hall j (by omega) hs
  · refine rn rfl (round_ext ?_)
    have hle : LeastF s = (⟨0, []⟩, false) := by
      cases hs : okSig s with
      | false => exact least_bad hs
      | true => exact least_none fun j hj => hall j (by omega) hs
    rw [hle]
    refine rn rfl ?_
    exact fin_weak (Weak.adoptO 1 1 1) (fin_is [2] rfl ⟨rfl, rfl⟩)

theorem ileastD_ct (s : Sig) (hl : LenS s) : ACalls pk 20 [.agg (eG s)] [] (fun r o => r = .tup [.agg (eX (LeastF s).1), .one (.bool (LeastF s).2)] ∧ o = []) :=
  (ileast_ct s hl).told [] (by rintro r o ⟨rfl, rfl⟩; exact ⟨_, _, rfl, congrArg (fun t => T.tup [t, .one (.bool (LeastF s).2)]) (asX _), rfl⟩)

theorem sleast_ct (s : Sig) (hl : LenS s) : ACalls pk 18 [.agg (eG s)] [] (fun r o => r = .tup [.agg (eX (LeastF s).1), .one (.bool (LeastF s).2)] ∧ o = []) := by
  obtain ⟨hl1, hl2⟩ := hl
  refine acalls_of_body Try.func18 rfl (by kernel_rfl) rfl ?_
  refine rn rfl ?_
  refine goal_step (step_call [] rfl rfl rfl rfl rfl rfl (svalidSig_ct s (by omega) hl2)) ?_
  rintro σ2 ⟨r, o', ⟨rfl, rfl⟩, hσ⟩
  obtain rfl := Option.some.inj hσ
  clear hσ
  refine rn rfl ?_
  refine goal_cond rfl (fun h => ?_) (fun h => ?_) <;> (try simp only [gt_iff_lt, ge_iff_le, bne_iff_ne, ne_eq, bne_eq_false_iff_eq, beq_iff_eq, beq_eq_false_iff_ne, Bool.not_eq_true', Bool.not_eq_false', decide_eq_true_eq, decide_eq_false_iff_not, List.length_map] at h)
  · refine rn rfl (fin_is [] rfl ⟨?_, rfl⟩)
    rw [least_bad (by simpa using h)]; rfl
  have hs := okSig_iff.1 h
  refine rn rfl ?_
  refine goal_loop_keep (fun m σ => ∃ (q : Int) (i : Nat), q = i ∧ i ≤ 9 ∧ m = 9 - i ∧ (∀ j, j < i → takesC s j = false) ∧
      σ = ⟨[(4, .one (.int .i64 q)), (2, .one (.op 1 0 0)), (1, .one (.op 0 0 0))], [some ⟨1, [eG s], false, false, true⟩, some ⟨2, [[.int .i64 0, .fs []]], false, false, true⟩], []⟩) 9 [4, 2, 1] [0, 1] rfl
    ⟨_, 0, rfl, by omega, by omega, fun j hj => by omega, rfl⟩ ?_
  rintro m σ ⟨q, i, rfl, hi, rfl, hall, rfl⟩
  refine rn rfl ?_
  refine goal_cond rfl (fun h3 => ?_) (fun h3 => ?_) <;> (try simp only [gt_iff_lt, ge_iff_le, bne_iff_ne, ne_eq, bne_eq_false_iff_eq, beq_iff_eq, beq_eq_false_iff_ne, Bool.not_eq_true', Bool.not_eq_false', decide_eq_true_eq, decide_eq_false_iff_not, List.length_map] at h3)
  · refine rn rfl ?_
    refine goal_step (step_call [] rfl rfl rfl rfl rfl rfl (takesCount_ct s i (by omega) (by omega))) ?_
    rintro σ2 ⟨r, o', ⟨rfl, rfl⟩, hσ⟩
    obtain rfl := Option.some.inj hσ
    clear hσ
    refine rn rfl ?_
    refine goal_cond rfl (fun h2 => ?_) (fun h2 => ?_)
    · rw [least_at h (by omega) hall h2]
      refine rn rfl ?_
      refine goal_step (step_call [] rfl rfl rfl rfl rfl rfl (sneeds_ct s i hs (by omega))) ?_
      rintro σ2 ⟨r, o', ⟨rfl, rfl⟩, hσ⟩
      obtain rfl := Option.some.inj hσ
      clear hσ
      refine rn rfl ?_
      refine rn rfl (round_ret (fin_is [] rfl ⟨rfl, rfl⟩))
    · refine rn rfl ?_
      refine round_keep (9 - (i + 1)) [4, 2, 1] [0, 1] (by omega) rfl ⟨_, i + 1, wrap64 (by omega) (by omega), by omega, rfl, fun j hj => ?_, rfl⟩
      by_cases hji : j = i
      · subst hji; exact h2
      · exact hall j (by omega)
  · refine rn rfl (round_ext ?_)
    rw [least_none fun j hj => hall j (by omega)]
    exact rn rfl (fin_is [] rfl ⟨rfl, rfl⟩)

section

variable {X : Pk} {N np : Nat} {K : KP} {σ : State}

end

theorem equalTexts_ct (xs ys : List Str) (hx : xs.length ≤ 9223372036854775807) :
    ACalls pk 35 [.one (.fs (xs.map eS)), .one (.fs (ys.map eS))] [] (fun r o => r = .one (.bool (decide (xs = ys))) ∧ o = []) := by
  refine acalls_of_body Try.func35 rfl (by kernel_rfl) rfl ?_
  refine rn rfl ?_
  refine goal_cond rfl (fun h => ?_) (fun h => ?_) <;> (try simp only [gt_iff_lt, ge_iff_le, bne_iff_ne, ne_eq, bne_eq_false_iff_eq, beq_iff_eq, beq_eq_false_iff_ne, Bool.not_eq_true', Bool.not_eq_false', decide_eq_true_eq, decide_eq_false_iff_not, List.length_map] at h)
  · refine rn rfl (fin_is [] rfl ⟨?_, rfl⟩)
    have : xs ≠ ys := fun h0 => h (by rw [h0])
    simp [this]
  · have hlen : xs.length = ys.length := by omega
    refine rn rfl ?_
    refine goal_loop_keep (fun m σ => ∃ (n : Int) (i : Nat), n = i ∧ i ≤ xs.length ∧ m = xs.length - i ∧ xs.take i = ys.take i ∧
        σ = ⟨[(5, .one (.int .i64 n)), (1, .one (.fs (ys.map eS))), (0, .one (.fs (xs.map eS)))], [], []⟩) xs.length [5, 1, 0] [] rfl
      ⟨_, 0, rfl, by omega, by omega, rfl, rfl⟩ ?_
    rintro m σ ⟨n, i, rfl, hi, rfl, hpre, rfl⟩
    refine rn rfl ?_
    refine goal_cond rfl (fun h => ?_) (fun h => ?_) <;> (try simp only [gt_iff_lt, ge_iff_le, bne_iff_ne, ne_eq, bne_eq_false_iff_eq, beq_iff_eq, beq_eq_false_iff_ne, Bool.not_eq_true', Bool.not_eq_false', decide_eq_true_eq, decide_eq_false_iff_not, List.length_map] at h)
    · obtain ⟨x, hxi⟩ := at_some (xs := xs) (i := i) (by omega)
      obtain ⟨y, hyi⟩ := at_some (xs := ys) (i := i) (by omega)
      refine rn rfl ?_
      refine goal_draw' [] 9 rfl ?_
      refine drn [0, 1, 4, 5] (by kernel_rfl) (by kernel_rfl) rfl rfl ?_
      refine AH_did 2 rfl (by kernel_rfl) (by kernel_rfl) (by kernel_rfl) rfl rfl (dA_index (eS x) rfl rfl rfl rfl rfl rfl rfl (by omega) (by (try simp); omega) (map_at (by simpa using hxi)) rfl) ?_
      refine AH_did 6 rfl (by kernel_rfl) (by kernel_rfl) (by kernel_rfl) rfl rfl (dA_index (eS y) rfl rfl rfl rfl rfl rfl rfl (by omega) (by (try simp); omega) (map_at (by simpa using hyi)) rfl) ?_
      refine drn [3, 7, 8] (by kernel_rfl) (by kernel_rfl) rfl rfl ?_
      refine AH_end (by kernel_rfl) ?_
      refine rn rfl ?_
      have hstep := take_eq_step hpre hxi hyi
      refine goal_cond rfl (fun h2 => ?_) (fun h2 => ?_) <;> simp only [bne_iff_ne, ne_eq, bne_eq_false_iff_eq, Bool.not_eq_true', Bool.not_eq_false', decide_eq_true_eq, decide_eq_false_iff_not, beq_iff_eq, beq_eq_false_iff_ne] at h2
      · refine rn rfl ?_
        refine round_ret (fin_is [] rfl ⟨?_, rfl⟩)
        have : xs ≠ ys := fun h0 => h2 (hstep.1 (by rw [h0]))
        simp [this]
      · refine rn rfl ?_
        refine round_keep (xs.length - (i + 1)) [5, 1, 0] [] (by omega) rfl ⟨_, i + 1, ?_, by omega, rfl, hstep.2 h2, rfl⟩
        exact wrap64 (by omega) (by omega)
    · refine rn rfl ?_
      refine round_ext ?_
      refine rn rfl (fin_is [] rfl ⟨?_, rfl⟩)
      rw [show i = xs.length by omega, List.take_length, hlen, List.take_length] at hpre
      simp [hpre]

theorem SmallS.lens {s : Sig} (h : SmallS s) : LenS s := ⟨by have := h.len; omega, fun p hp => by have := h.names p hp; omega⟩

theorem itakesN_ct (s : Sig) (n : Int) (hl : LenS s) : ACalls pk 27 [.agg (eG s), .one (.int .i64 n)] [] (fun r o => r = .one (.bool (goodC s n)) ∧ o = []) := by
  refine acalls_of_body Try.func27 rfl (by kernel_rfl) rfl ?_
  refine rn rfl ?_
  refine goal_step (step_call [] rfl rfl rfl rfl rfl rfl (ineedsAtD_ct s n hl)) ?_
  rintro σ2 ⟨r, o', ⟨rfl, rfl⟩, hσ⟩
  obtain rfl := Option.some.inj hσ
  clear hσ
  refine rn rfl ?_
  refine rn rfl (fin_is [] rfl ⟨?_, rfl⟩)
  rw [needsF_snd]

theorem flatXF_len {x : Shp} (hx : LenX x) : LenF (flatXF x) := by
  unfold flatXF
  split
  · rename_i h
    have := okX_flat h
    exact ⟨by have := this.places; omega, by have := this.named; omega, fun p hp => by
      obtain ⟨n, hn, rfl⟩ := List.mem_map.1 hp
      exact hx.names n hn⟩
  · exact ⟨by simp [zF], by simp [zF], by simp [zF]⟩

theorem iacceptsShape_ct (s : Sig) (x : Shp) (hl : LenS s) (hx : LenX x) : ACalls pk 30 [.agg (eG s), .agg (eX x)] [] (fun r o => r = .one (.bool (accX s x)) ∧ o = []) := by
  have lf := flatXF_len hx
  have hfx : okX x = true → flatXF x = flatX x := fun h => by simp [flatXF, h]
  refine acalls_of_body Try.func30 rfl (by kernel_rfl) rfl ?_
  refine rn rfl ?_
  refine goal_draw' [0, 1] 9 rfl ?_
  refine drn [0] (by kernel_rfl) (by kernel_rfl) rfl rfl ?_
  refine AH_one (i := 1) (by kernel_rfl) (step_call [] rfl rfl rfl rfl rfl rfl (ivalidShape_ct x hx)) (by simp) ?_
  rintro σ2 ⟨r, o', ⟨rfl, rfl⟩, hσ⟩
  obtain rfl := Option.some.inj hσ
  clear hσ
  refine drn [2] (by kernel_rfl) (by kernel_rfl) rfl rfl ?_
  refine AH_guard (i := 3) rfl rfl rfl (fun h1 => ?_) (fun h1 => ?_) <;> (try simp only [gt_iff_lt, ge_iff_le, bne_iff_ne, ne_eq, bne_eq_false_iff_eq, beq_iff_eq, beq_eq_false_iff_ne, Bool.not_eq_true', Bool.not_eq_false', decide_eq_true_eq, decide_eq_false_iff_not, List.length_map] at h1)
  · refine drn [3, 4] (by kernel_rfl) (by kernel_rfl) rfl rfl ?_
    refine AH_one (i := 5) (by kernel_rfl) (step_call [] rfl rfl rfl rfl rfl rfl (iflatOf_ct x hx)) (by simp) ?_
    rintro σ2 ⟨r, o', ⟨rfl, rfl⟩, hσ⟩
    obtain rfl := Option.some.inj hσ
    clear hσ
    refine AH_one (i := 6) (by kernel_rfl) (step_call [] rfl rfl rfl rfl rfl rfl (iaccepts_ct s (flatXF x) hl lf)) (by simp) ?_
    rintro σ2 ⟨r, o', ⟨rfl, rfl⟩, hσ⟩
    obtain rfl := Option.some.inj hσ
    clear hσ
    refine drn [7, 8] (by kernel_rfl) (by kernel_rfl) rfl rfl ?_
    refine AH_end (by kernel_rfl) ?_
    refine rn rfl ?_
    refine rn rfl (fin_is [] rfl ⟨?_, rfl⟩)
    rw [hfx h1]; simp [accX, h1]
  · refine drn [3, 4, 5, 6, 7, 8] (by kernel_rfl) (by kernel_rfl) rfl rfl ?_
    refine AH_end (by kernel_rfl) ?_
    refine rn rfl ?_
    refine rn rfl (fin_is [] rfl ⟨?_, rfl⟩)
    simp [accX, h1]

theorem needs_lenX {s : Sig} (hs : OkS s) (n : Nat) (c : Int) : LenX ⟨c, sortS (needNs s n)⟩ := by
  have h2 := needNs_len s n
  have := hs.len
  refine ⟨by simp only [sortS_length]; omega, fun m hm => ?_⟩
  obtain ⟨i, p, hp, _, _, rfl⟩ := need_mem.1 ((sortS_mem _ _).1 hm)
  have := hs.nameLen (List.mem_of_getElem? hp)
  omega

theorem drawLeastShape_ct (bs : Str) : ACalls pk 39 [.one (.fs (bs.map rowB))] [] (fun r o => ∃ s, SmallS s ∧ r = .agg (eG s) ∧ o = []) := by
  have hb : (bs.take 2000).length ≤ 2000 := by simp; omega
  refine acalls_of_body Try.func39 rfl (by kernel_rfl) rfl ?_
  refine rn rfl ?_
  refine goal_step (step_call [] rfl rfl rfl rfl rfl rfl (newReader_ct bs)) ?_
  rintro σ2 ⟨r, o', ⟨rfl, rfl⟩, hσ⟩
  obtain rfl := Option.some.inj hσ
  clear hσ
  refine rn rfl ?_
  refine goal_step (step_callE [1] rfl rfl rfl rfl rfl rfl rfl (someSignature_ct (bs.take 2000) 0 hb (by omega) (by omega))) ?_
  rintro σ2 ⟨r, o', ⟨s, k1, hs, hk1, hk2, rfl, rfl⟩, hσ⟩
  obtain rfl := Option.some.inj hσ
  clear hσ
  exact rn rfl (fin_is [] rfl ⟨s, hs, rfl, rfl⟩)

theorem equalShape_ct (x : Shp) (hx : x.names.length ≤ 2097152) : ACalls pk 40 [.agg (eX x), .agg (eX x)] [] (fun r o => r = .one (.bool true) ∧ o = []) := by
  refine acalls_of_body Try.func40 rfl (by kernel_rfl) rfl ?_
  refine rn rfl ?_
  refine goal_guard rfl rfl rfl (fun _ => ?_) (fun h => by simp at h)
  refine rn rfl ?_
  refine goal_step (step_call [] rfl rfl rfl rfl rfl rfl (equalTexts_ct x.names x.names (by omega))) ?_
  rintro σ2 ⟨r, o', ⟨rfl, rfl⟩, hσ⟩
  obtain rfl := Option.some.inj hσ
  clear hσ
  refine rn rfl ?_
  refine rn rfl (fin_is [] rfl ⟨?_, rfl⟩)
  simp

theorem mustC_ct (p : Param) : ACalls pk 79 [.agg (eQ p)] [] (fun r o => r = .one (.bool (mustQ p)) ∧ o = []) := by
  refine acalls_of_body Try.func79 rfl (by kernel_rfl) rfl ?_
  refine rn rfl ?_
  refine goal_step (step_call [] rfl rfl rfl rfl rfl rfl (isingle_ct p)) ?_
  rintro σ2 ⟨r, o', ⟨rfl, rfl⟩, hσ⟩
  obtain rfl := Option.some.inj hσ
  clear hσ
  refine rn rfl ?_
  refine goal_guard rfl rfl rfl (fun h1 => ?_) (fun h1 => ?_) <;> (try simp only [gt_iff_lt, ge_iff_le, bne_iff_ne, ne_eq, bne_eq_false_iff_eq, beq_iff_eq, beq_eq_false_iff_ne, Bool.not_eq_true', Bool.not_eq_false', decide_eq_true_eq, decide_eq_false_iff_not, List.length_map] at h1)
  · refine rn rfl (fin_is [] rfl ⟨?_, rfl⟩)
    simp [mustQ, h1]
  · refine rn rfl (fin_is [] rfl ⟨?_, rfl⟩)
    simp [mustQ, h1]

theorem iNeeded_ct (s : Sig) (hl : LenS s) : ACalls pk 41 [.agg (eG s)] [] (fun r o => r = .one (.fs ((if okSig s then mustNs s else []).map eS)) ∧ o = []) := by
  obtain ⟨s1, s2⟩ := hl
  refine acalls_of_body Try.func41 rfl (by kernel_rfl) rfl ?_
  refine rn rfl ?_
  refine goal_step (step_call [] rfl rfl rfl rfl rfl rfl (ivalidSig_ct s (by omega) s2)) ?_
  rintro σ2 ⟨r, o', ⟨rfl, rfl⟩, hσ⟩
  obtain rfl := Option.some.inj hσ
  clear hσ
  refine rn rfl ?_
  refine goal_cond rfl (fun h => ?_) (fun h => ?_) <;> (try simp only [gt_iff_lt, ge_iff_le, bne_iff_ne, ne_eq, bne_eq_false_iff_eq, beq_iff_eq, beq_eq_false_iff_ne, Bool.not_eq_true', Bool.not_eq_false', decide_eq_true_eq, decide_eq_false_iff_not, List.length_map] at h)
  · refine rn rfl (fin_is [] rfl ⟨?_, rfl⟩)
    simp [h]
  · refine rn rfl ?_
    refine goal_step (step_call [] rfl rfl rfl rfl rfl rfl (namesOf_ct s (by omega) mustQ _ [] mustC_ct (.inl rfl))) ?_
    rintro σ2 ⟨r, o', ⟨rfl, rfl⟩, hσ⟩
    obtain rfl := Option.some.inj hσ
    clear hσ
    refine rn rfl ?_
    refine rn rfl (fin_is [] rfl ⟨?_, rfl⟩)
    simp [h, mustNs, namesQ]

theorem fnLeastShape_ct (bs : Str) (hl : bs.length ≤ 9223372036854775807) : ACalls pk 9 [.one (.fs (bs.map rowB))] [] (fun r o => r = .one (.bool true) ∧ o = []) := by
  refine acalls_of_body Try.func9 rfl (by kernel_rfl) rfl ?_
  refine rn rfl ?_
  refine goal_cond rfl (fun h => ?_) (fun h => ?_) <;> (try simp only [gt_iff_lt, ge_iff_le, bne_iff_ne, ne_eq, bne_eq_false_iff_eq, beq_iff_eq, beq_eq_false_iff_ne, Bool.not_eq_true', Bool.not_eq_false', decide_eq_true_eq, decide_eq_false_iff_not, List.length_map] at h)
  · exact rn rfl (fin_is [] rfl ⟨rfl, rfl⟩)
  · refine rn rfl ?_
    refine goal_step (step_call [] rfl rfl rfl rfl rfl rfl (drawLeastShape_ct bs)) ?_
    rintro σ2 ⟨r, o', ⟨s, hs, rfl, rfl⟩, hσ⟩
    obtain rfl := Option.some.inj hσ
    clear hσ
    have ls := hs.lens
    have hI := ileastD_ct s ls
    have hS := sleast_ct s ls
    have g1 := least_len s
    have hok := least_ok (s := s)
    have hfree := fun h => least_free (s := s) h
    generalize hX : (LeastF s).1 = x at *
    generalize hB : (LeastF s).2 = b at *
    cases b with
    | false =>
      refine rn rfl ?_
      refine goal_step (step_call [] rfl rfl rfl rfl rfl rfl (hI)) ?_
      rintro σ2 ⟨r, o', ⟨rfl, rfl⟩, hσ⟩
      obtain rfl := Option.some.inj hσ
      clear hσ
      refine rn rfl ?_
      refine rn rfl ?_
      refine goal_step (step_call [] rfl rfl rfl rfl rfl rfl (hS)) ?_
      rintro σ2 ⟨r, o', ⟨rfl, rfl⟩, hσ⟩
      obtain rfl := Option.some.inj hσ
      clear hσ
      refine rn rfl ?_
      refine rn rfl ?_
      refine goal_step (step_call [] rfl rfl rfl rfl rfl rfl (equalShape_ct x (by omega))) ?_
      rintro σ2 ⟨r, o', ⟨rfl, rfl⟩, hσ⟩
      obtain rfl := Option.some.inj hσ
      clear hσ
      refine rn rfl ?_
      refine goal_guard rfl rfl rfl (fun h1 => by cases h1) (fun _ => ?_)
      refine rn rfl ?_
      refine goal_guard rfl rfl rfl (fun h1 => by cases h1) (fun _ => ?_)
      refine rn rfl ?_
      refine goal_cond rfl (fun _ => ?_) (fun h1 => by cases h1)
      refine rn rfl ?_
      refine goal_step (step_call [] rfl rfl rfl rfl rfl rfl (equalShape_ct x (by omega))) ?_
      rintro σ2 ⟨r, o', ⟨rfl, rfl⟩, hσ⟩
      obtain rfl := Option.some.inj hσ
      clear hσ
      refine rn rfl ?_
      refine goal_guard rfl rfl rfl (fun _ => ?_) (fun h1 => by cases h1)
      exact rn rfl (fin_is [] rfl ⟨rfl, rfl⟩)
    | true =>
      obtain ⟨i, hs', hi, hall, ht, hL⟩ := hok rfl
      have hx : x = ⟨i, sortS (needNs s i)⟩ := by rw [← hX, hL]
      have hacc := needs_acc hs' hi ht
      have hlx := needs_lenX hs' i i
      rw [← hx] at hacc hlx
      have hN := iNeeded_ct s ls
      rw [if_pos (okSig_iff.2 hs')] at hN
      have hT : ∀ j, j < i → ACalls pk 27 [.agg (eG s), .one (.int .i64 (j : Nat))] [] (fun r o => r = .one (.bool false) ∧ o = []) := fun j hj => by
        have := itakesN_ct s (j : Nat) ls
        rw [goodC_at (by omega), hall j hj, Bool.and_false] at this
        exact this
      have hcnt : x.count = (i : Int) := by rw [hx]
      have hz : mustNs s = [] → x = ⟨0, []⟩ := fun h0 => by rw [← hX, hfree hs' h0]
      clear hX hL hx
      obtain ⟨c, names⟩ := x
      simp only at hcnt
      subst hcnt
      refine rn rfl ?_
      refine goal_step (step_call [] rfl rfl rfl rfl rfl rfl (hI)) ?_
      rintro σ2 ⟨r, o', ⟨rfl, rfl⟩, hσ⟩
      obtain rfl := Option.some.inj hσ
      clear hσ
      refine rn rfl ?_
      refine rn rfl ?_
      refine goal_step (step_call [] rfl rfl rfl rfl rfl rfl (hS)) ?_
      rintro σ2 ⟨r, o', ⟨rfl, rfl⟩, hσ⟩
      obtain rfl := Option.some.inj hσ
      clear hσ
      refine rn rfl ?_
      refine rn rfl ?_
      refine goal_step (step_call [] rfl rfl rfl rfl rfl rfl (equalShape_ct ⟨i, names⟩ (by omega))) ?_
      rintro σ2 ⟨r, o', ⟨rfl, rfl⟩, hσ⟩
      obtain rfl := Option.some.inj hσ
      clear hσ
      refine rn rfl ?_
      refine goal_guard rfl rfl rfl (fun h1 => by cases h1) (fun _ => ?_)
      refine rn rfl ?_
      refine goal_guard rfl rfl rfl (fun h1 => by cases h1) (fun _ => ?_)
      refine rn rfl ?_
      refine goal_cond rfl (fun h1 => by cases h1) (fun _ => ?_)
      refine rn rfl ?_
      refine goal_loop_keep (fun m σ => ∃ (q : Int) (j : Nat), q = j ∧ j ≤ i ∧ m = i - j ∧
          σ = ⟨[(8, .one (.int .i64 q)), (4, .one (.op 1 0 0)), (3, .one (.op 0 0 0))], [some ⟨1, [eG s], false, false, true⟩, some ⟨2, [eX ⟨i, names⟩], false, false, true⟩], []⟩) i [8, 4, 3] [0, 1] rfl
        ⟨_, 0, rfl, by omega, by omega, rfl⟩ ?_
      rintro m σ ⟨q, j, rfl, hj, rfl, rfl⟩
      refine rn rfl ?_
      refine goal_cond rfl (fun h2 => ?_) (fun h2 => ?_) <;> (try simp only [gt_iff_lt, ge_iff_le, bne_iff_ne, ne_eq, bne_eq_false_iff_eq, beq_iff_eq, beq_eq_false_iff_ne, Bool.not_eq_true', Bool.not_eq_false', decide_eq_true_eq, decide_eq_false_iff_not, List.length_map] at h2)
      · refine rn rfl ?_
        refine goal_step (step_call [] rfl rfl rfl rfl rfl rfl (hT j (by omega))) ?_
        rintro σ2 ⟨r, o', ⟨rfl, rfl⟩, hσ⟩
        obtain rfl := Option.some.inj hσ
        clear hσ
        refine rn rfl ?_
        refine goal_cond rfl (fun h1 => by cases h1) (fun _ => ?_)
        refine rn rfl ?_
        refine round_keep (i - (j + 1)) [8, 4, 3] [0, 1] (by omega) rfl ⟨_, j + 1, wrap64 (by omega) (by omega), by omega, rfl, rfl⟩
      · refine rn rfl (round_ext ?_)
        refine rn rfl ?_
        refine goal_step (step_call [] rfl rfl rfl rfl rfl rfl (iacceptsShape_ct s ⟨i, names⟩ ls hlx)) ?_
        rintro σ2 ⟨r, o', ⟨rfl, rfl⟩, hσ⟩
        obtain rfl := Option.some.inj hσ
        clear hσ
        refine rn rfl ?_
        rw [hacc]
        refine goal_guard rfl rfl rfl (fun _ => ?_) (fun h1 => by cases h1)
        refine rn rfl ?_
        refine goal_step (step_call [] rfl rfl rfl rfl rfl rfl (hN)) ?_
        rintro σ2 ⟨r, o', ⟨rfl, rfl⟩, hσ⟩
        obtain rfl := Option.some.inj hσ
        clear hσ
        refine rn rfl ?_
        refine goal_guard rfl rfl rfl (fun h3 => ?_) (fun h3 => ?_) <;> (try simp only [gt_iff_lt, ge_iff_le, bne_iff_ne, ne_eq, bne_eq_false_iff_eq, beq_iff_eq, beq_eq_false_iff_ne, Bool.not_eq_true', Bool.not_eq_false', decide_eq_true_eq, decide_eq_false_iff_not, List.length_map] at h3)
        · exact rn rfl (fin_is [] rfl ⟨rfl, rfl⟩)
        · refine rn rfl ?_
          have hm0 : mustNs s = [] := by
            cases hm : mustNs s with
            | nil => rfl
            | cons a l => rw [hm] at h3; simp at h3
          have h0 := hz hm0
          simp only [Shp.mk.injEq] at h0
          obtain ⟨h01, h02⟩ := h0
          subst h02
          refine rn rfl (fin_is [] rfl ⟨?_, rfl⟩)
          simp [h01]; rfl

end Go.Proofs.Ytekdhmddibfidaa
