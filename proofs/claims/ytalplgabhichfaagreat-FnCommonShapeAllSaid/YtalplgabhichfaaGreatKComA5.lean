/- Part 5 of the proof: an abstract machine over the model; contracts of the functions that the law reaches. -/
import Derived.Test.YtalplgabhichfaaGreatKComA4
set_option linter.unusedVariables false
set_option linter.unusedSimpArgs false
namespace Go.Proofs.YtalplgabhichfaaGreat
open Go
set_option maxRecDepth 100000
set_option maxHeartbeats 1000000

theorem needsF_good {s : Sig} {i : Nat} (hi : i ≤ 8) (h : goodC s i = true) : OkS s ∧ takesC s i = true ∧ NeedsF s i = (sortS (needNs s i), true) := by
  have h' := h
  rw [goodC_at hi] at h
  simp only [Bool.and_eq_true] at h
  refine ⟨okSig_iff.1 h.1, h.2, ?_⟩
  unfold NeedsF
  rw [if_pos h']; simp

theorem com_not {a b : Sig} {i : Nat} (hi : i ≤ 8) (ha : okSig a = true) (hb : okSig b = true) (h : goodC a i = false ∨ goodC b i = false) : comOk a b i = false := by
  cases hc : comOk a b i with
  | false => rfl
  | true =>
    obtain ⟨h1, h2⟩ := com_takes (okSig_iff.1 ha) (okSig_iff.1 hb) hi hc
    rw [goodC_at hi, goodC_at hi, ha, hb, h1, h2] at h
    simp at h

theorem icommon_ct (a b : Sig) (ha : LenS a) (hb : LenS b) : ACalls pk 44 [.agg (eG a), .agg (eG b)] [] (fun r o => r = .tup [rX (CommonF a b).1, .one (.bool (CommonF a b).2)] ∧ o = oX (CommonF a b).1) := by
  refine acalls_of_body Tryz.func44 rfl (by kernel_rfl) rfl ?_
  refine rn rfl ?_
  refine goal_loop_keep (fun m σ => ∃ (q : Int) (i : Nat), q = i ∧ i ≤ 9 ∧ m = 9 - i ∧ (∀ j, j < i → okSig a = true → okSig b = true → comOk a b j = false) ∧
      σ = ⟨[(6, .one (.int .i64 q)), (4, .one (.op 2 0 0)), (3, .one (.op 1 0 0)), (2, .one (.op 0 0 0))], [some ⟨1, [eG a], false, false, true⟩, some ⟨1, [eG b], false, false, true⟩, some ⟨2, [[.int .i64 0, .fs []]], false, false, true⟩], []⟩) 9 [6, 4, 3, 2] [0, 1, 2] rfl
    ⟨_, 0, rfl, by omega, by omega, fun j hj => by omega, rfl⟩ ?_
  rintro m σ ⟨q, i, rfl, hi, rfl, hall, rfl⟩
  refine rn rfl ?_
  refine goal_cond rfl (fun h => ?_) (fun h => ?_) <;> (try simp only [gt_iff_lt, ge_iff_le, bne_iff_ne, ne_eq, bne_eq_false_iff_eq, beq_iff_eq, beq_eq_false_iff_ne, Bool.not_eq_true', Bool.not_eq_false', decide_eq_true_eq, decide_eq_false_iff_not, List.length_map] at h)
  · have hi8 : i ≤ 8 := by omega
    have next : (goodC a i = false ∨ goodC b i = false) → ∀ j, j < i + 1 → okSig a = true → okSig b = true → comOk a b j = false := fun hg j hj h1 h2 => by
      by_cases hji : j = i
      · subst hji; exact com_not hi8 h1 h2 hg
      · exact hall j (by omega) h1 h2
    refine rn rfl ?_
    refine goal_step (step_call [] rfl rfl rfl rfl rfl rfl (ineedsAtD_ct a i ha)) ?_
    rintro σ2 ⟨r, o', ⟨rfl, rfl⟩, hσ⟩
    obtain rfl := Option.some.inj hσ
    clear hσ
    refine rn rfl ?_
    refine goal_step (step_call [] rfl rfl rfl rfl rfl rfl (ineedsAtD_ct b i hb)) ?_
    rintro σ2 ⟨r, o', ⟨rfl, rfl⟩, hσ⟩
    obtain rfl := Option.some.inj hσ
    clear hσ
    refine rn rfl ?_
    rw [needsF_snd, needsF_snd]
    refine goal_guard rfl rfl rfl (fun h1 => ?_) (fun h1 => ?_) <;> (try simp only [gt_iff_lt, ge_iff_le, bne_iff_ne, ne_eq, bne_eq_false_iff_eq, beq_iff_eq, beq_eq_false_iff_ne, Bool.not_eq_true', Bool.not_eq_false', decide_eq_true_eq, decide_eq_false_iff_not, List.length_map] at h1)
    · refine rn rfl ?_
      refine round_keep (9 - (i + 1)) [6, 4, 3, 2] [0, 1, 2] (by omega) rfl ⟨_, i + 1, wrap64 (by omega) (by omega), by omega, rfl, next (.inl h1), rfl⟩
    refine rn rfl ?_
    refine goal_cond rfl (fun h2 => ?_) (fun h2 => ?_) <;> (try simp only [gt_iff_lt, ge_iff_le, bne_iff_ne, ne_eq, bne_eq_false_iff_eq, beq_iff_eq, beq_eq_false_iff_ne, Bool.not_eq_true', Bool.not_eq_false', decide_eq_true_eq, decide_eq_false_iff_not, List.length_map] at h2)
    · refine rn rfl ?_
      refine round_keep (9 - (i + 1)) [6, 4, 3, 2] [0, 1, 2] (by omega) rfl ⟨_, i + 1, wrap64 (by omega) (by omega), by omega, rfl, next (.inr h2), rfl⟩
    obtain ⟨oa, ta, na⟩ := needsF_good hi8 (by simpa using h1)
    obtain ⟨ob, tb, nb⟩ := needsF_good hi8 (by simpa using h2)
    have hx : LenX (comX a b i) := ⟨by have := comX_len oa ob i; omega, fun m hm => by have := (comX_names oa ob i m hm).2; omega⟩
    have hn1 := needNs_len a i
    have hn2 := needNs_len b i
    have hl1 := oa.len
    have hl2 := ob.len
    rw [na, nb]
    refine rn rfl ?_
    refine goal_step (step_call [] rfl rfl rfl rfl rfl rfl (iunionO_ct (sortS (needNs a i)) (sortS (needNs b i)) (by rw [sortS_length, sortS_length]; omega))) ?_
    rintro σ2 ⟨r, o', ⟨rfl, rfl⟩, hσ⟩
    obtain rfl := Option.some.inj hσ
    clear hσ
    refine rn rfl ?_
    refine rn rfl ?_
    have hac := iacceptsShape_ct a (comX a b i) ha hx
    have hbc := iacceptsShape_ct b (comX a b i) hb hx
    have hxe : (comX a b i).names = uniqS (sortS (needNs a i) ++ sortS (needNs b i)) := rfl
    have hxc : (comX a b i).count = (i : Int) := rfl
    rw [← hxe, ← hxc]
    refine goal_step (step_lendE [] rfl rfl rfl rfl rfl rfl rfl (congrArg (fun t => [T.agg (eG a), t]) (asX (comX a b i))) (hac) (by rintro r o ⟨rfl, rfl⟩; exact ⟨rfl, rfl⟩)) ?_
    rintro σ2 ⟨r, o', ⟨rfl, rfl⟩, hσ⟩
    obtain rfl := Option.some.inj hσ
    clear hσ
    refine rn rfl ?_
    refine goal_guard rfl rfl rfl (fun h3 => ?_) (fun h3 => ?_) <;> (try simp only [gt_iff_lt, ge_iff_le, bne_iff_ne, ne_eq, bne_eq_false_iff_eq, beq_iff_eq, beq_eq_false_iff_ne, Bool.not_eq_true', Bool.not_eq_false', decide_eq_true_eq, decide_eq_false_iff_not, List.length_map] at h3)
    · refine rn rfl ?_
      refine goal_step (step_lendE [] rfl rfl rfl rfl rfl rfl rfl (congrArg (fun t => [T.agg (eG b), t]) (asX (comX a b i))) (hbc) (by rintro r o ⟨rfl, rfl⟩; exact ⟨rfl, rfl⟩)) ?_
      rintro σ2 ⟨r, o', ⟨rfl, rfl⟩, hσ⟩
      obtain rfl := Option.some.inj hσ
      clear hσ
      refine rn rfl ?_
      refine goal_cond rfl (fun h4 => ?_) (fun h4 => ?_)
      · have hle : CommonF a b = (comX a b i, true) := common_at (okSig_iff.2 oa) (okSig_iff.2 ob) hi8 (fun j hj => hall j hj (okSig_iff.2 oa) (okSig_iff.2 ob)) (by simp [comOk, h3, h4])
        rw [hle]
        refine rn rfl (round_ret (fin_is [3] rfl ⟨rfl, rfl⟩))
      · refine rn rfl ?_
        refine round_keep (9 - (i + 1)) [6, 4, 3, 2] [0, 1, 2] (by omega) rfl ⟨_, i + 1, wrap64 (by omega) (by omega), by omega, rfl, fun j hj hs1 hs2 => ?_, rfl⟩
        by_cases hji : j = i
        · subst hji; simp [comOk, h4]
        · exact hall j (by omega) hs1 hs2
    · refine rn rfl ?_
      refine round_keep (9 - (i + 1)) [6, 4, 3, 2] [0, 1, 2] (by omega) rfl ⟨_, i + 1, wrap64 (by omega) (by omega), by omega, rfl, fun j hj hs1 hs2 => ?_, rfl⟩
      by_cases hji : j = i
      · subst hji; simp [comOk, h3]
      · exact hall j (by omega) hs1 hs2
  · refine rn rfl (round_ext ?_)
    have hle : CommonF a b = (⟨0, []⟩, false) := by
      cases hs : (okSig a && okSig b) with
      | false => exact common_bad hs
      | true =>
        simp only [Bool.and_eq_true] at hs
        exact common_none fun j hj => hall j (by omega) hs.1 hs.2
    rw [hle]
    refine rn rfl ?_
    exact fin_weak (Weak.adoptO 2 1 1) (fin_is [3] rfl ⟨rfl, rfl⟩)

theorem sneedsO_ct (s : Sig) (n : Nat) (hs : OkS s) (hn : n ≤ 8) : ACalls pk 107 [.agg (eG s), .one (.int .i64 n)] [] (fun r o => r = .one (.os 0 0 (needNs s n).length (needNs s n).length) ∧ o = [ownS (sortS (needNs s n))]) := by
  have hl := hs.len
  have hnl := needNs_len s n
  have hnd : (needNs s n).Nodup := hs.nodup.sublist (needNs_sub s n)
  refine acalls_of_body Tryz.func107 rfl (by kernel_rfl) rfl ?_
  refine rn rfl ?_
  refine goal_loop_keep (fun m σ => ∃ (q : Int) (i l : Nat) (acc : List Str), q = i ∧ i ≤ s.length ∧ m = s.length - i ∧ l = acc.length ∧ acc = needNs (s.take i) n ∧
      σ = ⟨[(6, .one (.int .i64 q)), (5, .one (.os 1 0 l l)), (2, .one (.op 0 0 0)), (1, .one (.int .i64 n))], [some ⟨1, [eG s], false, false, true⟩, ownS acc], []⟩) s.length [6, 5, 2, 1] [0, 1] rfl
    ⟨_, 0, 0, [], rfl, by omega, by omega, rfl, rfl, rfl⟩ ?_
  rintro m σ ⟨q, i, l, acc, rfl, hi, rfl, rfl, hacc, rfl⟩
  have hal := needNs_len (s.take i) n
  rw [← hacc, List.length_take] at hal
  refine rn rfl ?_
  refine goal_cond rfl (fun h => ?_) (fun h => ?_) <;> (try simp only [gt_iff_lt, ge_iff_le, bne_iff_ne, ne_eq, bne_eq_false_iff_eq, beq_iff_eq, beq_eq_false_iff_ne, Bool.not_eq_true', Bool.not_eq_false', decide_eq_true_eq, decide_eq_false_iff_not, List.length_map] at h)
  · obtain ⟨p, hp⟩ := at_some (xs := s) (i := i) (by omega)
    have hst := needNs_succ (n := n) hp
    rw [← hacc] at hst
    refine rn rfl ?_
    refine goal_did rfl rfl (dA_index (eQ p) rfl rfl rfl rfl rfl rfl rfl (by omega) (by (try simp); omega) (map_at (by simpa using hp)) rfl) ?_
    refine rn rfl ?_
    refine goal_step (step_call [] rfl rfl rfl rfl rfl rfl (open_ct p i n)) ?_
    rintro σ2 ⟨r, o', ⟨rfl, rfl⟩, hσ⟩
    obtain rfl := Option.some.inj hσ
    clear hσ
    refine rn rfl ?_
    refine goal_guard rfl rfl rfl (fun h1 => ?_) (fun h1 => ?_) <;> (try simp only [gt_iff_lt, ge_iff_le, bne_iff_ne, ne_eq, bne_eq_false_iff_eq, beq_iff_eq, beq_eq_false_iff_ne, Bool.not_eq_true', Bool.not_eq_false', decide_eq_true_eq, decide_eq_false_iff_not, List.length_map] at h1)
    · refine rn rfl ?_
      refine goal_did rfl rfl (dA_index (eQ p) rfl rfl rfl rfl rfl rfl rfl (by omega) (by (try simp); omega) (map_at (by simpa using hp)) rfl) ?_
      refine rn rfl ?_
      refine goal_cond rfl (fun h2 => ?_) (fun h2 => ?_) <;> (try simp only [gt_iff_lt, ge_iff_le, bne_iff_ne, ne_eq, bne_eq_false_iff_eq, beq_iff_eq, beq_eq_false_iff_ne, Bool.not_eq_true', Bool.not_eq_false', decide_eq_true_eq, decide_eq_false_iff_not, List.length_map] at h2)
      · refine rn rfl ?_
        refine goal_did rfl rfl (dA_index (eQ p) rfl rfl rfl rfl rfl rfl rfl (by omega) (by (try simp); omega) (map_at (by simpa using hp)) rfl) ?_
        refine rn rfl ?_
        refine goal_did rfl rfl (dA_append (old := (acc).map eS) (rows := ([p.name] : List Str).map eS) (((acc) ++ ([p.name] : List Str)).map eS) (acc.length + 1) true (Dst.own rfl rfl rfl rfl rfl (by first | (simp; done) | (simp; omega)) (whole (by first | (simp; done) | (simp; omega)))) (Src.os rfl rfl (Nat.le_refl 1) rfl) rfl rfl rfl rfl rfl rfl rfl rfl (rows_len eS_len _) (rows_len eS_len _) (by (try simp only [List.length_map, List.length_append, List.length_cons, List.length_nil, List.length_take, List.length_drop]); show _ * 16 ≤ _; omega) (by first | (simp; done) | (simp; omega)) (by simp) (by first | (simp; done) | (simp; omega)) (fun _ => noOwnR_map _ eS_noOwn _)) ?_
        refine rn rfl ?_
        refine round_keep (s.length - (i + 1)) [6, 5, 2, 1] [0, 3] (by omega) rfl ⟨_, i + 1, acc.length + 1, acc ++ [p.name], wrap64 (by omega) (by omega), by omega, rfl, by simp, by rw [hst]; simp [nedQ, h1, h2], rfl⟩
      · refine rn rfl ?_
        refine round_keep (s.length - (i + 1)) [6, 5, 2, 1] [0, 1] (by omega) rfl ⟨_, i + 1, acc.length, acc, wrap64 (by omega) (by omega), by omega, rfl, rfl, by rw [hst]; simp [nedQ, h1, h2], rfl⟩
    · refine rn rfl ?_
      refine round_keep (s.length - (i + 1)) [6, 5, 2, 1] [0, 1] (by omega) rfl ⟨_, i + 1, acc.length, acc, wrap64 (by omega) (by omega), by omega, rfl, rfl, by rw [hst]; simp [nedQ, h1], rfl⟩
  · refine rn rfl (round_ext ?_)
    have hfin : acc = needNs s n := by rw [hacc, show i = s.length by omega, List.take_length]
    rw [← hfin] at hnd hnl ⊢
    refine rn rfl ?_
    refine goal_step (step_callE [] rfl rfl rfl rfl rfl rfl (cons_eq (congrArg (fun x => T.one (C.fs x)) (takeAll eS acc _ rfl)) rfl) (sortedTextsO_ct acc hnd (by omega))) ?_
    rintro σ2 ⟨r, o', ⟨rfl, rfl⟩, hσ⟩
    obtain rfl := Option.some.inj hσ
    clear hσ
    refine rn rfl ?_
    exact rn rfl (fin_is [2] rfl ⟨rfl, rfl⟩)

theorem sneedsP_ct (s : Sig) (n : Nat) (hs : OkS s) (hn : n ≤ 8) : ACalls pk 107 [.agg (eG s), .one (.int .i64 n)] [] (fun r o => r = .one (.os 0 0 (sortS (needNs s n)).length (sortS (needNs s n)).length) ∧ o = [ownS (sortS (needNs s n))]) := by
  have h := sneedsO_ct s n hs hn
  rw [sortS_length]
  exact h

theorem scommon_ct (a b : Sig) (ha : LenS a) (hb : LenS b) : ACalls pk 45 [.agg (eG a), .agg (eG b)] [] (fun r o => r = .tup [.agg (eX (CommonF a b).1), .one (.bool (CommonF a b).2)] ∧ o = []) := by
  have htw : ACalls pk 105 [.agg (eG a), .agg (eG b)] [] (fun r o => r = .one (.bool (okSig a && okSig b)) ∧ o = []) := by
    obtain ⟨a1, a2⟩ := ha
    obtain ⟨b1, b2⟩ := hb
    refine acalls_of_body Tryz.func105 rfl (by kernel_rfl) rfl ?_
    refine rn rfl ?_
    refine goal_step (step_call [] rfl rfl rfl rfl rfl rfl (svalidSig_ct a (by omega) a2)) ?_
    rintro σ2 ⟨r, o', ⟨rfl, rfl⟩, hσ⟩
    obtain rfl := Option.some.inj hσ
    clear hσ
    refine rn rfl ?_
    refine goal_guard rfl rfl rfl (fun h1 => ?_) (fun h1 => ?_) <;> (try simp only [gt_iff_lt, ge_iff_le, bne_iff_ne, ne_eq, bne_eq_false_iff_eq, beq_iff_eq, beq_eq_false_iff_ne, Bool.not_eq_true', Bool.not_eq_false', decide_eq_true_eq, decide_eq_false_iff_not, List.length_map] at h1)
    · refine rn rfl ?_
      refine goal_step (step_call [] rfl rfl rfl rfl rfl rfl (svalidSig_ct b (by omega) b2)) ?_
      rintro σ2 ⟨r, o', ⟨rfl, rfl⟩, hσ⟩
      obtain rfl := Option.some.inj hσ
      clear hσ
      refine rn rfl ?_
      refine rn rfl (fin_is [] rfl ⟨?_, rfl⟩)
      simp [h1]
    · refine rn rfl (fin_is [] rfl ⟨?_, rfl⟩)
      simp [h1]
  refine acalls_of_body Tryz.func45 rfl (by kernel_rfl) rfl ?_
  refine rn rfl ?_
  refine goal_step (step_call [] rfl rfl rfl rfl rfl rfl (htw)) ?_
  rintro σ2 ⟨r, o', ⟨rfl, rfl⟩, hσ⟩
  obtain rfl := Option.some.inj hσ
  clear hσ
  refine rn rfl ?_
  refine goal_cond rfl (fun hs => ?_) (fun hs => ?_) <;> (try simp only [gt_iff_lt, ge_iff_le, bne_iff_ne, ne_eq, bne_eq_false_iff_eq, beq_iff_eq, beq_eq_false_iff_ne, Bool.not_eq_true', Bool.not_eq_false', decide_eq_true_eq, decide_eq_false_iff_not, List.length_map] at hs)
  · refine rn rfl (fin_is [] rfl ⟨?_, rfl⟩)
    rw [common_bad (by simpa using hs)]; rfl
  have hs' : okSig a = true ∧ okSig b = true := by simpa using hs
  have oa := okSig_iff.1 hs'.1
  have ob := okSig_iff.1 hs'.2
  have hl1 := oa.len
  have hl2 := ob.len
  refine rn rfl ?_
  refine goal_loop_keep (fun m σ => ∃ (q : Int) (i : Nat), q = i ∧ i ≤ 9 ∧ m = 9 - i ∧ (∀ j, j < i → comOk a b j = false) ∧
      σ = ⟨[(6, .one (.int .i64 q)), (4, .one (.op 2 0 0)), (3, .one (.op 1 0 0)), (2, .one (.op 0 0 0))], [some ⟨1, [eG a], false, false, true⟩, some ⟨1, [eG b], false, false, true⟩, some ⟨2, [[.int .i64 0, .fs []]], false, false, true⟩], []⟩) 9 [6, 4, 3, 2] [0, 1, 2] rfl
    ⟨_, 0, rfl, by omega, by omega, fun j hj => by omega, rfl⟩ ?_
  rintro m σ ⟨q, i, rfl, hi, rfl, hall, rfl⟩
  refine rn rfl ?_
  refine goal_cond rfl (fun h => ?_) (fun h => ?_) <;> (try simp only [gt_iff_lt, ge_iff_le, bne_iff_ne, ne_eq, bne_eq_false_iff_eq, beq_iff_eq, beq_eq_false_iff_ne, Bool.not_eq_true', Bool.not_eq_false', decide_eq_true_eq, decide_eq_false_iff_not, List.length_map] at h)
  · have hi8 : i ≤ 8 := by omega
    have hn1 := needNs_len a i
    have hn2 := needNs_len b i
    have hx : LenX (comX a b i) := ⟨by have := comX_len oa ob i; omega, fun m hm => by have := (comX_names oa ob i m hm).2; omega⟩
    refine rn rfl ?_
    have hA := sneedsP_ct a i oa hi8
    have hB := sneedsP_ct b i ob hi8
    have hdd : dedS (sortS (needNs a i) ++ sortS (needNs b i)) = (comX a b i).names := dedS_eq _
    have hAl : (sortS (needNs a i)).length ≤ 8 := by rw [sortS_length]; omega
    have hBl : (sortS (needNs b i)).length ≤ 8 := by rw [sortS_length]; omega
    generalize sortS (needNs a i) = A at *
    generalize sortS (needNs b i) = B at *
    refine goal_cut (fun σ' => σ' = ⟨[(7, .one (.op 3 0 0)), (6, .one (.int .i64 i)), (4, .one (.op 2 0 0)), (3, .one (.op 1 0 0)), (2, .one (.op 0 0 0))], [some ⟨1, [eG a], false, false, true⟩, some ⟨1, [eG b], false, false, true⟩, some ⟨2, [[.int .i64 0, .fs []]], false, false, true⟩, some ⟨2, [[.int .i64 i, .fs ((dedS (A ++ B)).map eS)]], false, false, true⟩], []⟩) ?_ ?_
    · refine goal_draw' [0, 1] 12 rfl ?_
      refine drn [0, 1, 2, 4, 5] (by kernel_rfl) (by kernel_rfl) rfl rfl ?_
      refine AH_two (i := 3) (j := 10) (by kernel_rfl) (step_call [] rfl rfl rfl rfl rfl rfl (hA)) (by simp) (step_did rfl rfl (dA_step rfl)) (mdOk rfl) ?_ ?_
      · rintro σ2 ⟨r, o', ⟨rfl, rfl⟩, hσ⟩
        obtain rfl := Option.some.inj hσ
        clear hσ
        refine AH_two (i := 6) (j := 10) (by kernel_rfl) (step_call [] rfl rfl rfl rfl rfl rfl (hB)) (by simp) (step_did rfl rfl (dA_step rfl)) (mdOk rfl) ?_ ?_
        · rintro σ2 ⟨r, o', ⟨rfl, rfl⟩, hσ⟩
          obtain rfl := Option.some.inj hσ
          clear hσ
          refine AH_two (i := 7) (j := 10) (by kernel_rfl) (step_did rfl rfl (dA_append (old := (A).map eS) (rows := (B : List Str).map eS) (((A) ++ (B : List Str)).map eS) (A.length + B.length) true (Dst.own rfl rfl rfl rfl rfl (by first | (simp; done) | (simp; omega)) (whole (by first | (simp; done) | (simp; omega)))) (Src.os rfl rfl (by simp) (by simp [List.take_of_length_le])) rfl rfl rfl rfl rfl rfl rfl rfl (rows_len eS_len _) (rows_len eS_len _) (by (try simp only [List.length_map, List.length_append, List.length_cons, List.length_nil, List.length_take, List.length_drop]); show _ * 16 ≤ _; omega) (by first | (simp; done) | (simp; omega)) (by simp) (by first | (simp; done) | (simp; omega)) (fun _ => noOwnR_map _ eS_noOwn _))) (mdOk rfl) (step_did rfl rfl (dA_step rfl)) (mdOk rfl) ?_ ?_
          · rintro _ rfl
            refine AH_two (i := 8) (j := 10) (by kernel_rfl) (step_callE [] rfl rfl rfl rfl rfl rfl (cons_eq (congrArg (fun x => T.one (C.fs x)) (takeAll eS (A ++ B) _ (by simp))) rfl) (sortedD_ct (A ++ B) (by simp only [List.length_append]; omega))) (by simp) (step_did rfl rfl (dA_step rfl)) (mdOk rfl) ?_ ?_
            · rintro σ2 ⟨r, o', ⟨rfl, rfl⟩, hσ⟩
              obtain rfl := Option.some.inj hσ
              clear hσ
              refine drn [9] (by kernel_rfl) (by kernel_rfl) rfl rfl ?_
              refine AH_oneDid 10 rfl (by kernel_rfl) rfl (dA_step rfl) (mdOk rfl) ?_
              refine AH_oneDid 11 rfl (by kernel_rfl) rfl (dA_step rfl) (mdOk rfl) ?_
              refine AH_end (by kernel_rfl) ?_
              refine rn rfl ?_
              exact cut_end [7, 6, 4, 3, 2] [0, 1, 2, 6] rfl rfl
            · rintro _ rfl
              refine AH_one (i := 8) (by kernel_rfl) (step_callE [] rfl rfl rfl rfl rfl rfl (cons_eq (congrArg (fun x => T.one (C.fs x)) (takeAll eS (A ++ B) _ (by simp))) rfl) (sortedD_ct (A ++ B) (by simp only [List.length_append]; omega))) (by simp) ?_
              rintro σ2 ⟨r, o', ⟨rfl, rfl⟩, hσ⟩
              obtain rfl := Option.some.inj hσ
              clear hσ
              refine drn [9] (by kernel_rfl) (by kernel_rfl) rfl rfl ?_
              refine AH_oneDid 11 rfl (by kernel_rfl) rfl (dA_step rfl) (mdOk rfl) ?_
              refine AH_end (by kernel_rfl) ?_
              refine rn rfl ?_
              exact cut_end [7, 6, 4, 3, 2] [0, 1, 2, 6] rfl rfl
          · rintro _ rfl
            refine AH_oneDid 7 rfl (by kernel_rfl) rfl (dA_append (old := (A).map eS) (rows := (B : List Str).map eS) (((A) ++ (B : List Str)).map eS) (A.length + B.length) true (Dst.own rfl rfl rfl rfl rfl (by first | (simp; done) | (simp; omega)) (whole (by first | (simp; done) | (simp; omega)))) (Src.os rfl rfl (by simp) (by simp [List.take_of_length_le])) rfl rfl rfl rfl rfl rfl rfl rfl (rows_len eS_len _) (rows_len eS_len _) (by (try simp only [List.length_map, List.length_append, List.length_cons, List.length_nil, List.length_take, List.length_drop]); show _ * 16 ≤ _; omega) (by first | (simp; done) | (simp; omega)) (by simp) (by first | (simp; done) | (simp; omega)) (fun _ => noOwnR_map _ eS_noOwn _)) (mdOk rfl) ?_
            refine AH_one (i := 8) (by kernel_rfl) (step_callE [] rfl rfl rfl rfl rfl rfl (cons_eq (congrArg (fun x => T.one (C.fs x)) (takeAll eS (A ++ B) _ (by simp))) rfl) (sortedD_ct (A ++ B) (by simp only [List.length_append]; omega))) (by simp) ?_
            rintro σ2 ⟨r, o', ⟨rfl, rfl⟩, hσ⟩
            obtain rfl := Option.some.inj hσ
            clear hσ
            refine drn [9] (by kernel_rfl) (by kernel_rfl) rfl rfl ?_
            refine AH_oneDid 11 rfl (by kernel_rfl) rfl (dA_step rfl) (mdOk rfl) ?_
            refine AH_end (by kernel_rfl) ?_
            refine rn rfl ?_
            exact cut_end [7, 6, 4, 3, 2] [0, 1, 2, 5] rfl rfl
        · rintro _ rfl
          refine AH_one (i := 6) (by kernel_rfl) (step_call [] rfl rfl rfl rfl rfl rfl (hB)) (by simp) ?_
          rintro σ2 ⟨r, o', ⟨rfl, rfl⟩, hσ⟩
          obtain rfl := Option.some.inj hσ
          clear hσ
          refine AH_oneDid 7 rfl (by kernel_rfl) rfl (dA_append (old := (A).map eS) (rows := (B : List Str).map eS) (((A) ++ (B : List Str)).map eS) (A.length + B.length) true (Dst.own rfl rfl rfl rfl rfl (by first | (simp; done) | (simp; omega)) (whole (by first | (simp; done) | (simp; omega)))) (Src.os rfl rfl (by simp) (by simp [List.take_of_length_le])) rfl rfl rfl rfl rfl rfl rfl rfl (rows_len eS_len _) (rows_len eS_len _) (by (try simp only [List.length_map, List.length_append, List.length_cons, List.length_nil, List.length_take, List.length_drop]); show _ * 16 ≤ _; omega) (by first | (simp; done) | (simp; omega)) (by simp) (by first | (simp; done) | (simp; omega)) (fun _ => noOwnR_map _ eS_noOwn _)) (mdOk rfl) ?_
          refine AH_one (i := 8) (by kernel_rfl) (step_callE [] rfl rfl rfl rfl rfl rfl (cons_eq (congrArg (fun x => T.one (C.fs x)) (takeAll eS (A ++ B) _ (by simp))) rfl) (sortedD_ct (A ++ B) (by simp only [List.length_append]; omega))) (by simp) ?_
          rintro σ2 ⟨r, o', ⟨rfl, rfl⟩, hσ⟩
          obtain rfl := Option.some.inj hσ
          clear hσ
          refine drn [9] (by kernel_rfl) (by kernel_rfl) rfl rfl ?_
          refine AH_oneDid 11 rfl (by kernel_rfl) rfl (dA_step rfl) (mdOk rfl) ?_
          refine AH_end (by kernel_rfl) ?_
          refine rn rfl ?_
          exact cut_end [7, 6, 4, 3, 2] [0, 1, 2, 4] rfl rfl
      · rintro _ rfl
        refine AH_one (i := 3) (by kernel_rfl) (step_call [] rfl rfl rfl rfl rfl rfl (hA)) (by simp) ?_
        rintro σ2 ⟨r, o', ⟨rfl, rfl⟩, hσ⟩
        obtain rfl := Option.some.inj hσ
        clear hσ
        refine AH_one (i := 6) (by kernel_rfl) (step_call [] rfl rfl rfl rfl rfl rfl (hB)) (by simp) ?_
        rintro σ2 ⟨r, o', ⟨rfl, rfl⟩, hσ⟩
        obtain rfl := Option.some.inj hσ
        clear hσ
        refine AH_oneDid 7 rfl (by kernel_rfl) rfl (dA_append (old := (A).map eS) (rows := (B : List Str).map eS) (((A) ++ (B : List Str)).map eS) (A.length + B.length) true (Dst.own rfl rfl rfl rfl rfl (by first | (simp; done) | (simp; omega)) (whole (by first | (simp; done) | (simp; omega)))) (Src.os rfl rfl (by simp) (by simp [List.take_of_length_le])) rfl rfl rfl rfl rfl rfl rfl rfl (rows_len eS_len _) (rows_len eS_len _) (by (try simp only [List.length_map, List.length_append, List.length_cons, List.length_nil, List.length_take, List.length_drop]); show _ * 16 ≤ _; omega) (by first | (simp; done) | (simp; omega)) (by simp) (by first | (simp; done) | (simp; omega)) (fun _ => noOwnR_map _ eS_noOwn _)) (mdOk rfl) ?_
        refine AH_one (i := 8) (by kernel_rfl) (step_callE [] rfl rfl rfl rfl rfl rfl (cons_eq (congrArg (fun x => T.one (C.fs x)) (takeAll eS (A ++ B) _ (by simp))) rfl) (sortedD_ct (A ++ B) (by simp only [List.length_append]; omega))) (by simp) ?_
        rintro σ2 ⟨r, o', ⟨rfl, rfl⟩, hσ⟩
        obtain rfl := Option.some.inj hσ
        clear hσ
        refine drn [9] (by kernel_rfl) (by kernel_rfl) rfl rfl ?_
        refine AH_oneDid 11 rfl (by kernel_rfl) rfl (dA_step rfl) (mdOk rfl) ?_
        refine AH_end (by kernel_rfl) ?_
        refine rn rfl ?_
        exact cut_end [7, 6, 4, 3, 2] [0, 1, 2, 3] rfl rfl
    rintro σ' rfl
    rw [hdd]
    have hxc : (comX a b i).count = (i : Int) := rfl
    have hsp := com_spec oa ob hi8
    have hlf : LenF (flatX (comX a b i)) := by
      have hx16 := comX_len oa ob i
      refine ⟨by simp only [flatX_places, hxc]; omega, by simp only [flatX, List.length_map]; omega, fun p hp => ?_⟩
      obtain ⟨n, hn, rfl⟩ := List.mem_map.1 hp
      exact hx.names n hn
    have hx16 := comX_len oa ob i
    have hfl := sflatOf_ct (comX a b i) i hxc (by omega) (by omega)
    have hfa := saccepts_ct a (flatX (comX a b i)) oa hlf
    have hfb := saccepts_ct b (flatX (comX a b i)) ob hlf
    have hbx : (C.int .i64 (i : Int)) = C.int .i64 (comX a b i).count := rfl
    refine rn rfl ?_
    refine goal_draw' [0, 1, 2, 3] 16 rfl ?_
    refine drn [0, 1, 2, 3, 4] (by kernel_rfl) (by kernel_rfl) rfl rfl ?_
    refine AH_guard (i := 5) rfl rfl rfl (fun h5 => ?_) (fun h5 => ?_) <;> (try simp only [gt_iff_lt, ge_iff_le, bne_iff_ne, ne_eq, bne_eq_false_iff_eq, beq_iff_eq, beq_eq_false_iff_ne, Bool.not_eq_true', Bool.not_eq_false', decide_eq_true_eq, decide_eq_false_iff_not, List.length_map] at h5)
    · have next : (accQ a (flatX (comX a b i)) && accQ b (flatX (comX a b i))) = false → ∀ j, j < i + 1 → comOk a b j = false := fun h0 j hj => by
        by_cases hji : j = i
        · subst hji; rw [hsp, h0, Bool.and_false]
        · exact hall j (by omega)
      refine drn [5, 6] (by kernel_rfl) (by kernel_rfl) rfl rfl ?_
      refine AH_one (i := 7) (by kernel_rfl) (step_call [] rfl rfl rfl rfl rfl rfl (hfl)) (by simp) ?_
      rintro σ2 ⟨r, o', ⟨rfl, rfl⟩, hσ⟩
      obtain rfl := Option.some.inj hσ
      clear hσ
      refine AH_one (i := 8) (by kernel_rfl) (step_call [] rfl rfl rfl rfl rfl rfl (hfa)) (by simp) ?_
      rintro σ2 ⟨r, o', ⟨rfl, rfl⟩, hσ⟩
      obtain rfl := Option.some.inj hσ
      clear hσ
      refine drn [9, 10] (by kernel_rfl) (by kernel_rfl) rfl rfl ?_
      refine AH_guard (i := 11) rfl rfl rfl (fun h6 => ?_) (fun h6 => ?_) <;> (try simp only [gt_iff_lt, ge_iff_le, bne_iff_ne, ne_eq, bne_eq_false_iff_eq, beq_iff_eq, beq_eq_false_iff_ne, Bool.not_eq_true', Bool.not_eq_false', decide_eq_true_eq, decide_eq_false_iff_not, List.length_map] at h6)
      · refine drn [11, 12] (by kernel_rfl) (by kernel_rfl) rfl rfl ?_
        refine AH_one (i := 13) (by kernel_rfl) (step_call [] rfl rfl rfl rfl rfl rfl (hfl)) (by simp) ?_
        rintro σ2 ⟨r, o', ⟨rfl, rfl⟩, hσ⟩
        obtain rfl := Option.some.inj hσ
        clear hσ
        refine AH_one (i := 14) (by kernel_rfl) (step_call [] rfl rfl rfl rfl rfl rfl (hfb)) (by simp) ?_
        rintro σ2 ⟨r, o', ⟨rfl, rfl⟩, hσ⟩
        obtain rfl := Option.some.inj hσ
        clear hσ
        refine drn [15] (by kernel_rfl) (by kernel_rfl) rfl rfl ?_
        refine AH_end (by kernel_rfl) ?_
        refine rn rfl ?_
        refine goal_cond rfl (fun h7 => ?_) (fun h7 => ?_)
        · have hle : CommonF a b = (comX a b i, true) := common_at hs'.1 hs'.2 hi8 hall (by rw [hsp, h6, h7]; simp; omega)
          rw [hle]
          refine rn rfl (round_ret (fin_is [] rfl ⟨rfl, rfl⟩))
        · refine rn rfl ?_
          refine round_keep (9 - (i + 1)) [6, 4, 3, 2] [0, 1, 2] (by omega) rfl ⟨_, i + 1, wrap64 (by omega) (by omega), by omega, rfl, next (by rw [h7, Bool.and_false]), rfl⟩
      · refine drn [11, 12, 13, 14, 15] (by kernel_rfl) (by kernel_rfl) rfl rfl ?_
        refine AH_end (by kernel_rfl) ?_
        refine rn rfl ?_
        refine rn rfl ?_
        refine round_keep (9 - (i + 1)) [6, 4, 3, 2] [0, 1, 2] (by omega) rfl ⟨_, i + 1, wrap64 (by omega) (by omega), by omega, rfl, next (by rw [h6, Bool.false_and]), rfl⟩
    · refine drn [5, 6, 7, 8, 9, 10, 11, 12, 13, 14, 15] (by kernel_rfl) (by kernel_rfl) rfl rfl ?_
      refine AH_end (by kernel_rfl) ?_
      refine rn rfl ?_
      refine rn rfl ?_
      refine round_keep (9 - (i + 1)) [6, 4, 3, 2] [0, 1, 2] (by omega) rfl ⟨_, i + 1, wrap64 (by omega) (by omega), by omega, rfl, fun j hj => ?_, rfl⟩
      by_cases hji : j = i
      · subst hji; rw [hsp, show decide ((comX a b j).names.length ≤ 8) = false by simp; omega, Bool.false_and]
      · exact hall j (by omega)
  · refine rn rfl (round_ext ?_)
    rw [common_none fun j hj => hall j (by omega)]
    exact rn rfl (fin_is [] rfl ⟨rfl, rfl⟩)

theorem common_len (a b : Sig) : (CommonF a b).1.names.length ≤ 8 := by
  cases h : (CommonF a b).2 with
  | true =>
    obtain ⟨i, oa, ob, hi, hok, he⟩ := common_ok h
    rw [he]
    unfold comOk at hok
    simp only [Bool.and_eq_true] at hok
    have := acc_okX hok.1
    rw [comX_ok oa ob hi] at this
    simpa using this
  | false =>
    unfold CommonF at h ⊢
    cases hs : (okSig a && okSig b) with
    | false => simp
    | true =>
      rw [hs] at h
      cases hl : (List.range 9).find? (comOk a b) with
      | none => simp
      | some n => rw [hl] at h; cases h

theorem tailRowsQ {t : Sig} {i : Nat} (h : i ≤ t.length) : (t.drop i).map eQ = List.take (t.length - i) (List.drop i (t.map eQ)) := by
  rw [List.map_drop, List.take_of_length_le (by simp)]

theorem ins_small {t : Sig} {j : Nat} {nm : Str} {w : Int} (ht : SmallS t) (h : nm ∈ ([[122], [119], [109]] : List Str)) : ∀ p ∈ t.take j ++ [⟨nm, w, false, 0⟩] ++ t.drop j, p.name.length ≤ 7 := by
  intro p hp
  simp only [List.mem_append, List.mem_singleton] at hp
  rcases hp with (hp | rfl) | hp
  · exact ht.names p (List.mem_of_mem_take hp)
  · simp only [List.mem_cons, List.not_mem_nil, or_false] at h
    rcases h with rfl | rfl | rfl <;> simp
  · exact ht.names p (List.mem_of_mem_drop hp)

theorem set2_small {t : Sig} {j : Nat} {p q : Param} (ht : SmallS t) (hpn : q.name.length ≤ 7) {b : Bool} {w d : Int} : ∀ x ∈ (t.set j p).set j ⟨q.name, w, b, d⟩, x.name.length ≤ 7 := by
  rw [List.set_set]
  exact (small_set ht (by exact hpn)).names

theorem near_ct (bs : Str) (k : Int) (s : Sig) (hs : SmallS s) (hb : bs.length ≤ 2000) (hk : 0 ≤ k) (hk' : k ≤ 1073700000) :
    ACalls pk 175 [.one (.op 0 0 0), .agg (eG s)] [oR bs k] (fun r o => ∃ t k', SmallS t ∧ k ≤ k' ∧ k' ≤ k + 30 ∧ r = .agg (eG t) ∧ o = [oR bs k']) := by
  have hsl := hs.len
  refine acalls_of_body Tryz.func175 rfl (by kernel_rfl) rfl ?_
  refine rn rfl ?_
  refine goal_step (step_call [] rfl rfl rfl rfl rfl rfl (copyParams_ct s (by omega))) ?_
  rintro σ2 ⟨r, o', ⟨rfl, rfl⟩, hσ⟩
  obtain rfl := Option.some.inj hσ
  clear hσ
  refine rn rfl ?_
  refine rn rfl ?_
  refine goal_step (step_callE [0] rfl rfl rfl rfl rfl rfl (rfl) (pick_ct bs k 2 hb (by omega) (by omega) (by omega))) ?_
  rintro σ2 ⟨r, o', ⟨⟨z, rfl, hz, _⟩, rfl⟩, hσ⟩
  obtain rfl := Option.some.inj hσ
  clear hσ
  refine rn rfl ?_
  have hz' := hz (by omega)
  have hw : IntKind.i64.wrap (1 + z) = 1 + z := wrap64 (by omega) (by omega)
  refine goal_loop_keepF (fun m σ => ∃ (q k1 : Int) (t : Sig) (rows : List (List C)), rows = t.map eQ ∧ m = q.toNat ∧ 0 ≤ q ∧ q ≤ 2 ∧ SmallS t ∧ k ≤ k1 ∧ k1 + 8 * q ≤ k + 20 ∧
      σ = ⟨[(6, .one (.int .i64 q)), (5, .one (.op 3 0 0)), (4, .one (.op 2 0 0)), (3, .one (.op 1 0 0)), (0, .one (.op 0 0 0))], [oR bs k1, some ⟨1, [eG s], false, false, true⟩, some ⟨1, [[.fs []]], false, false, true⟩, some ⟨1, [[.fs rows]], false, false, true⟩], []⟩) (1 + z).toNat [6, 5, 4, 3, 0] [1, 2, 4] [3] rfl rfl
    ⟨_, k + 1, s, _, takeAll eQ _ _ rfl, by rw [hw], by rw [hw]; omega, by rw [hw]; omega, hs, by omega, by rw [hw]; omega, rfl⟩ ?_
  rintro m σ ⟨q, k1, t, rows, rfl, rfl, hq0, hq2, ht, hk1, hk2, rfl⟩
  have htl := ht.len
  have hwq : 0 < q → IntKind.i64.wrap (q - 1) = q - 1 := fun h => wrap64 (by omega) (by omega)
  refine rn rfl ?_
  refine goal_cond rfl (fun h => ?_) (fun h => ?_) <;> (try simp only [gt_iff_lt, ge_iff_le, bne_iff_ne, ne_eq, bne_eq_false_iff_eq, beq_iff_eq, beq_eq_false_iff_ne, Bool.not_eq_true', Bool.not_eq_false', decide_eq_true_eq, decide_eq_false_iff_not, List.length_map] at h)
  · have hwl : IntKind.i64.wrap (((t.map eQ).length : Int) + 1) = t.length + 1 := by rw [List.length_map, wrap64 (by omega) (by omega)]
    refine rn rfl ?_
    refine goal_step (step_callE [0] rfl rfl rfl rfl rfl rfl (rfl) (pick_ct bs k1 (IntKind.i64.wrap (((t.map eQ).length : Int) + 1)) hb (by omega) (by omega) (by rw [hwl]; omega))) ?_
    rintro σ2 ⟨r, o', ⟨⟨y, rfl, hy, _⟩, rfl⟩, hσ⟩
    obtain rfl := Option.some.inj hσ
    clear hσ
    refine rn rfl ?_
    have hy' : 0 ≤ y ∧ y ≤ t.length := by have := hy (by rw [hwl]; omega); rw [hwl] at this; omega
    obtain ⟨j, rfl⟩ : ∃ j : Nat, y = j := ⟨y.toNat, by omega⟩
    refine goal_step (step_call [] rfl rfl rfl rfl rfl rfl (copyParams_ct t (by omega))) ?_
    rintro σ2 ⟨r, o', ⟨rfl, rfl⟩, hσ⟩
    obtain rfl := Option.some.inj hσ
    clear hσ
    refine rt 8 rfl ?_
    refine goal_cutR (fun σ' => ∃ (u : Sig) (rows' : List (List C)) (k2 : Int), rows' = u.map eQ ∧ u.length ≤ 9 ∧ (∀ p ∈ u, p.name.length ≤ 7) ∧ k1 + 1 ≤ k2 ∧ k2 ≤ k1 + 7 ∧ σ' = ⟨[(8, .one (.op 4 0 0)), (6, .one (.int .i64 q)), (5, .one (.op 3 0 0)), (4, .one (.op 2 0 0)), (3, .one (.op 1 0 0)), (0, .one (.op 0 0 0))],
      [oR bs k2, some ⟨1, [eG s], false, false, true⟩, some ⟨1, [[.fs []]], false, false, true⟩, some ⟨1, [eG t], false, false, true⟩, some ⟨1, [[.fs rows']], false, false, true⟩], []⟩) ?_ ?_
    · by_cases hj : j < t.length
      · obtain ⟨p, hp⟩ := at_some (xs := t) (i := j) hj
        have hpn := ht.names p (List.mem_of_getElem? hp)
        refine rn rfl ?_
        refine goal_guard rfl rfl rfl (fun _ => ?_) (fun h0 => by exfalso; simp at h0; omega)
        refine rn rfl ?_
        refine goal_step (step_callE [0] rfl rfl rfl rfl rfl rfl (rfl) (pick_ct bs (k1 + 1) 3 hb (by omega) (by omega) (by omega))) ?_
        rintro σ2 ⟨r, o', ⟨⟨z1, rfl, _, _⟩, rfl⟩, hσ⟩
        obtain rfl := Option.some.inj hσ
        clear hσ
        refine rn rfl ?_
        refine goal_cond rfl (fun c1 => ?_) (fun c1 => ?_) <;> (try simp only [gt_iff_lt, ge_iff_le, bne_iff_ne, ne_eq, bne_eq_false_iff_eq, beq_iff_eq, beq_eq_false_iff_ne, Bool.not_eq_true', Bool.not_eq_false', decide_eq_true_eq, decide_eq_false_iff_not, List.length_map] at c1)
        · have hp' : (t.set j ⟨p.name, p.kind, !p.hasD, p.dflt⟩)[j]? = some ⟨p.name, p.kind, !p.hasD, p.dflt⟩ := by rw [List.getElem?_set_self hj]
          refine rn rfl ?_
          refine goal_drawL [4, 5] [12] 13 rfl ?_
          refine drnL [0, 1, 2, 3, 4, 5] (by kernel_rfl) (by kernel_rfl) rfl rfl ?_
          refine AHL_did 6 rfl (by kernel_rfl) (by kernel_rfl) (by kernel_rfl) (by kernel_rfl) rfl rfl (dA_indexOwn rfl rfl rfl rfl rfl rfl rfl rfl rfl (by omega) (by (try simp); omega)) ?_
          refine AHL_did 7 rfl (by kernel_rfl) (by kernel_rfl) (by kernel_rfl) (by kernel_rfl) rfl rfl (dA_step rfl) ?_
          refine AHL_did 8 rfl (by kernel_rfl) (by kernel_rfl) (by kernel_rfl) (by kernel_rfl) rfl rfl (dA_loadEl (eQ p) rfl rfl rfl rfl (map_at (by simpa using hp)) rfl rfl rfl) ?_
          refine drnL [9] (by kernel_rfl) (by kernel_rfl) rfl rfl ?_
          refine AHL_did 10 rfl (by kernel_rfl) (by kernel_rfl) (by kernel_rfl) (by kernel_rfl) rfl rfl (dA_indexOwn rfl rfl rfl rfl rfl rfl rfl rfl rfl (by omega) (by (try simp); omega)) ?_
          refine AHL_did 11 rfl (by kernel_rfl) (by kernel_rfl) (by kernel_rfl) (by kernel_rfl) rfl rfl (dA_step rfl) ?_
          refine AHL_lateDid 12 rfl (by kernel_rfl) rfl rfl (dA_storeEl (eQ p) (((t).set j ⟨p.name, p.kind, !p.hasD, p.dflt⟩).map eQ) true rfl rfl rfl rfl rfl (map_at (by simpa using hp)) rfl rfl (by simp [eQ]) (by rw [map_set]; simp [patch, eQ, constC]) (fun _ => noOwnR_map _ eQ_noOwn _)) ?_
          refine AH_end (by kernel_rfl) ?_
          refine rn rfl ?_
          refine rn rfl ?_
          refine goal_did rfl rfl (dA_indexOwn rfl rfl rfl rfl rfl rfl rfl rfl rfl (by omega) (by (try simp); omega)) ?_
          refine goal_did rfl rfl (dA_step rfl) ?_
          refine goal_did rfl rfl (dA_storeEl (eQ ⟨p.name, p.kind, !p.hasD, p.dflt⟩) (((t.set j ⟨p.name, p.kind, !p.hasD, p.dflt⟩).set j ⟨p.name, p.kind, !p.hasD, 0⟩).map eQ) true rfl rfl rfl rfl rfl (map_at (by simpa using hp')) rfl rfl (by simp [eQ]) (by rw [map_set]; simp [patch, eQ, constC]) (fun _ => noOwnR_map _ eQ_noOwn _)) ?_
          refine rn rfl ?_
          exact cut_nrmF [8, 6, 5, 4, 3, 0] [1, 2, 3, 5] [4] rfl rfl ⟨(t.set j ⟨p.name, p.kind, !p.hasD, p.dflt⟩).set j ⟨p.name, p.kind, !p.hasD, 0⟩, _, k1 + 1 + 1, takeAll eQ _ _ (by simp), by simp; omega, set2_small ht hpn, by omega, by omega, rfl⟩
        · refine rn rfl ?_
          refine goal_guard rfl rfl rfl (fun _ => ?_) (fun h0 => by exfalso; simp at h0; omega)
          refine rn rfl ?_
          refine goal_step (step_callE [0] rfl rfl rfl rfl rfl rfl (rfl) (pick_ct bs (k1 + 1 + 1) 3 hb (by omega) (by omega) (by omega))) ?_
          rintro σ2 ⟨r, o', ⟨⟨z2, rfl, _, _⟩, rfl⟩, hσ⟩
          obtain rfl := Option.some.inj hσ
          clear hσ
          refine rn rfl ?_
          refine goal_cond rfl (fun c2 => ?_) (fun c2 => ?_) <;> (try simp only [gt_iff_lt, ge_iff_le, bne_iff_ne, ne_eq, bne_eq_false_iff_eq, beq_iff_eq, beq_eq_false_iff_ne, Bool.not_eq_true', Bool.not_eq_false', decide_eq_true_eq, decide_eq_false_iff_not, List.length_map] at c2)
          · refine rn rfl ?_
            refine goal_draw' [5] 8 rfl ?_
            refine drn [0, 1, 2, 3] (by kernel_rfl) (by kernel_rfl) rfl rfl ?_
            refine AH_one (i := 4) (by kernel_rfl) (step_callE [0] rfl rfl rfl rfl rfl rfl (rfl) (pick_ct bs (k1 + 1 + 1 + 1) 5 hb (by omega) (by omega) (by omega))) (by simp) ?_
            rintro σ2 ⟨r, o', ⟨⟨w, rfl, _, _⟩, rfl⟩, hσ⟩
            obtain rfl := Option.some.inj hσ
            clear hσ
            refine AH_did 5 rfl (by kernel_rfl) (by kernel_rfl) (by kernel_rfl) rfl rfl (dA_indexOwn rfl rfl rfl rfl rfl rfl rfl rfl rfl (by omega) (by (try simp); omega)) ?_
            refine AH_did 6 rfl (by kernel_rfl) (by kernel_rfl) (by kernel_rfl) rfl rfl (dA_step rfl) ?_
            refine AH_oneDid 7 rfl (by kernel_rfl) rfl (dA_storeEl (eQ p) (((t).set j ⟨p.name, w, p.hasD, p.dflt⟩).map eQ) true rfl rfl rfl rfl rfl (map_at (by simpa using hp)) rfl rfl (by simp [eQ]) (by rw [map_set]; simp [patch, eQ, constC]) (fun _ => noOwnR_map _ eQ_noOwn _)) (mdOk rfl) ?_
            refine AH_end (by kernel_rfl) ?_
            refine rn rfl ?_
            exact cut_nrmF [8, 6, 5, 4, 3, 0] [1, 2, 3, 5] [4] rfl rfl ⟨t.set j ⟨p.name, w, p.hasD, p.dflt⟩, _, k1 + 1 + 1 + 1 + 1, takeAll eQ _ _ (by simp), by simp; omega, (small_set ht (by exact hpn)).names, by omega, by omega, rfl⟩
          · refine rn rfl ?_
            refine goal_guard rfl rfl rfl (fun _ => ?_) (fun h0 => by exfalso; simp at h0; omega)
            refine rn rfl ?_
            refine goal_step (step_callE [0] rfl rfl rfl rfl rfl rfl (rfl) (pick_ct bs (k1 + 1 + 1 + 1) 2 hb (by omega) (by omega) (by omega))) ?_
            rintro σ2 ⟨r, o', ⟨⟨z3, rfl, _, _⟩, rfl⟩, hσ⟩
            obtain rfl := Option.some.inj hσ
            clear hσ
            refine rn rfl ?_
            refine goal_cond rfl (fun c3 => ?_) (fun c3 => ?_) <;> (try simp only [gt_iff_lt, ge_iff_le, bne_iff_ne, ne_eq, bne_eq_false_iff_eq, beq_iff_eq, beq_eq_false_iff_ne, Bool.not_eq_true', Bool.not_eq_false', decide_eq_true_eq, decide_eq_false_iff_not, List.length_map] at c3)
            · refine rn rfl ?_
              refine goal_drawL [4, 5] [12] 13 rfl ?_
              refine drnL [0, 1, 2, 5, 6, 7, 8] (by kernel_rfl) (by kernel_rfl) rfl rfl ?_
              refine AHL_did 3 rfl (by kernel_rfl) (by kernel_rfl) (by kernel_rfl) (by kernel_rfl) rfl rfl (dA_sliceOwn 0 j t.length 0 j t.length rfl rfl rfl rfl rfl rfl rfl Bnd.none_ (Bnd.some_ rfl rfl) (.inl ⟨rfl, rfl⟩) (by omega) (by omega) (Nat.le_refl _) (by simp <;> omega) rfl (by omega) (by omega) (by omega)) ?_
              refine AHL_did 9 rfl (by kernel_rfl) (by kernel_rfl) (by kernel_rfl) (by kernel_rfl) rfl rfl (dA_sliceOwn (j + 1) t.length t.length (j + 1) (t.length - (j + 1)) (t.length - (j + 1)) rfl rfl rfl rfl rfl rfl rfl (Bnd.some_ rfl (by rw [wrap64 (by omega) (by omega)]; omega)) Bnd.none_ (.inl ⟨rfl, rfl⟩) (by omega) (by omega) (Nat.le_refl _) (by simp <;> omega) rfl (by omega) (by omega) (by omega)) ?_
              refine AHL_one (i := 4) (by kernel_rfl) rfl (step_lendE [] rfl rfl rfl rfl rfl rfl rfl (cons_eq (congrArg (fun x => T.one (C.fs x)) (by rw [List.drop_zero, List.map_take])) rfl) (copyParams_ct (t.take j) (by simp; omega)) (by rintro r o ⟨rfl, rfl⟩; exact ⟨rfl, oG_noFz' _⟩)) (by simp) ?_
              rintro σ2 ⟨r, o', ⟨rfl, rfl⟩, hσ⟩
              obtain rfl := Option.some.inj hσ
              clear hσ
              refine AHL_oneDid 10 rfl (by kernel_rfl) rfl rfl ((dA_append (old := (t.take j).map eQ) (rows := (t.drop (j + 1)).map eQ) ((t.take j ++ t.drop (j + 1)).map eQ) ((t.take j).length + (t.drop (j + 1)).length) true (Dst.own rfl rfl rfl rfl rfl (by simp <;> omega) (whole (by simp <;> omega))) (Src.os rfl rfl (by simp <;> omega) (tailRowsQ (by omega))) rfl rfl rfl rfl rfl rfl rfl rfl (rows_len eQ_len _) (rows_len eQ_len _) (by simp only [List.length_map, List.length_append, List.length_take, List.length_drop, List.length_cons, List.length_nil]; show _ * 40 ≤ _; omega) (by simp <;> omega) (by simp) (by simp <;> omega) (fun _ => noOwnR_map _ eQ_noOwn _))) (mdOk rfl) ?_
              refine drnL [11] (by kernel_rfl) (by kernel_rfl) rfl rfl ?_
              refine AHL_lateDid 12 rfl (by kernel_rfl) rfl rfl (dA_step rfl) ?_
              refine AH_end (by kernel_rfl) ?_
              refine rn rfl ?_
              exact cut_nrmF [8, 6, 5, 4, 3, 0] [1, 2, 3, 5] [7] rfl rfl ⟨t.take j ++ t.drop (j + 1), _, k1 + 1 + 1 + 1 + 1, takeAll eQ _ _ (by simp), by simp; omega, fun q hq => by
                rcases List.mem_append.1 hq with hq | hq
                · exact ht.names q (List.mem_of_mem_take hq)
                · exact ht.names q (List.mem_of_mem_drop hq), by omega, by omega, rfl⟩
            · refine rn rfl ?_
              refine goal_drawL [4, 5] [19] 20 rfl ?_
              refine drnL [0, 1, 2, 5, 8, 13, 14, 15] (by kernel_rfl) (by kernel_rfl) rfl rfl ?_
              refine AHL_did 3 rfl (by kernel_rfl) (by kernel_rfl) (by kernel_rfl) (by kernel_rfl) rfl rfl (dA_sliceOwn 0 j t.length 0 j t.length rfl rfl rfl rfl rfl rfl rfl Bnd.none_ (Bnd.some_ rfl rfl) (.inl ⟨rfl, rfl⟩) (by omega) (by omega) (Nat.le_refl _) (by simp <;> omega) rfl (by omega) (by omega) (by omega)) ?_
              refine AHL_did 16 rfl (by kernel_rfl) (by kernel_rfl) (by kernel_rfl) (by kernel_rfl) rfl rfl (dA_sliceOwn j t.length t.length j (t.length - j) (t.length - j) rfl rfl rfl rfl rfl rfl rfl (Bnd.some_ rfl rfl) Bnd.none_ (.inl ⟨rfl, rfl⟩) (by omega) (by omega) (Nat.le_refl _) (by simp <;> omega) rfl (by omega) (by omega) (by omega)) ?_
              refine AHL_two (i := 4) (j := 6) (by kernel_rfl) rfl rfl (step_lendE [] rfl rfl rfl rfl rfl rfl rfl (cons_eq (congrArg (fun x => T.one (C.fs x)) (by rw [List.drop_zero, List.map_take])) rfl) (copyParams_ct (t.take j) (by simp; omega)) (by rintro r o ⟨rfl, rfl⟩; exact ⟨rfl, oG_noFz' _⟩)) (by simp) (step_did rfl rfl (dA_step rfl)) (mdOk rfl) ?_ ?_
              · rintro σ2 ⟨r, o', ⟨rfl, rfl⟩, hσ⟩
                obtain rfl := Option.some.inj hσ
                clear hσ
                refine AHL_oneDid 6 rfl (by kernel_rfl) rfl rfl (dA_step rfl) (mdOk rfl) ?_
                refine AHL_one (i := 7) (by kernel_rfl) rfl (step_callE [0] rfl rfl rfl rfl rfl rfl (rfl) (of_ct bs (k1 + 1 + 1 + 1 + 1) [[122], [119], [109]] hb (by omega) (by omega) (by decide) (by decide))) (by simp) ?_
                rintro σ2 ⟨r, o', ⟨⟨nm, hnm, rfl⟩, rfl⟩, hσ⟩
                obtain rfl := Option.some.inj hσ
                clear hσ
                refine AHL_one (i := 9) (by kernel_rfl) rfl (step_callE [0] rfl rfl rfl rfl rfl rfl (rfl) (pick_ct bs (k1 + 1 + 1 + 1 + 1 + 1) 5 hb (by omega) (by omega) (by omega))) (by simp) ?_
                rintro σ2 ⟨r, o', ⟨⟨w, rfl, _, _⟩, rfl⟩, hσ⟩
                obtain rfl := Option.some.inj hσ
                clear hσ
                refine drnL [10] (by kernel_rfl) (by kernel_rfl) rfl rfl ?_
                refine AHL_oneDid 11 rfl (by kernel_rfl) rfl rfl (dA_step rfl) (mdOk rfl) ?_
                refine AHL_oneDid 12 rfl (by kernel_rfl) rfl rfl (dA_append (old := (t.take j).map eQ) (rows := ([⟨nm, w, false, 0⟩] : List Param).map eQ) (((t.take j) ++ ([⟨nm, w, false, 0⟩] : List Param)).map eQ) ((t.take j).length + 1) true (Dst.own rfl rfl rfl rfl rfl (by first | (simp; done) | (simp; omega)) (whole (by first | (simp; done) | (simp; omega)))) (Src.os rfl rfl (Nat.le_refl 1) rfl) rfl rfl rfl rfl rfl rfl rfl rfl (rows_len eQ_len _) (rows_len eQ_len _) (by (try simp only [List.length_map, List.length_append, List.length_cons, List.length_nil, List.length_take, List.length_drop]); show _ * 40 ≤ _; omega) (by first | (simp; done) | (simp; omega)) (by simp) (by first | (simp; done) | (simp; omega)) (fun _ => noOwnR_map _ eQ_noOwn _)) (mdOk rfl) ?_
                refine AHL_oneDid 17 rfl (by kernel_rfl) rfl rfl ((dA_append (old := (t.take j ++ [(⟨nm, w, false, 0⟩ : Param)]).map eQ) (rows := (t.drop j).map eQ) ((t.take j ++ [(⟨nm, w, false, 0⟩ : Param)] ++ t.drop j).map eQ) (t.length + 1) true (Dst.own rfl rfl rfl rfl rfl (by simp <;> omega) (whole (by simp <;> omega))) (Src.os rfl rfl (by simp <;> omega) (tailRowsQ (by omega))) rfl rfl rfl rfl rfl rfl rfl rfl (rows_len eQ_len _) (rows_len eQ_len _) (by simp only [List.length_map, List.length_append, List.length_take, List.length_drop, List.length_cons, List.length_nil]; show _ * 40 ≤ _; omega) (by simp <;> omega) (by simp) (by simp <;> omega) (fun _ => noOwnR_map _ eQ_noOwn _))) (mdOk rfl) ?_
                refine drnL [18] (by kernel_rfl) (by kernel_rfl) rfl rfl ?_
                refine AHL_lateDid 19 rfl (by kernel_rfl) rfl rfl (dA_step rfl) ?_
                refine AH_end (by kernel_rfl) ?_
                refine rn rfl ?_
                exact cut_nrmF [8, 6, 5, 4, 3, 0] [1, 2, 3, 5] [10] rfl rfl ⟨t.take j ++ [⟨nm, w, false, 0⟩] ++ t.drop j, _, k1 + 1 + 1 + 1 + 1 + 1 + 1, takeAll eQ _ _ (by simp; omega), by simp; omega, ins_small ht hnm, by omega, by omega, rfl⟩
              · rintro _ rfl
                refine AHL_one (i := 4) (by kernel_rfl) rfl (step_lendE [] rfl rfl rfl rfl rfl rfl rfl (cons_eq (congrArg (fun x => T.one (C.fs x)) (by rw [List.drop_zero, List.map_take])) rfl) (copyParams_ct (t.take j) (by simp; omega)) (by rintro r o ⟨rfl, rfl⟩; exact ⟨rfl, oG_noFz' _⟩)) (by simp) ?_
                rintro σ2 ⟨r, o', ⟨rfl, rfl⟩, hσ⟩
                obtain rfl := Option.some.inj hσ
                clear hσ
                refine AHL_one (i := 7) (by kernel_rfl) rfl (step_callE [0] rfl rfl rfl rfl rfl rfl (rfl) (of_ct bs (k1 + 1 + 1 + 1 + 1) [[122], [119], [109]] hb (by omega) (by omega) (by decide) (by decide))) (by simp) ?_
                rintro σ2 ⟨r, o', ⟨⟨nm, hnm, rfl⟩, rfl⟩, hσ⟩
                obtain rfl := Option.some.inj hσ
                clear hσ
                refine AHL_one (i := 9) (by kernel_rfl) rfl (step_callE [0] rfl rfl rfl rfl rfl rfl (rfl) (pick_ct bs (k1 + 1 + 1 + 1 + 1 + 1) 5 hb (by omega) (by omega) (by omega))) (by simp) ?_
                rintro σ2 ⟨r, o', ⟨⟨w, rfl, _, _⟩, rfl⟩, hσ⟩
                obtain rfl := Option.some.inj hσ
                clear hσ
                refine drnL [10] (by kernel_rfl) (by kernel_rfl) rfl rfl ?_
                refine AHL_oneDid 11 rfl (by kernel_rfl) rfl rfl (dA_step rfl) (mdOk rfl) ?_
                refine AHL_oneDid 12 rfl (by kernel_rfl) rfl rfl (dA_append (old := (t.take j).map eQ) (rows := ([⟨nm, w, false, 0⟩] : List Param).map eQ) (((t.take j) ++ ([⟨nm, w, false, 0⟩] : List Param)).map eQ) ((t.take j).length + 1) true (Dst.own rfl rfl rfl rfl rfl (by first | (simp; done) | (simp; omega)) (whole (by first | (simp; done) | (simp; omega)))) (Src.os rfl rfl (Nat.le_refl 1) rfl) rfl rfl rfl rfl rfl rfl rfl rfl (rows_len eQ_len _) (rows_len eQ_len _) (by (try simp only [List.length_map, List.length_append, List.length_cons, List.length_nil, List.length_take, List.length_drop]); show _ * 40 ≤ _; omega) (by first | (simp; done) | (simp; omega)) (by simp) (by first | (simp; done) | (simp; omega)) (fun _ => noOwnR_map _ eQ_noOwn _)) (mdOk rfl) ?_
                refine AHL_oneDid 17 rfl (by kernel_rfl) rfl rfl ((dA_append (old := (t.take j ++ [(⟨nm, w, false, 0⟩ : Param)]).map eQ) (rows := (t.drop j).map eQ) ((t.take j ++ [(⟨nm, w, false, 0⟩ : Param)] ++ t.drop j).map eQ) (t.length + 1) true (Dst.own rfl rfl rfl rfl rfl (by simp <;> omega) (whole (by simp <;> omega))) (Src.os rfl rfl (by simp <;> omega) (tailRowsQ (by omega))) rfl rfl rfl rfl rfl rfl rfl rfl (rows_len eQ_len _) (rows_len eQ_len _) (by simp only [List.length_map, List.length_append, List.length_take, List.length_drop, List.length_cons, List.length_nil]; show _ * 40 ≤ _; omega) (by simp <;> omega) (by simp) (by simp <;> omega) (fun _ => noOwnR_map _ eQ_noOwn _))) (mdOk rfl) ?_
                refine drnL [18] (by kernel_rfl) (by kernel_rfl) rfl rfl ?_
                refine AHL_lateDid 19 rfl (by kernel_rfl) rfl rfl (dA_step rfl) ?_
                refine AH_end (by kernel_rfl) ?_
                refine rn rfl ?_
                exact cut_nrmF [8, 6, 5, 4, 3, 0] [1, 2, 3, 5] [10] rfl rfl ⟨t.take j ++ [⟨nm, w, false, 0⟩] ++ t.drop j, _, k1 + 1 + 1 + 1 + 1 + 1 + 1, takeAll eQ _ _ (by simp; omega), by simp; omega, ins_small ht hnm, by omega, by omega, rfl⟩
      · have hjl : j = t.length := by omega
        refine rn rfl ?_
        refine goal_guard rfl rfl rfl (fun h0 => by exfalso; simp at h0; omega) (fun _ => ?_)
        refine rn rfl ?_
        refine goal_guard rfl rfl rfl (fun h0 => by exfalso; simp at h0; omega) (fun _ => ?_)
        refine rn rfl ?_
        refine goal_guard rfl rfl rfl (fun h0 => by exfalso; simp at h0; omega) (fun _ => ?_)
        refine rn rfl ?_
        refine goal_drawL [4, 5] [19] 20 rfl ?_
        refine drnL [0, 1, 2, 5, 8, 13, 14, 15] (by kernel_rfl) (by kernel_rfl) rfl rfl ?_
        refine AHL_did 3 rfl (by kernel_rfl) (by kernel_rfl) (by kernel_rfl) (by kernel_rfl) rfl rfl (dA_sliceOwn 0 j t.length 0 j t.length rfl rfl rfl rfl rfl rfl rfl Bnd.none_ (Bnd.some_ rfl rfl) (.inl ⟨rfl, rfl⟩) (by omega) (by omega) (Nat.le_refl _) (by simp <;> omega) rfl (by omega) (by omega) (by omega)) ?_
        refine AHL_did 16 rfl (by kernel_rfl) (by kernel_rfl) (by kernel_rfl) (by kernel_rfl) rfl rfl (dA_sliceOwn j t.length t.length j (t.length - j) (t.length - j) rfl rfl rfl rfl rfl rfl rfl (Bnd.some_ rfl rfl) Bnd.none_ (.inl ⟨rfl, rfl⟩) (by omega) (by omega) (Nat.le_refl _) (by simp <;> omega) rfl (by omega) (by omega) (by omega)) ?_
        refine AHL_two (i := 4) (j := 6) (by kernel_rfl) rfl rfl (step_lendE [] rfl rfl rfl rfl rfl rfl rfl (cons_eq (congrArg (fun x => T.one (C.fs x)) (by rw [List.drop_zero, List.map_take])) rfl) (copyParams_ct (t.take j) (by simp; omega)) (by rintro r o ⟨rfl, rfl⟩; exact ⟨rfl, oG_noFz' _⟩)) (by simp) (step_did rfl rfl (dA_step rfl)) (mdOk rfl) ?_ ?_
        · rintro σ2 ⟨r, o', ⟨rfl, rfl⟩, hσ⟩
          obtain rfl := Option.some.inj hσ
          clear hσ
          refine AHL_oneDid 6 rfl (by kernel_rfl) rfl rfl (dA_step rfl) (mdOk rfl) ?_
          refine AHL_one (i := 7) (by kernel_rfl) rfl (step_callE [0] rfl rfl rfl rfl rfl rfl (rfl) (of_ct bs (k1 + 1) [[122], [119], [109]] hb (by omega) (by omega) (by decide) (by decide))) (by simp) ?_
          rintro σ2 ⟨r, o', ⟨⟨nm, hnm, rfl⟩, rfl⟩, hσ⟩
          obtain rfl := Option.some.inj hσ
          clear hσ
          refine AHL_one (i := 9) (by kernel_rfl) rfl (step_callE [0] rfl rfl rfl rfl rfl rfl (rfl) (pick_ct bs (k1 + 1 + 1) 5 hb (by omega) (by omega) (by omega))) (by simp) ?_
          rintro σ2 ⟨r, o', ⟨⟨w, rfl, _, _⟩, rfl⟩, hσ⟩
          obtain rfl := Option.some.inj hσ
          clear hσ
          refine drnL [10] (by kernel_rfl) (by kernel_rfl) rfl rfl ?_
          refine AHL_oneDid 11 rfl (by kernel_rfl) rfl rfl (dA_step rfl) (mdOk rfl) ?_
          refine AHL_oneDid 12 rfl (by kernel_rfl) rfl rfl (dA_append (old := (t.take j).map eQ) (rows := ([⟨nm, w, false, 0⟩] : List Param).map eQ) (((t.take j) ++ ([⟨nm, w, false, 0⟩] : List Param)).map eQ) ((t.take j).length + 1) true (Dst.own rfl rfl rfl rfl rfl (by first | (simp; done) | (simp; omega)) (whole (by first | (simp; done) | (simp; omega)))) (Src.os rfl rfl (Nat.le_refl 1) rfl) rfl rfl rfl rfl rfl rfl rfl rfl (rows_len eQ_len _) (rows_len eQ_len _) (by (try simp only [List.length_map, List.length_append, List.length_cons, List.length_nil, List.length_take, List.length_drop]); show _ * 40 ≤ _; omega) (by first | (simp; done) | (simp; omega)) (by simp) (by first | (simp; done) | (simp; omega)) (fun _ => noOwnR_map _ eQ_noOwn _)) (mdOk rfl) ?_
          refine AHL_oneDid 17 rfl (by kernel_rfl) rfl rfl ((dA_append (old := (t.take j ++ [(⟨nm, w, false, 0⟩ : Param)]).map eQ) (rows := (t.drop j).map eQ) ((t.take j ++ [(⟨nm, w, false, 0⟩ : Param)] ++ t.drop j).map eQ) (t.length + 1) true (Dst.own rfl rfl rfl rfl rfl (by simp <;> omega) (whole (by simp <;> omega))) (Src.os rfl rfl (by simp <;> omega) (tailRowsQ (by omega))) rfl rfl rfl rfl rfl rfl rfl rfl (rows_len eQ_len _) (rows_len eQ_len _) (by simp only [List.length_map, List.length_append, List.length_take, List.length_drop, List.length_cons, List.length_nil]; show _ * 40 ≤ _; omega) (by simp <;> omega) (by simp) (by simp <;> omega) (fun _ => noOwnR_map _ eQ_noOwn _))) (mdOk rfl) ?_
          refine drnL [18] (by kernel_rfl) (by kernel_rfl) rfl rfl ?_
          refine AHL_lateDid 19 rfl (by kernel_rfl) rfl rfl (dA_step rfl) ?_
          refine AH_end (by kernel_rfl) ?_
          refine rn rfl ?_
          exact cut_nrmF [8, 6, 5, 4, 3, 0] [1, 2, 3, 5] [10] rfl rfl ⟨t.take j ++ [⟨nm, w, false, 0⟩] ++ t.drop j, _, k1 + 1 + 1 + 1, takeAll eQ _ _ (by simp; omega), by simp; omega, ins_small ht hnm, by omega, by omega, rfl⟩
        · rintro _ rfl
          refine AHL_one (i := 4) (by kernel_rfl) rfl (step_lendE [] rfl rfl rfl rfl rfl rfl rfl (cons_eq (congrArg (fun x => T.one (C.fs x)) (by rw [List.drop_zero, List.map_take])) rfl) (copyParams_ct (t.take j) (by simp; omega)) (by rintro r o ⟨rfl, rfl⟩; exact ⟨rfl, oG_noFz' _⟩)) (by simp) ?_
          rintro σ2 ⟨r, o', ⟨rfl, rfl⟩, hσ⟩
          obtain rfl := Option.some.inj hσ
          clear hσ
          refine AHL_one (i := 7) (by kernel_rfl) rfl (step_callE [0] rfl rfl rfl rfl rfl rfl (rfl) (of_ct bs (k1 + 1) [[122], [119], [109]] hb (by omega) (by omega) (by decide) (by decide))) (by simp) ?_
          rintro σ2 ⟨r, o', ⟨⟨nm, hnm, rfl⟩, rfl⟩, hσ⟩
          obtain rfl := Option.some.inj hσ
          clear hσ
          refine AHL_one (i := 9) (by kernel_rfl) rfl (step_callE [0] rfl rfl rfl rfl rfl rfl (rfl) (pick_ct bs (k1 + 1 + 1) 5 hb (by omega) (by omega) (by omega))) (by simp) ?_
          rintro σ2 ⟨r, o', ⟨⟨w, rfl, _, _⟩, rfl⟩, hσ⟩
          obtain rfl := Option.some.inj hσ
          clear hσ
          refine drnL [10] (by kernel_rfl) (by kernel_rfl) rfl rfl ?_
          refine AHL_oneDid 11 rfl (by kernel_rfl) rfl rfl (dA_step rfl) (mdOk rfl) ?_
          refine AHL_oneDid 12 rfl (by kernel_rfl) rfl rfl (dA_append (old := (t.take j).map eQ) (rows := ([⟨nm, w, false, 0⟩] : List Param).map eQ) (((t.take j) ++ ([⟨nm, w, false, 0⟩] : List Param)).map eQ) ((t.take j).length + 1) true (Dst.own rfl rfl rfl rfl rfl (by first | (simp; done) | (simp; omega)) (whole (by first | (simp; done) | (simp; omega)))) (Src.os rfl rfl (Nat.le_refl 1) rfl) rfl rfl rfl rfl rfl rfl rfl rfl (rows_len eQ_len _) (rows_len eQ_len _) (by (try simp only [List.length_map, List.length_append, List.length_cons, List.length_nil, List.length_take, List.length_drop]); show _ * 40 ≤ _; omega) (by first | (simp; done) | (simp; omega)) (by simp) (by first | (simp; done) | (simp; omega)) (fun _ => noOwnR_map _ eQ_noOwn _)) (mdOk rfl) ?_
          refine AHL_oneDid 17 rfl (by kernel_rfl) rfl rfl ((dA_append (old := (t.take j ++ [(⟨nm, w, false, 0⟩ : Param)]).map eQ) (rows := (t.drop j).map eQ) ((t.take j ++ [(⟨nm, w, false, 0⟩ : Param)] ++ t.drop j).map eQ) (t.length + 1) true (Dst.own rfl rfl rfl rfl rfl (by simp <;> omega) (whole (by simp <;> omega))) (Src.os rfl rfl (by simp <;> omega) (tailRowsQ (by omega))) rfl rfl rfl rfl rfl rfl rfl rfl (rows_len eQ_len _) (rows_len eQ_len _) (by simp only [List.length_map, List.length_append, List.length_take, List.length_drop, List.length_cons, List.length_nil]; show _ * 40 ≤ _; omega) (by simp <;> omega) (by simp) (by simp <;> omega) (fun _ => noOwnR_map _ eQ_noOwn _))) (mdOk rfl) ?_
          refine drnL [18] (by kernel_rfl) (by kernel_rfl) rfl rfl ?_
          refine AHL_lateDid 19 rfl (by kernel_rfl) rfl rfl (dA_step rfl) ?_
          refine AH_end (by kernel_rfl) ?_
          refine rn rfl ?_
          exact cut_nrmF [8, 6, 5, 4, 3, 0] [1, 2, 3, 5] [10] rfl rfl ⟨t.take j ++ [⟨nm, w, false, 0⟩] ++ t.drop j, _, k1 + 1 + 1 + 1, takeAll eQ _ _ (by simp; omega), by simp; omega, ins_small ht hnm, by omega, by omega, rfl⟩
    rintro _ ⟨u, rows', k2, rfl, hul, hun, hk3, hk4, rfl⟩
    refine rn rfl ?_
    refine goal_step (step_call [] rfl rfl rfl rfl rfl rfl (svalidSig_ct u (by omega) (fun p hp => by have := hun p hp; omega))) ?_
    rintro σ2 ⟨r, o', ⟨rfl, rfl⟩, hσ⟩
    obtain rfl := Option.some.inj hσ
    clear hσ
    refine rn rfl ?_
    refine goal_cond rfl (fun hv => ?_) (fun hv => ?_) <;> (try simp only [gt_iff_lt, ge_iff_le, bne_iff_ne, ne_eq, bne_eq_false_iff_eq, beq_iff_eq, beq_eq_false_iff_ne, Bool.not_eq_true', Bool.not_eq_false', decide_eq_true_eq, decide_eq_false_iff_not, List.length_map] at hv)
    · have hu := (okSig_iff.1 hv).small
      refine rn rfl ?_
      refine round_keep (q - 1).toNat [6, 5, 4, 3, 0] [1, 2, 3] (by omega) rfl ⟨_, k2, u, _, rfl, by rw [hwq (by omega)], by rw [hwq (by omega)]; omega, by rw [hwq (by omega)]; omega, hu, by omega, by rw [hwq (by omega)]; omega, rfl⟩
    · refine rn rfl ?_
      refine round_keep (q - 1).toNat [6, 5, 4, 3, 0] [1, 2, 3] (by omega) rfl ⟨_, k2, t, _, rfl, by rw [hwq (by omega)], by rw [hwq (by omega)]; omega, by rw [hwq (by omega)]; omega, ht, by omega, by rw [hwq (by omega)]; omega, rfl⟩
  · refine rn rfl (round_ext ?_)
    exact rn rfl (fin_is [] rfl ⟨t, k1, ht, by omega, by omega, rfl, rfl⟩)

theorem twoSigs_ct (bs : Str) (k : Int) (hb : bs.length ≤ 2000) (hk : 0 ≤ k) (hk' : k ≤ 1073600000) :
    ACalls pk 104 [.one (.op 0 0 0)] [oR bs k] (fun r o => ∃ a b k', SmallS a ∧ SmallS b ∧ k ≤ k' ∧ k' ≤ k + 300 ∧ r = .tup [.agg (eG a), .agg (eG b)] ∧ o = [oR bs k']) := by
  refine acalls_of_body Tryz.func104 rfl (by kernel_rfl) rfl ?_
  refine rn rfl ?_
  refine goal_step (step_callE [0] rfl rfl rfl rfl rfl rfl rfl (someSignature_ct bs k hb hk (by omega))) ?_
  rintro σ2 ⟨r, o', ⟨a, k1, ha, hk1, hk2, rfl, rfl⟩, hσ⟩
  obtain rfl := Option.some.inj hσ
  clear hσ
  have hal := ha.len
  refine rn rfl ?_
  refine goal_step (step_call [] rfl rfl rfl rfl rfl rfl (svalidSig_ct a (by omega) (fun p hp => by have := ha.names p hp; omega))) ?_
  rintro σ2 ⟨r, o', ⟨rfl, rfl⟩, hσ⟩
  obtain rfl := Option.some.inj hσ
  clear hσ
  refine rn rfl ?_
  refine goal_guard rfl rfl rfl (fun h1 => ?_) (fun h1 => ?_) <;> (try simp only [gt_iff_lt, ge_iff_le, bne_iff_ne, ne_eq, bne_eq_false_iff_eq, beq_iff_eq, beq_eq_false_iff_ne, Bool.not_eq_true', Bool.not_eq_false', decide_eq_true_eq, decide_eq_false_iff_not, List.length_map] at h1)
  · refine rn rfl ?_
    refine goal_step (step_callE [0] rfl rfl rfl rfl rfl rfl (rfl) (pick_ct bs k1 3 hb (by omega) (by omega) (by omega))) ?_
    rintro σ2 ⟨r, o', ⟨⟨z, rfl, _, _⟩, rfl⟩, hσ⟩
    obtain rfl := Option.some.inj hσ
    clear hσ
    refine rn rfl ?_
    refine goal_cond rfl (fun h2 => ?_) (fun h2 => ?_) <;> (try simp only [gt_iff_lt, ge_iff_le, bne_iff_ne, ne_eq, bne_eq_false_iff_eq, beq_iff_eq, beq_eq_false_iff_ne, Bool.not_eq_true', Bool.not_eq_false', decide_eq_true_eq, decide_eq_false_iff_not, List.length_map] at h2)
    · refine rn rfl ?_
      refine goal_draw' [3] 6 rfl ?_
      refine drn [0, 1, 2] (by kernel_rfl) (by kernel_rfl) rfl rfl ?_
      refine AH_one (i := 3) (by kernel_rfl) (step_callE [0] rfl rfl rfl rfl rfl rfl (rfl) (near_ct bs (k1 + 1) a ha hb (by omega) (by omega))) (by simp) ?_
      rintro σ2 ⟨r, o', ⟨b, k2, hbb, hk3, hk4, rfl, rfl⟩, hσ⟩
      obtain rfl := Option.some.inj hσ
      clear hσ
      refine AH_oneDid 4 rfl (by kernel_rfl) rfl (dA_step rfl) (mdOk rfl) ?_
      refine AH_oneDid 5 rfl (by kernel_rfl) rfl (dA_step rfl) (mdOk rfl) ?_
      refine AH_end (by kernel_rfl) ?_
      refine rn rfl ?_
      exact rn rfl (fin_is [] rfl ⟨a, b, k2, ha, hbb, by omega, by omega, rfl, rfl⟩)
    · refine rn rfl ?_
      refine goal_draw' [3] 5 rfl ?_
      refine drn [0, 1] (by kernel_rfl) (by kernel_rfl) rfl rfl ?_
      refine AH_one (i := 2) (by kernel_rfl) (step_callE [0] rfl rfl rfl rfl rfl rfl (rfl) (someSignature_ct bs (k1 + 1) hb (by omega) (by omega))) (by simp) ?_
      rintro σ2 ⟨r, o', ⟨b, k2, hbb, hk3, hk4, rfl, rfl⟩, hσ⟩
      obtain rfl := Option.some.inj hσ
      clear hσ
      refine AH_oneDid 3 rfl (by kernel_rfl) rfl (dA_step rfl) (mdOk rfl) ?_
      refine AH_oneDid 4 rfl (by kernel_rfl) rfl (dA_step rfl) (mdOk rfl) ?_
      refine AH_end (by kernel_rfl) ?_
      refine rn rfl ?_
      exact rn rfl (fin_is [] rfl ⟨a, b, k2, ha, hbb, by omega, by omega, rfl, rfl⟩)
  · refine rn rfl ?_
    refine goal_draw' [3] 5 rfl ?_
    refine drn [0, 1] (by kernel_rfl) (by kernel_rfl) rfl rfl ?_
    refine AH_one (i := 2) (by kernel_rfl) (step_callE [0] rfl rfl rfl rfl rfl rfl (rfl) (someSignature_ct bs k1 hb (by omega) (by omega))) (by simp) ?_
    rintro σ2 ⟨r, o', ⟨b, k2, hbb, hk3, hk4, rfl, rfl⟩, hσ⟩
    obtain rfl := Option.some.inj hσ
    clear hσ
    refine AH_oneDid 3 rfl (by kernel_rfl) rfl (dA_step rfl) (mdOk rfl) ?_
    refine AH_oneDid 4 rfl (by kernel_rfl) rfl (dA_step rfl) (mdOk rfl) ?_
    refine AH_end (by kernel_rfl) ?_
    refine rn rfl ?_
    exact rn rfl (fin_is [] rfl ⟨a, b, k2, ha, hbb, by omega, by omega, rfl, rfl⟩)

theorem drawCommon_ct (bs : Str) : ACalls pk 43 [.one (.fs (bs.map rowB))] [] (fun r o => ∃ a b, SmallS a ∧ SmallS b ∧ r = .tup [.agg (eG a), .agg (eG b)] ∧ o = []) := by
  have hb : (bs.take 2000).length ≤ 2000 := by simp; omega
  refine acalls_of_body Tryz.func43 rfl (by kernel_rfl) rfl ?_
  refine rn rfl ?_
  refine goal_step (step_call [] rfl rfl rfl rfl rfl rfl (newReader_ct bs)) ?_
  rintro σ2 ⟨r, o', ⟨rfl, rfl⟩, hσ⟩
  obtain rfl := Option.some.inj hσ
  clear hσ
  refine rn rfl ?_
  refine goal_step (step_callE [2] rfl rfl rfl rfl rfl rfl rfl (twoSigs_ct (bs.take 2000) 0 hb (by omega) (by omega))) ?_
  rintro σ2 ⟨r, o', ⟨a, b, k1, ha, hbb, hk1, hk2, rfl, rfl⟩, hσ⟩
  obtain rfl := Option.some.inj hσ
  clear hσ
  exact rn rfl (fin_is [] rfl ⟨a, b, ha, hbb, rfl, rfl⟩)

theorem indexG_ct (xs : List Sig) (hb : xs.length ≤ 9223372036854775807) (pred : Sig → Bool) (f : FuncId)
    (hcl : ∀ p ∈ xs, ACalls pk f [.agg (eG p)] [] (fun r o => r = .one (.bool (pred p)) ∧ o = [])) :
    ACalls pk 219 [.one (.fs (xs.map eG)), .one (.fn f [])] [] (fun r o => r = .one (.int .i64 (idxI pred xs 0)) ∧ o = []) := by
  refine acalls_of_body Tryz.func219 rfl (by kernel_rfl) rfl ?_
  refine rn rfl ?_
  refine goal_loop_keep (fun m σ => ∃ (n L : Int) (i : Nat), n = i ∧ L = xs.length ∧ i ≤ xs.length ∧ m = xs.length - i ∧ idxI pred xs 0 = idxI pred (xs.drop i) i ∧
      σ = ⟨[(8, .one (.int .i64 n)), (7, .one (.int .i64 L)), (1, .one (.fn f [])), (0, .one (.fs (xs.map eG)))], [], []⟩) xs.length [8, 7, 1, 0] [] rfl
    ⟨_, _, 0, rfl, by simp, by omega, by omega, by simp, rfl⟩ ?_
  rintro m σ ⟨n, L, i, rfl, rfl, hi, rfl, hidx, rfl⟩
  refine rn rfl ?_
  refine goal_cond rfl (fun h => ?_) (fun h => ?_) <;> (try simp only [gt_iff_lt, ge_iff_le, bne_iff_ne, ne_eq, bne_eq_false_iff_eq, beq_iff_eq, beq_eq_false_iff_ne, Bool.not_eq_true', Bool.not_eq_false', decide_eq_true_eq, decide_eq_false_iff_not, List.length_map] at h)
  · obtain ⟨p, hp⟩ := at_some (xs := xs) (i := i) (by omega)
    refine rn rfl ?_
    refine goal_did rfl rfl (dA_index (eG p) rfl rfl rfl rfl rfl rfl rfl (by omega) (by (try simp); omega) (map_at (by simpa using hp)) rfl) ?_
    refine rn rfl ?_
    refine goal_step (step_call [] rfl rfl rfl rfl rfl rfl (hcl p (List.mem_of_getElem? hp))) ?_
    rintro σ2 ⟨r, o', ⟨rfl, rfl⟩, hσ⟩
    obtain rfl := Option.some.inj hσ
    clear hσ
    refine rn rfl ?_
    refine goal_cond rfl (fun h2 => ?_) (fun h2 => ?_)
    · refine rn rfl (round_ret (fin_is [] rfl ⟨?_, rfl⟩))
      rw [hidx, drop_at hp]; simp [idxI, h2]
    · refine rn rfl ?_
      refine round_keep (xs.length - (i + 1)) [8, 7, 1, 0] [] (by omega) rfl ⟨_, _, i + 1, wrap64 (by omega) (by omega), rfl, by omega, rfl, ?_, rfl⟩
      rw [hidx, drop_at hp]; simp [idxI, h2]
  · refine rn rfl (round_ext ?_)
    refine rn rfl (fin_is [] rfl ⟨?_, rfl⟩)
    rw [hidx, List.drop_eq_nil_of_le (by omega)]; rfl

theorem containsG_ct (xs : List Sig) (hb : xs.length ≤ 9223372036854775807) (pred : Sig → Bool) (f : FuncId)
    (hcl : ∀ p ∈ xs, ACalls pk f [.agg (eG p)] [] (fun r o => r = .one (.bool (pred p)) ∧ o = [])) :
    ACalls pk 177 [.one (.fs (xs.map eG)), .one (.fn f [])] [] (fun r o => r = .one (.bool (xs.any pred)) ∧ o = []) := by
  refine acalls_of_body Tryz.func177 rfl (by kernel_rfl) rfl ?_
  refine rn rfl ?_
  refine goal_step (step_call [] rfl rfl rfl rfl rfl rfl (indexG_ct xs hb pred f hcl)) ?_
  rintro σ2 ⟨r, o', ⟨rfl, rfl⟩, hσ⟩
  obtain rfl := Option.some.inj hσ
  clear hσ
  refine rn rfl ?_
  refine rn rfl (fin_is [] rfl ⟨?_, rfl⟩)
  congr 1; congr 1
  have := idxI_ge (pred := pred) (xs := xs) (i := 0)
  cases h : xs.any pred with
  | true => simp [this.2 h]
  | false => rw [idxI_none.2 h]; rfl

theorem overC_ct (s : Sig) (hs : LenS s) : ACalls pk 178 [.agg (eG s)] [] (fun r o => r = .one (.bool (!okSig s)) ∧ o = []) := by
  obtain ⟨s1, s2⟩ := hs
  refine acalls_of_body Tryz.func178 rfl (by kernel_rfl) rfl ?_
  refine rn rfl ?_
  refine goal_step (step_call [] rfl rfl rfl rfl rfl rfl (ivalidSig_ct s (by omega) s2)) ?_
  rintro σ2 ⟨r, o', ⟨rfl, rfl⟩, hσ⟩
  obtain rfl := Option.some.inj hσ
  clear hσ
  refine rn rfl ?_
  exact rn rfl (fin_is [] rfl ⟨rfl, rfl⟩)

theorem overloads_ct (xs : List Sig) (hb : xs.length ≤ 1000) (h : ∀ s ∈ xs, LenS s) : ACalls pk 109 [.one (.fs (xs.map eG))] [] (fun r o => r = .one (.bool (decide (xs.length ≤ 5) && !xs.any (fun s => !okSig s))) ∧ o = []) := by
  refine acalls_of_body Tryz.func109 rfl (by kernel_rfl) rfl ?_
  refine rn rfl ?_
  refine goal_guard rfl rfl rfl (fun h1 => ?_) (fun h1 => ?_) <;> (try simp only [gt_iff_lt, ge_iff_le, bne_iff_ne, ne_eq, bne_eq_false_iff_eq, beq_iff_eq, beq_eq_false_iff_ne, Bool.not_eq_true', Bool.not_eq_false', decide_eq_true_eq, decide_eq_false_iff_not, List.length_map] at h1)
  · have h1' : xs.length ≤ 5 := by omega
    refine rn rfl ?_
    refine goal_step (step_call [] rfl rfl rfl rfl rfl rfl (containsG_ct xs (by omega) (fun s => !okSig s) _ (fun s hs => overC_ct s (h s hs)))) ?_
    rintro σ2 ⟨r, o', ⟨rfl, rfl⟩, hσ⟩
    obtain rfl := Option.some.inj hσ
    clear hσ
    refine rn rfl ?_
    refine rn rfl (fin_is [] rfl ⟨?_, rfl⟩)
    rw [decide_eq_true h1', Bool.true_and]
  · have h1' : ¬ xs.length ≤ 5 := by omega
    refine rn rfl (fin_is [] rfl ⟨?_, rfl⟩)
    rw [decide_eq_false h1', Bool.false_and]

def accIx (xs : List Sig) (f : Flat) (i : Nat) : List Int := ((List.range i).filter (fun j => match xs[j]? with
  | some s => (BindQ s f).2
  | none => false)).map (fun (j : Nat) => (j : Int))

theorem accIx_succ {xs : List Sig} {f : Flat} {i : Nat} {s : Sig} (h : xs[i]? = some s) : accIx xs f (i + 1) = accIx xs f i ++ (if (BindQ s f).2 then [(i : Int)] else []) := by
  unfold accIx
  rw [List.range_succ, List.filter_append, List.map_append]
  congr 1
  simp only [List.filter_cons, h, List.filter_nil]
  split <;> rfl

theorem accIx_len (xs : List Sig) (f : Flat) (i : Nat) : (accIx xs f i).length ≤ i := by
  unfold accIx
  rw [List.length_map]
  have := List.length_filter_le (fun j => match xs[j]? with
    | some s => (BindQ s f).2
    | none => false) (List.range i)
  simpa using this

theorem clipI2_ct (xs : List Int) (kc : Nat) (hk : xs.length ≤ kc) :
    ACalls pk 111 [.one (.os 0 0 xs.length kc)] [ownI xs] (fun r o => r = .one (.os 0 0 xs.length xs.length) ∧ o = [ownI xs]) := by
  refine acalls_of_body Tryz.func111 rfl (by kernel_rfl) rfl ?_
  refine rn rfl ?_
  refine goal_did rfl rfl (dA_sliceOwn 0 xs.length xs.length 0 xs.length xs.length rfl rfl rfl rfl rfl rfl rfl Bnd.none_ (Bnd.some_ rfl rfl) (.inr ⟨by simp, by simp, Bnd.some_ rfl rfl⟩) (by omega) (by omega) hk (by simp) rfl rfl rfl rfl) ?_
  exact rn rfl (fin_is [] rfl ⟨rfl, rfl⟩)

theorem allOf_ct (xs : List Sig) (f : Flat) (hb : xs.length ≤ 5) (h : ∀ s ∈ xs, LenS s) (hok : ∀ s ∈ xs, okSig s = true) (hf : LenF f) (hff : okFlat f = true) :
    ACalls pk 48 [.one (.fs (xs.map eG)), .agg (eF f)] [] (fun r o => r = .one (.fs ((accIx xs f xs.length).map eI)) ∧ o = []) := by
  have ho := overloads_ct xs (by omega) h
  have hv : (decide (xs.length ≤ 5) && !xs.any (fun s => !okSig s)) = true := by
    have : xs.any (fun s => !okSig s) = false := by
      rw [List.any_eq_false]; intro s hs; simp [hok s hs]
    rw [this]; simp [hb]
  rw [hv] at ho
  have hvf := ivalidFlat_ct f (by have := hf.places; omega) (by have := hf.named; omega) hf.names
  rw [hff] at hvf
  refine acalls_of_body Tryz.func48 rfl (by kernel_rfl) rfl ?_
  refine rn rfl ?_
  refine goal_step (step_call [] rfl rfl rfl rfl rfl rfl (ho)) ?_
  rintro σ2 ⟨r, o', ⟨rfl, rfl⟩, hσ⟩
  obtain rfl := Option.some.inj hσ
  clear hσ
  refine rn rfl ?_
  refine goal_guard rfl rfl rfl (fun h1 => by cases h1) (fun _ => ?_)
  refine rn rfl ?_
  refine goal_step (step_call [] rfl rfl rfl rfl rfl rfl (hvf)) ?_
  rintro σ2 ⟨r, o', ⟨rfl, rfl⟩, hσ⟩
  obtain rfl := Option.some.inj hσ
  clear hσ
  refine rn rfl ?_
  refine goal_cond rfl (fun h1 => by cases h1) (fun _ => ?_)
  refine rn rfl ?_
  refine goal_weakCod (Weak.adopt 5 0 1) ?_
  refine goal_loop_keep (fun m σ => ∃ (q L : Int) (i l : Nat) (acc : List Int), q = i ∧ L = xs.length ∧ i ≤ xs.length ∧ m = xs.length - i ∧ l = acc.length ∧ acc = accIx xs f i ∧
      σ = ⟨[(18, .one (.int .i64 q)), (17, .one (.int .i64 L)), (16, .one (.fs (xs.map eG))), (5, .one (.os 1 0 l l)), (3, .one (.op 0 0 0))], [some ⟨2, [eF f], false, false, true⟩, ownI acc], []⟩) xs.length [18, 17, 16, 5, 3] [0, 1] rfl
    ⟨_, _, 0, 0, [], rfl, by simp, by omega, by omega, rfl, rfl, rfl⟩ ?_
  rintro m σ ⟨q, L, i, l, acc, rfl, rfl, hi, rfl, rfl, hacc, rfl⟩
  have hal := accIx_len xs f i
  rw [← hacc] at hal
  refine rn rfl ?_
  refine goal_cond rfl (fun h2 => ?_) (fun h2 => ?_) <;> (try simp only [gt_iff_lt, ge_iff_le, bne_iff_ne, ne_eq, bne_eq_false_iff_eq, beq_iff_eq, beq_eq_false_iff_ne, Bool.not_eq_true', Bool.not_eq_false', decide_eq_true_eq, decide_eq_false_iff_not, List.length_map] at h2)
  · obtain ⟨s, hs⟩ := at_some (xs := xs) (i := i) (by omega)
    have hsl := h s (List.mem_of_getElem? hs)
    have hst := accIx_succ (f := f) hs
    rw [← hacc] at hst
    refine rn rfl ?_
    refine goal_did rfl rfl (dA_index (eG s) rfl rfl rfl rfl rfl rfl rfl (by omega) (by (try simp); omega) (map_at (by simpa using hs)) rfl) ?_
    refine rn rfl ?_
    refine goal_step (step_call [] rfl rfl rfl rfl rfl rfl (iaccepts_ct s f hsl hf)) ?_
    rintro σ2 ⟨r, o', ⟨rfl, rfl⟩, hσ⟩
    obtain rfl := Option.some.inj hσ
    clear hσ
    refine rn rfl ?_
    refine goal_cond rfl (fun h3 => ?_) (fun h3 => ?_)
    · refine rn rfl ?_
      refine goal_did rfl rfl (dA_append (old := (acc).map eI) (rows := ([(i : Int)] : List Int).map eI) (((acc) ++ ([(i : Int)] : List Int)).map eI) (acc.length + 1) true (Dst.own rfl rfl rfl rfl rfl (by first | (simp; done) | (simp; omega)) (whole (by first | (simp; done) | (simp; omega)))) (Src.os rfl rfl (Nat.le_refl 1) rfl) rfl rfl rfl rfl rfl rfl rfl rfl (rows_len eI_len _) (rows_len eI_len _) (by (try simp only [List.length_map, List.length_append, List.length_cons, List.length_nil, List.length_take, List.length_drop]); show _ * 8 ≤ _; omega) (by first | (simp; done) | (simp; omega)) (by simp) (by first | (simp; done) | (simp; omega)) (fun _ => noOwnR_map _ eI_noOwn _)) ?_
      refine rn rfl ?_
      refine rn rfl ?_
      refine round_keep (xs.length - (i + 1)) [18, 17, 16, 5, 3] [0, 4] (by omega) rfl ⟨_, _, i + 1, acc.length + 1, acc ++ [(i : Int)], wrap64 (by omega) (by omega), rfl, by omega, rfl, by simp, by rw [hst, h3]; rfl, rfl⟩
    · refine rn rfl ?_
      refine round_keep (xs.length - (i + 1)) [18, 17, 16, 5, 3] [0, 1] (by omega) rfl ⟨_, _, i + 1, acc.length, acc, wrap64 (by omega) (by omega), rfl, by omega, rfl, rfl, by rw [hst, h3]; simp, rfl⟩
  · refine rn rfl (round_ext ?_)
    have hfin : acc = accIx xs f xs.length := by rw [hacc, show i = xs.length by omega]
    rw [← hfin]
    refine rn rfl ?_
    refine goal_step (step_call [1] rfl rfl rfl rfl rfl rfl (clipI2_ct acc acc.length (Nat.le_refl _))) ?_
    rintro σ2 ⟨r, o', ⟨rfl, rfl⟩, hσ⟩
    obtain rfl := Option.some.inj hσ
    clear hσ
    refine rn rfl ?_
    refine rn rfl (fin_is [] rfl ⟨?_, rfl⟩)
    rw [takeAll eI _ _ rfl]

theorem AH_three {X : Pk} {N np : Nat} {K : KP} {σ : State} {ops : Array Oper} {prot : List Nat} {fuel : Nat} {listed : Array Bool} {i j l : Nat} {md md' md2 : Nat → Prop} {Post Post' Post2 : State → Prop} (hr : Region.ready .any ops listed = [i, j, l])
    (hs : StepA X N np ops i md σ Post) (hmd : ∀ id ∈ prot, ¬ md id) (hs' : StepA X N np ops j md' σ Post') (hmd' : ∀ id ∈ prot, ¬ md' id) (hs2 : StepA X N np ops l md2 σ Post2) (hmd2 : ∀ id ∈ prot, ¬ md2 id)
    (h : ∀ σ', Post σ' → AH X N np ops K prot fuel (listed.setIfInBounds i true) σ') (h' : ∀ σ', Post' σ' → AH X N np ops K prot fuel (listed.setIfInBounds j true) σ') (h2 : ∀ σ', Post2 σ' → AH X N np ops K prot fuel (listed.setIfInBounds l true) σ') : AH X N np ops K prot (fuel + 1) listed σ := fun G D e a w H =>
  wpAnyH_all hr (by simp) fun m hm => by
    simp at hm
    rcases hm with rfl | rfl | rfl
    · exact AH_op hs hmd h H
    · exact AH_op hs' hmd' h' H
    · exact AH_op hs2 hmd2 h2 H

theorem fnCommonShapeAll_ct (bs : Str) (hl : bs.length ≤ 9223372036854775807) : ACalls pk 8 [.one (.fs (bs.map rowB))] [] (fun r o => r = .one (.bool true) ∧ o = []) := by
  refine acalls_of_body Tryz.func8 rfl (by kernel_rfl) rfl ?_
  refine rn rfl ?_
  refine goal_cond rfl (fun h => ?_) (fun h => ?_) <;> (try simp only [gt_iff_lt, ge_iff_le, bne_iff_ne, ne_eq, bne_eq_false_iff_eq, beq_iff_eq, beq_eq_false_iff_ne, Bool.not_eq_true', Bool.not_eq_false', decide_eq_true_eq, decide_eq_false_iff_not, List.length_map] at h)
  · exact rn rfl (fin_is [] rfl ⟨rfl, rfl⟩)
  · refine rn rfl ?_
    refine goal_step (step_call [] rfl rfl rfl rfl rfl rfl (drawCommon_ct bs)) ?_
    rintro σ2 ⟨r, o', ⟨a, b, ha, hb, rfl, rfl⟩, hσ⟩
    obtain rfl := Option.some.inj hσ
    clear hσ
    have la := ha.lens
    have lb := hb.lens
    have hd : ACalls pk 44 [.agg (eG a), .agg (eG b)] [] (fun r o => r = .tup [.agg (eX (CommonF a b).1), .one (.bool (CommonF a b).2)] ∧ o = []) :=
      (icommon_ct a b la lb).told [] (by rintro r o ⟨rfl, rfl⟩; exact ⟨_, _, rfl, congrArg (fun t => T.tup [t, .one (.bool (CommonF a b).2)]) (asX _), rfl⟩)
    have hsp := scommon_ct a b la lb
    have hcl := common_len a b
    have hok : (CommonF a b).2 = true → okSig a = true ∧ okSig b = true ∧ accX a (CommonF a b).1 = true ∧ accX b (CommonF a b).1 = true := fun h => by
      obtain ⟨i, oa, ob, hi, hc, he⟩ := common_ok h
      rw [he]
      unfold comOk at hc
      simp only [Bool.and_eq_true] at hc
      exact ⟨okSig_iff.2 oa, okSig_iff.2 ob, hc.1, hc.2⟩
    generalize (CommonF a b).1 = x at *
    generalize (CommonF a b).2 = c at *
    have hEq := equalShape_ct x (by omega)
    refine rn rfl ?_
    refine goal_step (step_call [] rfl rfl rfl rfl rfl rfl (hd)) ?_
    rintro σ2 ⟨r, o', ⟨rfl, rfl⟩, hσ⟩
    obtain rfl := Option.some.inj hσ
    clear hσ
    refine rn rfl ?_
    refine rn rfl ?_
    refine goal_step (step_call [] rfl rfl rfl rfl rfl rfl (hsp)) ?_
    rintro σ2 ⟨r, o', ⟨rfl, rfl⟩, hσ⟩
    obtain rfl := Option.some.inj hσ
    clear hσ
    refine rn rfl ?_
    refine rn rfl ?_
    refine goal_step (step_call [] rfl rfl rfl rfl rfl rfl (hEq)) ?_
    rintro σ2 ⟨r, o', ⟨rfl, rfl⟩, hσ⟩
    obtain rfl := Option.some.inj hσ
    clear hσ
    refine rn rfl ?_
    refine goal_guard rfl rfl rfl (fun h1 => by cases h1) (fun _ => ?_)
    refine rn rfl ?_
    refine goal_guard rfl rfl rfl (fun h2 => by simp at h2) (fun _ => ?_)
    refine rn rfl ?_
    refine goal_cond rfl (fun h3 => ?_) (fun h3 => ?_)
    · refine rn rfl ?_
      refine goal_step (step_call [] rfl rfl rfl rfl rfl rfl (hEq)) ?_
      rintro σ2 ⟨r, o', ⟨rfl, rfl⟩, hσ⟩
      obtain rfl := Option.some.inj hσ
      clear hσ
      refine rn rfl ?_
      refine goal_guard rfl rfl rfl (fun _ => ?_) (fun h4 => by cases h4)
      refine rn rfl (fin_is [] rfl ⟨?_, rfl⟩)
      simp
    · have hc : c = true := by simpa using h3
      obtain ⟨sa, sb, xa, xb⟩ := hok hc
      have hokx := acc_okX xa
      have hfx : flatXF x = flatX x := by simp [flatXF, hokx]
      have hlx : LenX x := ⟨by omega, fun m hm => by
        have hokx' := hokx
        simp only [okX, Bool.and_eq_true] at hokx'
        have := (okNs_iff.1 hokx'.1.1).1 m hm
        simp only [okName, inR, Bool.and_eq_true, decide_eq_true_eq] at this
        omega⟩
      have hFl := iflatOf_ct x hlx
      have of := okX_flat hokx
      have hAll := allOf_ct [a, b] (flatXF x) (by simp) (by simp [la, lb]) (by simp [sa, sb]) (by rw [hfx]; exact of.len) (by rw [hfx]; exact okFlat_iff.2 of)
      have hba : (BindQ a (flatX x)).2 = true := by unfold accX at xa; simp only [Bool.and_eq_true] at xa; exact xa.2
      have hbb : (BindQ b (flatX x)).2 = true := by unfold accX at xb; simp only [Bool.and_eq_true] at xb; exact xb.2
      have hix : accIx [a, b] (flatXF x) [a, b].length = [0, 1] := by
        rw [hfx]
        show accIx [a, b] (flatX x) 2 = _
        rw [accIx_succ (i := 1) (s := b) rfl, accIx_succ (i := 0) (s := a) rfl, hba, hbb]
        rfl
      rw [hix] at hAll
      have hEI := equalInts_ct [0, 1] [0, 1] (by simp)
      generalize flatXF x = F at *
      refine rn rfl ?_
      refine goal_draw' [0, 1, 2] 9 rfl ?_
      refine drn [0, 1, 3] (by kernel_rfl) (by kernel_rfl) rfl rfl ?_
      refine AH_three (i := 2) (j := 4) (l := 6) (by kernel_rfl) (step_did rfl rfl (dA_step rfl)) (mdOk rfl) (step_call [] rfl rfl rfl rfl rfl rfl (hFl)) (by simp) (step_did rfl rfl (dA_step rfl)) (mdOk rfl) ?_ ?_ ?_
      · rintro _ rfl
        refine AH_two (i := 4) (j := 6) (by kernel_rfl) (step_call [] rfl rfl rfl rfl rfl rfl (hFl)) (by simp) (step_did rfl rfl (dA_step rfl)) (mdOk rfl) ?_ ?_
        · rintro σ2 ⟨r, o', ⟨rfl, rfl⟩, hσ⟩
          obtain rfl := Option.some.inj hσ
          clear hσ
          refine AH_two (i := 5) (j := 6) (by kernel_rfl) (step_callE [] rfl rfl rfl rfl rfl rfl (rfl) (hAll)) (by simp) (step_did rfl rfl (dA_step rfl)) (mdOk rfl) ?_ ?_
          · rintro σ2 ⟨r, o', ⟨rfl, rfl⟩, hσ⟩
            obtain rfl := Option.some.inj hσ
            clear hσ
            refine AH_oneDid 6 rfl (by kernel_rfl) rfl (dA_step rfl) (mdOk rfl) ?_
            refine AH_one (i := 7) (by kernel_rfl) (step_callE [] rfl rfl rfl rfl rfl rfl (rfl) (hEI)) (by simp) ?_
            rintro σ2 ⟨r, o', ⟨rfl, rfl⟩, hσ⟩
            obtain rfl := Option.some.inj hσ
            clear hσ
            refine drn [8] (by kernel_rfl) (by kernel_rfl) rfl rfl ?_
            refine AH_end (by kernel_rfl) ?_
            refine rn rfl ?_
            refine rn rfl (fin_is [] rfl ⟨?_, rfl⟩)
            simp
          · rintro _ rfl
            refine AH_one (i := 5) (by kernel_rfl) (step_callE [] rfl rfl rfl rfl rfl rfl (rfl) (hAll)) (by simp) ?_
            rintro σ2 ⟨r, o', ⟨rfl, rfl⟩, hσ⟩
            obtain rfl := Option.some.inj hσ
            clear hσ
            refine AH_one (i := 7) (by kernel_rfl) (step_callE [] rfl rfl rfl rfl rfl rfl (rfl) (hEI)) (by simp) ?_
            rintro σ2 ⟨r, o', ⟨rfl, rfl⟩, hσ⟩
            obtain rfl := Option.some.inj hσ
            clear hσ
            refine drn [8] (by kernel_rfl) (by kernel_rfl) rfl rfl ?_
            refine AH_end (by kernel_rfl) ?_
            refine rn rfl ?_
            refine rn rfl (fin_is [] rfl ⟨?_, rfl⟩)
            simp
        · rintro _ rfl
          refine AH_one (i := 4) (by kernel_rfl) (step_call [] rfl rfl rfl rfl rfl rfl (hFl)) (by simp) ?_
          rintro σ2 ⟨r, o', ⟨rfl, rfl⟩, hσ⟩
          obtain rfl := Option.some.inj hσ
          clear hσ
          refine AH_one (i := 5) (by kernel_rfl) (step_callE [] rfl rfl rfl rfl rfl rfl (rfl) (hAll)) (by simp) ?_
          rintro σ2 ⟨r, o', ⟨rfl, rfl⟩, hσ⟩
          obtain rfl := Option.some.inj hσ
          clear hσ
          refine AH_one (i := 7) (by kernel_rfl) (step_callE [] rfl rfl rfl rfl rfl rfl (rfl) (hEI)) (by simp) ?_
          rintro σ2 ⟨r, o', ⟨rfl, rfl⟩, hσ⟩
          obtain rfl := Option.some.inj hσ
          clear hσ
          refine drn [8] (by kernel_rfl) (by kernel_rfl) rfl rfl ?_
          refine AH_end (by kernel_rfl) ?_
          refine rn rfl ?_
          refine rn rfl (fin_is [] rfl ⟨?_, rfl⟩)
          simp
      · rintro σ2 ⟨r, o', ⟨rfl, rfl⟩, hσ⟩
        obtain rfl := Option.some.inj hσ
        clear hσ
        refine AH_two (i := 2) (j := 6) (by kernel_rfl) (step_did rfl rfl (dA_step rfl)) (mdOk rfl) (step_did rfl rfl (dA_step rfl)) (mdOk rfl) ?_ ?_
        · rintro _ rfl
          refine AH_two (i := 5) (j := 6) (by kernel_rfl) (step_callE [] rfl rfl rfl rfl rfl rfl (rfl) (hAll)) (by simp) (step_did rfl rfl (dA_step rfl)) (mdOk rfl) ?_ ?_
          · rintro σ2 ⟨r, o', ⟨rfl, rfl⟩, hσ⟩
            obtain rfl := Option.some.inj hσ
            clear hσ
            refine AH_oneDid 6 rfl (by kernel_rfl) rfl (dA_step rfl) (mdOk rfl) ?_
            refine AH_one (i := 7) (by kernel_rfl) (step_callE [] rfl rfl rfl rfl rfl rfl (rfl) (hEI)) (by simp) ?_
            rintro σ2 ⟨r, o', ⟨rfl, rfl⟩, hσ⟩
            obtain rfl := Option.some.inj hσ
            clear hσ
            refine drn [8] (by kernel_rfl) (by kernel_rfl) rfl rfl ?_
            refine AH_end (by kernel_rfl) ?_
            refine rn rfl ?_
            refine rn rfl (fin_is [] rfl ⟨?_, rfl⟩)
            simp
          · rintro _ rfl
            refine AH_one (i := 5) (by kernel_rfl) (step_callE [] rfl rfl rfl rfl rfl rfl (rfl) (hAll)) (by simp) ?_
            rintro σ2 ⟨r, o', ⟨rfl, rfl⟩, hσ⟩
            obtain rfl := Option.some.inj hσ
            clear hσ
            refine AH_one (i := 7) (by kernel_rfl) (step_callE [] rfl rfl rfl rfl rfl rfl (rfl) (hEI)) (by simp) ?_
            rintro σ2 ⟨r, o', ⟨rfl, rfl⟩, hσ⟩
            obtain rfl := Option.some.inj hσ
            clear hσ
            refine drn [8] (by kernel_rfl) (by kernel_rfl) rfl rfl ?_
            refine AH_end (by kernel_rfl) ?_
            refine rn rfl ?_
            refine rn rfl (fin_is [] rfl ⟨?_, rfl⟩)
            simp
        · rintro _ rfl
          refine AH_oneDid 2 rfl (by kernel_rfl) rfl (dA_step rfl) (mdOk rfl) ?_
          refine AH_one (i := 5) (by kernel_rfl) (step_callE [] rfl rfl rfl rfl rfl rfl (rfl) (hAll)) (by simp) ?_
          rintro σ2 ⟨r, o', ⟨rfl, rfl⟩, hσ⟩
          obtain rfl := Option.some.inj hσ
          clear hσ
          refine AH_one (i := 7) (by kernel_rfl) (step_callE [] rfl rfl rfl rfl rfl rfl (rfl) (hEI)) (by simp) ?_
          rintro σ2 ⟨r, o', ⟨rfl, rfl⟩, hσ⟩
          obtain rfl := Option.some.inj hσ
          clear hσ
          refine drn [8] (by kernel_rfl) (by kernel_rfl) rfl rfl ?_
          refine AH_end (by kernel_rfl) ?_
          refine rn rfl ?_
          refine rn rfl (fin_is [] rfl ⟨?_, rfl⟩)
          simp
      · rintro _ rfl
        refine AH_two (i := 2) (j := 4) (by kernel_rfl) (step_did rfl rfl (dA_step rfl)) (mdOk rfl) (step_call [] rfl rfl rfl rfl rfl rfl (hFl)) (by simp) ?_ ?_
        · rintro _ rfl
          refine AH_one (i := 4) (by kernel_rfl) (step_call [] rfl rfl rfl rfl rfl rfl (hFl)) (by simp) ?_
          rintro σ2 ⟨r, o', ⟨rfl, rfl⟩, hσ⟩
          obtain rfl := Option.some.inj hσ
          clear hσ
          refine AH_one (i := 5) (by kernel_rfl) (step_callE [] rfl rfl rfl rfl rfl rfl (rfl) (hAll)) (by simp) ?_
          rintro σ2 ⟨r, o', ⟨rfl, rfl⟩, hσ⟩
          obtain rfl := Option.some.inj hσ
          clear hσ
          refine AH_one (i := 7) (by kernel_rfl) (step_callE [] rfl rfl rfl rfl rfl rfl (rfl) (hEI)) (by simp) ?_
          rintro σ2 ⟨r, o', ⟨rfl, rfl⟩, hσ⟩
          obtain rfl := Option.some.inj hσ
          clear hσ
          refine drn [8] (by kernel_rfl) (by kernel_rfl) rfl rfl ?_
          refine AH_end (by kernel_rfl) ?_
          refine rn rfl ?_
          refine rn rfl (fin_is [] rfl ⟨?_, rfl⟩)
          simp
        · rintro σ2 ⟨r, o', ⟨rfl, rfl⟩, hσ⟩
          obtain rfl := Option.some.inj hσ
          clear hσ
          refine AH_oneDid 2 rfl (by kernel_rfl) rfl (dA_step rfl) (mdOk rfl) ?_
          refine AH_one (i := 5) (by kernel_rfl) (step_callE [] rfl rfl rfl rfl rfl rfl (rfl) (hAll)) (by simp) ?_
          rintro σ2 ⟨r, o', ⟨rfl, rfl⟩, hσ⟩
          obtain rfl := Option.some.inj hσ
          clear hσ
          refine AH_one (i := 7) (by kernel_rfl) (step_callE [] rfl rfl rfl rfl rfl rfl (rfl) (hEI)) (by simp) ?_
          rintro σ2 ⟨r, o', ⟨rfl, rfl⟩, hσ⟩
          obtain rfl := Option.some.inj hσ
          clear hσ
          refine drn [8] (by kernel_rfl) (by kernel_rfl) rfl rfl ?_
          refine AH_end (by kernel_rfl) ?_
          refine rn rfl ?_
          refine rn rfl (fin_is [] rfl ⟨?_, rfl⟩)
          simp

end Go.Proofs.YtalplgabhichfaaGreat
