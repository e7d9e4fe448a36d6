/- Part 5 of the proof: an abstract machine over the model; contracts of the functions that the law reaches. -/
import Derived.Test.YtalplgabhichfaaGreatKECom4
set_option linter.unusedVariables false
set_option linter.unusedSimpArgs false
namespace Go.Proofs.YtalplgabhichfaaGreat
open Go
set_option maxRecDepth 100000
set_option maxHeartbeats 1000000

theorem needsF_good {s : Sig} {i : Nat} (hi : i ≤ 8) (h : goodC s i = true) : OkS s ∧ takesC s i = true ∧ NeedsF s i = (sortS (needNs s i), true) := by
  have h' := h
  rw [goodC_at hi] at h
  simp only [Bool.and_eq_true] at h
  refine ⟨okSig_iff.1 h.1, h.2, ?_⟩
  unfold NeedsF
  rw [if_pos h']; simp

theorem com_not {a b : Sig} {i : Nat} (hi : i ≤ 8) (ha : okSig a = true) (hb : okSig b = true) (h : goodC a i = false ∨ goodC b i = false) : comOk a b i = false := by
  cases hc : comOk a b i with
  | false => rfl
  | true =>
    obtain ⟨h1, h2⟩ := com_takes (okSig_iff.1 ha) (okSig_iff.1 hb) hi hc
    rw [goodC_at hi, goodC_at hi, ha, hb, h1, h2] at h
    simp at h

theorem icommon_ct (a b : Sig) (ha : LenS a) (hb : LenS b) : ACalls pk 44 [.agg (eG a), .agg (eG b)] [] (fun r o => r = .tup [rX (CommonF a b).1, .one (.bool (CommonF a b).2)] ∧ o = oX (CommonF a b).1) := by
  refine acalls_of_body Tryz.func44 rfl (by kernel_rfl) rfl ?_
  refine rn rfl ?_
  refine goal_loop_keep (fun m σ => ∃ (q : Int) (i : Nat), q = i ∧ i ≤ 9 ∧ m = 9 - i ∧ (∀ j, j < i → okSig a = true → okSig b = true → comOk a b j = false) ∧
      σ = ⟨[(6, .one (.int .i64 q)), (4, .one (.op 2 0 0)), (3, .one (.op 1 0 0)), (2, .one (.op 0 0 0))], [some ⟨1, [eG a], false, false, true⟩, some ⟨1, [eG b], false, false, true⟩, some ⟨2, [[.int .i64 0, .fs []]], false, false, true⟩], []⟩) 9 [6, 4, 3, 2] [0, 1, 2] rfl
    ⟨_, 0, rfl, by omega, by omega, fun j hj => by omega, rfl⟩ ?_
  rintro m σ ⟨q, i, rfl, hi, rfl, hall, rfl⟩
  refine rn rfl ?_
  refine goal_cond rfl (fun h => ?_) (fun h => ?_) <;> (try simp only [gt_iff_lt, ge_iff_le, bne_iff_ne, ne_eq, bne_eq_false_iff_eq, beq_iff_eq, beq_eq_false_iff_ne, Bool.not_eq_true', Bool.not_eq_false', decide_eq_true_eq, decide_eq_false_iff_not, List.length_map] at h)
  · have hi8 : i ≤ 8 := by omega
    have next : (goodC a i = false ∨ goodC b i = false) → ∀ j, j < i + 1 → okSig a = true → okSig b = true → comOk a b j = false := fun hg j hj h1 h2 => by
      by_cases hji : j = i
      · subst hji; exact com_not hi8 h1 h2 hg
      · exact hall j (by omega) h1 h2
    refine rn rfl ?_
    refine goal_step (step_call [] rfl rfl rfl rfl rfl rfl (ineedsAtD_ct a i ha)) ?_
    rintro σ2 ⟨r, o', ⟨rfl, rfl⟩, hσ⟩
    obtain rfl := Option.some.inj hσ
    clear hσ
    refine rn rfl ?_
    refine goal_step (step_call [] rfl rfl rfl rfl rfl rfl (ineedsAtD_ct b i hb)) ?_
    rintro σ2 ⟨r, o', ⟨rfl, rfl⟩, hσ⟩
    obtain rfl := Option.some.inj hσ
    clear hσ
    refine rn rfl ?_
    rw [needsF_snd, needsF_snd]
    refine goal_guard rfl rfl rfl (fun h1 => ?_) (fun h1 => ?_) <;> (try simp only [gt_iff_lt, ge_iff_le, bne_iff_ne, ne_eq, bne_eq_false_iff_eq, beq_iff_eq, beq_eq_false_iff_ne, Bool.not_eq_true', Bool.not_eq_false', decide_eq_true_eq, decide_eq_false_iff_not, List.length_map] at h1)
    · refine rn rfl ?_
      refine round_keep (9 - (i + 1)) [6, 4, 3, 2] [0, 1, 2] (by omega) rfl ⟨_, i + 1, wrap64 (by omega) (by omega), by omega, rfl, next (.inl h1), rfl⟩
    refine rn rfl ?_
    refine goal_cond rfl (fun h2 => ?_) (fun h2 => ?_) <;> (try simp only [gt_iff_lt, ge_iff_le, bne_iff_ne, ne_eq, bne_eq_false_iff_eq, beq_iff_eq, beq_eq_false_iff_ne, Bool.not_eq_true', Bool.not_eq_false', decide_eq_true_eq, decide_eq_false_iff_not, List.length_map] at h2)
    · refine rn rfl ?_
      refine round_keep (9 - (i + 1)) [6, 4, 3, 2] [0, 1, 2] (by omega) rfl ⟨_, i + 1, wrap64 (by omega) (by omega), by omega, rfl, next (.inr h2), rfl⟩
    obtain ⟨oa, ta, na⟩ := needsF_good hi8 (by simpa using h1)
    obtain ⟨ob, tb, nb⟩ := needsF_good hi8 (by simpa using h2)
    have hx : LenX (comX a b i) := ⟨by have := comX_len oa ob i; omega, fun m hm => by have := (comX_names oa ob i m hm).2; omega⟩
    have hn1 := needNs_len a i
    have hn2 := needNs_len b i
    have hl1 := oa.len
    have hl2 := ob.len
    rw [na, nb]
    refine rn rfl ?_
    refine goal_step (step_call [] rfl rfl rfl rfl rfl rfl (iunionO_ct (sortS (needNs a i)) (sortS (needNs b i)) (by rw [sortS_length, sortS_length]; omega))) ?_
    rintro σ2 ⟨r, o', ⟨rfl, rfl⟩, hσ⟩
    obtain rfl := Option.some.inj hσ
    clear hσ
    refine rn rfl ?_
    refine rn rfl ?_
    have hac := iacceptsShape_ct a (comX a b i) ha hx
    have hbc := iacceptsShape_ct b (comX a b i) hb hx
    have hxe : (comX a b i).names = uniqS (sortS (needNs a i) ++ sortS (needNs b i)) := rfl
    have hxc : (comX a b i).count = (i : Int) := rfl
    rw [← hxe, ← hxc]
    refine goal_step (step_lendE [] rfl rfl rfl rfl rfl rfl rfl (congrArg (fun t => [T.agg (eG a), t]) (asX (comX a b i))) (hac) (by rintro r o ⟨rfl, rfl⟩; exact ⟨rfl, rfl⟩)) ?_
    rintro σ2 ⟨r, o', ⟨rfl, rfl⟩, hσ⟩
    obtain rfl := Option.some.inj hσ
    clear hσ
    refine rn rfl ?_
    refine goal_guard rfl rfl rfl (fun h3 => ?_) (fun h3 => ?_) <;> (try simp only [gt_iff_lt, ge_iff_le, bne_iff_ne, ne_eq, bne_eq_false_iff_eq, beq_iff_eq, beq_eq_false_iff_ne, Bool.not_eq_true', Bool.not_eq_false', decide_eq_true_eq, decide_eq_false_iff_not, List.length_map] at h3)
    · refine rn rfl ?_
      refine goal_step (step_lendE [] rfl rfl rfl rfl rfl rfl rfl (congrArg (fun t => [T.agg (eG b), t]) (asX (comX a b i))) (hbc) (by rintro r o ⟨rfl, rfl⟩; exact ⟨rfl, rfl⟩)) ?_
      rintro σ2 ⟨r, o', ⟨rfl, rfl⟩, hσ⟩
      obtain rfl := Option.some.inj hσ
      clear hσ
      refine rn rfl ?_
      refine goal_cond rfl (fun h4 => ?_) (fun h4 => ?_)
      · have hle : CommonF a b = (comX a b i, true) := common_at (okSig_iff.2 oa) (okSig_iff.2 ob) hi8 (fun j hj => hall j hj (okSig_iff.2 oa) (okSig_iff.2 ob)) (by simp [comOk, h3, h4])
        rw [hle]
        refine rn rfl (round_ret (fin_is [3] rfl ⟨rfl, rfl⟩))
      · refine rn rfl ?_
        refine round_keep (9 - (i + 1)) [6, 4, 3, 2] [0, 1, 2] (by omega) rfl ⟨_, i + 1, wrap64 (by omega) (by omega), by omega, rfl, fun j hj hs1 hs2 => ?_, rfl⟩
        by_cases hji : j = i
        · subst hji; simp [comOk, h4]
        · exact hall j (by omega) hs1 hs2
    · refine rn rfl ?_
      refine round_keep (9 - (i + 1)) [6, 4, 3, 2] [0, 1, 2] (by omega) rfl ⟨_, i + 1, wrap64 (by omega) (by omega), by omega, rfl, fun j hj hs1 hs2 => ?_, rfl⟩
      by_cases hji : j = i
      · subst hji; simp [comOk, h3]
      · exact hall j (by omega) hs1 hs2
  · refine rn rfl (round_ext ?_)
    have hle : CommonF a b = (⟨0, []⟩, false) := by
      cases hs : (okSig a && okSig b) with
      | false => exact common_bad hs
      | true =>
        simp only [Bool.and_eq_true] at hs
        exact common_none fun j hj => hall j (by omega) hs.1 hs.2
    rw [hle]
    refine rn rfl ?_
    exact fin_weak (Weak.adoptO 2 1 1) (fin_is [3] rfl ⟨rfl, rfl⟩)

theorem sneedsO_ct (s : Sig) (n : Nat) (hs : OkS s) (hn : n ≤ 8) : ACalls pk 107 [.agg (eG s), .one (.int .i64 n)] [] (fun r o => r = .one (.os 0 0 (needNs s n).length (needNs s n).length) ∧ o = [ownS (sortS (needNs s n))]) := by
  have hl := hs.len
  have hnl := needNs_len s n
  have hnd : (needNs s n).Nodup := hs.nodup.sublist (needNs_sub s n)
  refine acalls_of_body Tryz.func107 rfl (by kernel_rfl) rfl ?_
  refine rn rfl ?_
  refine goal_loop_keep (fun m σ => ∃ (q : Int) (i l : Nat) (acc : List Str), q = i ∧ i ≤ s.length ∧ m = s.length - i ∧ l = acc.length ∧ acc = needNs (s.take i) n ∧
      σ = ⟨[(6, .one (.int .i64 q)), (5, .one (.os 1 0 l l)), (2, .one (.op 0 0 0)), (1, .one (.int .i64 n))], [some ⟨1, [eG s], false, false, true⟩, ownS acc], []⟩) s.length [6, 5, 2, 1] [0, 1] rfl
    ⟨_, 0, 0, [], rfl, by omega, by omega, rfl, rfl, rfl⟩ ?_
  rintro m σ ⟨q, i, l, acc, rfl, hi, rfl, rfl, hacc, rfl⟩
  have hal := needNs_len (s.take i) n
  rw [← hacc, List.length_take] at hal
  refine rn rfl ?_
  refine goal_cond rfl (fun h => ?_) (fun h => ?_) <;> (try simp only [gt_iff_lt, ge_iff_le, bne_iff_ne, ne_eq, bne_eq_false_iff_eq, beq_iff_eq, beq_eq_false_iff_ne, Bool.not_eq_true', Bool.not_eq_false', decide_eq_true_eq, decide_eq_false_iff_not, List.length_map] at h)
  · obtain ⟨p, hp⟩ := at_some (xs := s) (i := i) (by omega)
    have hst := needNs_succ (n := n) hp
    rw [← hacc] at hst
    refine rn rfl ?_
    refine goal_did rfl rfl (dA_index (eQ p) rfl rfl rfl rfl rfl rfl rfl (by omega) (by (try simp); omega) (map_at (by simpa using hp)) rfl) ?_
    refine rn rfl ?_
    refine goal_step (step_call [] rfl rfl rfl rfl rfl rfl (open_ct p i n)) ?_
    rintro σ2 ⟨r, o', ⟨rfl, rfl⟩, hσ⟩
    obtain rfl := Option.some.inj hσ
    clear hσ
    refine rn rfl ?_
    refine goal_guard rfl rfl rfl (fun h1 => ?_) (fun h1 => ?_) <;> (try simp only [gt_iff_lt, ge_iff_le, bne_iff_ne, ne_eq, bne_eq_false_iff_eq, beq_iff_eq, beq_eq_false_iff_ne, Bool.not_eq_true', Bool.not_eq_false', decide_eq_true_eq, decide_eq_false_iff_not, List.length_map] at h1)
    · refine rn rfl ?_
      refine goal_did rfl rfl (dA_index (eQ p) rfl rfl rfl rfl rfl rfl rfl (by omega) (by (try simp); omega) (map_at (by simpa using hp)) rfl) ?_
      refine rn rfl ?_
      refine goal_cond rfl (fun h2 => ?_) (fun h2 => ?_) <;> (try simp only [gt_iff_lt, ge_iff_le, bne_iff_ne, ne_eq, bne_eq_false_iff_eq, beq_iff_eq, beq_eq_false_iff_ne, Bool.not_eq_true', Bool.not_eq_false', decide_eq_true_eq, decide_eq_false_iff_not, List.length_map] at h2)
      · refine rn rfl ?_
        refine goal_did rfl rfl (dA_index (eQ p) rfl rfl rfl rfl rfl rfl rfl (by omega) (by (try simp); omega) (map_at (by simpa using hp)) rfl) ?_
        refine rn rfl ?_
        refine goal_did rfl rfl (dA_append (old := (acc).map eS) (rows := ([p.name] : List Str).map eS) (((acc) ++ ([p.name] : List Str)).map eS) (acc.length + 1) true (Dst.own rfl rfl rfl rfl rfl (by first | (simp; done) | (simp; omega)) (whole (by first | (simp; done) | (simp; omega)))) (Src.os rfl rfl (Nat.le_refl 1) rfl) rfl rfl rfl rfl rfl rfl rfl rfl (rows_len eS_len _) (rows_len eS_len _) (by (try simp only [List.length_map, List.length_append, List.length_cons, List.length_nil, List.length_take, List.length_drop]); show _ * 16 ≤ _; omega) (by first | (simp; done) | (simp; omega)) (by simp) (by first | (simp; done) | (simp; omega)) (fun _ => noOwnR_map _ eS_noOwn _)) ?_
        refine rn rfl ?_
        refine round_keep (s.length - (i + 1)) [6, 5, 2, 1] [0, 3] (by omega) rfl ⟨_, i + 1, acc.length + 1, acc ++ [p.name], wrap64 (by omega) (by omega), by omega, rfl, by simp, by rw [hst]; simp [nedQ, h1, h2], rfl⟩
      · refine rn rfl ?_
        refine round_keep (s.length - (i + 1)) [6, 5, 2, 1] [0, 1] (by omega) rfl ⟨_, i + 1, acc.length, acc, wrap64 (by omega) (by omega), by omega, rfl, rfl, by rw [hst]; simp [nedQ, h1, h2], rfl⟩
    · refine rn rfl ?_
      refine round_keep (s.length - (i + 1)) [6, 5, 2, 1] [0, 1] (by omega) rfl ⟨_, i + 1, acc.length, acc, wrap64 (by omega) (by omega), by omega, rfl, rfl, by rw [hst]; simp [nedQ, h1], rfl⟩
  · refine rn rfl (round_ext ?_)
    have hfin : acc = needNs s n := by rw [hacc, show i = s.length by omega, List.take_length]
    rw [← hfin] at hnd hnl ⊢
    refine rn rfl ?_
    refine goal_step (step_callE [] rfl rfl rfl rfl rfl rfl (cons_eq (congrArg (fun x => T.one (C.fs x)) (takeAll eS acc _ rfl)) rfl) (sortedTextsO_ct acc hnd (by omega))) ?_
    rintro σ2 ⟨r, o', ⟨rfl, rfl⟩, hσ⟩
    obtain rfl := Option.some.inj hσ
    clear hσ
    refine rn rfl ?_
    exact rn rfl (fin_is [2] rfl ⟨rfl, rfl⟩)

theorem sneedsP_ct (s : Sig) (n : Nat) (hs : OkS s) (hn : n ≤ 8) : ACalls pk 107 [.agg (eG s), .one (.int .i64 n)] [] (fun r o => r = .one (.os 0 0 (sortS (needNs s n)).length (sortS (needNs s n)).length) ∧ o = [ownS (sortS (needNs s n))]) := by
  have h := sneedsO_ct s n hs hn
  rw [sortS_length]
  exact h

theorem scommon_ct (a b : Sig) (ha : LenS a) (hb : LenS b) : ACalls pk 45 [.agg (eG a), .agg (eG b)] [] (fun r o => r = .tup [.agg (eX (CommonF a b).1), .one (.bool (CommonF a b).2)] ∧ o = []) := by
  have htw : ACalls pk 105 [.agg (eG a), .agg (eG b)] [] (fun r o => r = .one (.bool (okSig a && okSig b)) ∧ o = []) := by
    obtain ⟨a1, a2⟩ := ha
    obtain ⟨b1, b2⟩ := hb
    refine acalls_of_body Tryz.func105 rfl (by kernel_rfl) rfl ?_
    refine rn rfl ?_
    refine goal_step (step_call [] rfl rfl rfl rfl rfl rfl (svalidSig_ct a (by omega) a2)) ?_
    rintro σ2 ⟨r, o', ⟨rfl, rfl⟩, hσ⟩
    obtain rfl := Option.some.inj hσ
    clear hσ
    refine rn rfl ?_
    refine goal_guard rfl rfl rfl (fun h1 => ?_) (fun h1 => ?_) <;> (try simp only [gt_iff_lt, ge_iff_le, bne_iff_ne, ne_eq, bne_eq_false_iff_eq, beq_iff_eq, beq_eq_false_iff_ne, Bool.not_eq_true', Bool.not_eq_false', decide_eq_true_eq, decide_eq_false_iff_not, List.length_map] at h1)
    · refine rn rfl ?_
      refine goal_step (step_call [] rfl rfl rfl rfl rfl rfl (svalidSig_ct b (by omega) b2)) ?_
      rintro σ2 ⟨r, o', ⟨rfl, rfl⟩, hσ⟩
      obtain rfl := Option.some.inj hσ
      clear hσ
      refine rn rfl ?_
      refine rn rfl (fin_is [] rfl ⟨?_, rfl⟩)
      simp [h1]
    · refine rn rfl (fin_is [] rfl ⟨?_, rfl⟩)
      simp [h1]
  refine acalls_of_body Tryz.func45 rfl (by kernel_rfl) rfl ?_
  refine rn rfl ?_
  refine goal_step (step_call [] rfl rfl rfl rfl rfl rfl (htw)) ?_
  rintro σ2 ⟨r, o', ⟨rfl, rfl⟩, hσ⟩
  obtain rfl := Option.some.inj hσ
  clear hσ
  refine rn rfl ?_
  refine goal_cond rfl (fun hs => ?_) (fun hs => ?_) <;> (try simp only [gt_iff_lt, ge_iff_le, bne_iff_ne, ne_eq, bne_eq_false_iff_eq, beq_iff_eq, beq_eq_false_iff_ne, Bool.not_eq_true', Bool.not_eq_false', decide_eq_true_eq, decide_eq_false_iff_not, List.length_map] at hs)
  · refine rn rfl (fin_is [] rfl ⟨?_, rfl⟩)
    rw [common_bad (by simpa using hs)]; rfl
  have hs' : okSig a = true ∧ okSig b = true := by simpa using hs
  have oa := okSig_iff.1 hs'.1
  have ob := okSig_iff.1 hs'.2
  have hl1 := oa.len
  have hl2 := ob.len
  refine rn rfl ?_
  refine goal_loop_keep (fun m σ => ∃ (q : Int) (i : Nat), q = i ∧ i ≤ 9 ∧ m = 9 - i ∧ (∀ j, j < i → comOk a b j = false) ∧
      σ = ⟨[(6, .one (.int .i64 q)), (4, .one (.op 2 0 0)), (3, .one (.op 1 0 0)), (2, .one (.op 0 0 0))], [some ⟨1, [eG a], false, false, true⟩, some ⟨1, [eG b], false, false, true⟩, some ⟨2, [[.int .i64 0, .fs []]], false, false, true⟩], []⟩) 9 [6, 4, 3, 2] [0, 1, 2] rfl
    ⟨_, 0, rfl, by omega, by omega, fun j hj => by omega, rfl⟩ ?_
  rintro m σ ⟨q, i, rfl, hi, rfl, hall, rfl⟩
  refine rn rfl ?_
  refine goal_cond rfl (fun h => ?_) (fun h => ?_) <;> (try simp only [gt_iff_lt, ge_iff_le, bne_iff_ne, ne_eq, bne_eq_false_iff_eq, beq_iff_eq, beq_eq_false_iff_ne, Bool.not_eq_true', Bool.not_eq_false', decide_eq_true_eq, decide_eq_false_iff_not, List.length_map] at h)
  · have hi8 : i ≤ 8 := by omega
    have hn1 := needNs_len a i
    have hn2 := needNs_len b i
    have hx : LenX (comX a b i) := ⟨by have := comX_len oa ob i; omega, fun m hm => by have := (comX_names oa ob i m hm).2; omega⟩
    refine rn rfl ?_
    have hA := sneedsP_ct a i oa hi8
    have hB := sneedsP_ct b i ob hi8
    have hdd : dedS (sortS (needNs a i) ++ sortS (needNs b i)) = (comX a b i).names := dedS_eq _
    have hAl : (sortS (needNs a i)).length ≤ 8 := by rw [sortS_length]; omega
    have hBl : (sortS (needNs b i)).length ≤ 8 := by rw [sortS_length]; omega
    generalize sortS (needNs a i) = A at *
    generalize sortS (needNs b i) = B at *
    refine goal_cut (fun σ' => σ' = ⟨[(7, .one (.op 3 0 0)), (6, .one (.int .i64 i)), (4, .one (.op 2 0 0)), (3, .one (.op 1 0 0)), (2, .one (.op 0 0 0))], [some ⟨1, [eG a], false, false, true⟩, some ⟨1, [eG b], false, false, true⟩, some ⟨2, [[.int .i64 0, .fs []]], false, false, true⟩, some ⟨2, [[.int .i64 i, .fs ((dedS (A ++ B)).map eS)]], false, false, true⟩], []⟩) ?_ ?_
    · refine goal_draw' [0, 1] 12 rfl ?_
      refine drn [0, 1, 2, 4, 5] (by kernel_rfl) (by kernel_rfl) rfl rfl ?_
      refine AH_two (i := 3) (j := 10) (by kernel_rfl) (step_call [] rfl rfl rfl rfl rfl rfl (hA)) (by simp) (step_did rfl rfl (dA_step rfl)) (mdOk rfl) ?_ ?_
      · rintro σ2 ⟨r, o', ⟨rfl, rfl⟩, hσ⟩
        obtain rfl := Option.some.inj hσ
        clear hσ
        refine AH_two (i := 6) (j := 10) (by kernel_rfl) (step_call [] rfl rfl rfl rfl rfl rfl (hB)) (by simp) (step_did rfl rfl (dA_step rfl)) (mdOk rfl) ?_ ?_
        · rintro σ2 ⟨r, o', ⟨rfl, rfl⟩, hσ⟩
          obtain rfl := Option.some.inj hσ
          clear hσ
          refine AH_two (i := 7) (j := 10) (by kernel_rfl) (step_did rfl rfl (dA_append (old := (A).map eS) (rows := (B : List Str).map eS) (((A) ++ (B : List Str)).map eS) (A.length + B.length) true (Dst.own rfl rfl rfl rfl rfl (by first | (simp; done) | (simp; omega)) (whole (by first | (simp; done) | (simp; omega)))) (Src.os rfl rfl (by simp) (by simp [List.take_of_length_le])) rfl rfl rfl rfl rfl rfl rfl rfl (rows_len eS_len _) (rows_len eS_len _) (by (try simp only [List.length_map, List.length_append, List.length_cons, List.length_nil, List.length_take, List.length_drop]); show _ * 16 ≤ _; omega) (by first | (simp; done) | (simp; omega)) (by simp) (by first | (simp; done) | (simp; omega)) (fun _ => noOwnR_map _ eS_noOwn _))) (mdOk rfl) (step_did rfl rfl (dA_step rfl)) (mdOk rfl) ?_ ?_
          · rintro _ rfl
            refine AH_two (i := 8) (j := 10) (by kernel_rfl) (step_callE [] rfl rfl rfl rfl rfl rfl (cons_eq (congrArg (fun x => T.one (C.fs x)) (takeAll eS (A ++ B) _ (by simp))) rfl) (sortedD_ct (A ++ B) (by simp only [List.length_append]; omega))) (by simp) (step_did rfl rfl (dA_step rfl)) (mdOk rfl) ?_ ?_
            · rintro σ2 ⟨r, o', ⟨rfl, rfl⟩, hσ⟩
              obtain rfl := Option.some.inj hσ
              clear hσ
              refine drn [9] (by kernel_rfl) (by kernel_rfl) rfl rfl ?_
              refine AH_oneDid 10 rfl (by kernel_rfl) rfl (dA_step rfl) (mdOk rfl) ?_
              refine AH_oneDid 11 rfl (by kernel_rfl) rfl (dA_step rfl) (mdOk rfl) ?_
              refine AH_end (by kernel_rfl) ?_
              refine rn rfl ?_
              exact cut_end [7, 6, 4, 3, 2] [0, 1, 2, 6] rfl rfl
            · rintro _ rfl
              refine AH_one (i := 8) (by kernel_rfl) (step_callE [] rfl rfl rfl rfl rfl rfl (cons_eq (congrArg (fun x => T.one (C.fs x)) (takeAll eS (A ++ B) _ (by simp))) rfl) (sortedD_ct (A ++ B) (by simp only [List.length_append]; omega))) (by simp) ?_
              rintro σ2 ⟨r, o', ⟨rfl, rfl⟩, hσ⟩
              obtain rfl := Option.some.inj hσ
              clear hσ
              refine drn [9] (by kernel_rfl) (by kernel_rfl) rfl rfl ?_
              refine AH_oneDid 11 rfl (by kernel_rfl) rfl (dA_step rfl) (mdOk rfl) ?_
              refine AH_end (by kernel_rfl) ?_
              refine rn rfl ?_
              exact cut_end [7, 6, 4, 3, 2] [0, 1, 2, 6] rfl rfl
          · rintro _ rfl
            refine AH_oneDid 7 rfl (by kernel_rfl) rfl (dA_append (old := (A).map eS) (rows := (B : List Str).map eS) (((A) ++ (B : List Str)).map eS) (A.length + B.length) true (Dst.own rfl rfl rfl rfl rfl (by first | (simp; done) | (simp; omega)) (whole (by first | (simp; done) | (simp; omega)))) (Src.os rfl rfl (by simp) (by simp [List.take_of_length_le])) rfl rfl rfl rfl rfl rfl rfl rfl (rows_len eS_len _) (rows_len eS_len _) (by (try simp only [List.length_map, List.length_append, List.length_cons, List.length_nil, List.length_take, List.length_drop]); show _ * 16 ≤ _; omega) (by first | (simp; done) | (simp; omega)) (by simp) (by first | (simp; done) | (simp; omega)) (fun _ => noOwnR_map _ eS_noOwn _)) (mdOk rfl) ?_
            refine AH_one (i := 8) (by kernel_rfl) (step_callE [] rfl rfl rfl rfl rfl rfl (cons_eq (congrArg (fun x => T.one (C.fs x)) (takeAll eS (A ++ B) _ (by simp))) rfl) (sortedD_ct (A ++ B) (by simp only [List.length_append]; omega))) (by simp) ?_
            rintro σ2 ⟨r, o', ⟨rfl, rfl⟩, hσ⟩
            obtain rfl := Option.some.inj hσ
            clear hσ
            refine drn [9] (by kernel_rfl) (by kernel_rfl) rfl rfl ?_
            refine AH_oneDid 11 rfl (by kernel_rfl) rfl (dA_step rfl) (mdOk rfl) ?_
            refine AH_end (by kernel_rfl) ?_
            refine rn rfl ?_
            exact cut_end [7, 6, 4, 3, 2] [0, 1, 2, 5] rfl rfl
        · rintro _ rfl
          refine AH_one (i := 6) (by kernel_rfl) (step_call [] rfl rfl rfl rfl rfl rfl (hB)) (by simp) ?_
          rintro σ2 ⟨r, o', ⟨rfl, rfl⟩, hσ⟩
          obtain rfl := Option.some.inj hσ
          clear hσ
          refine AH_oneDid 7 rfl (by kernel_rfl) rfl (dA_append (old := (A).map eS) (rows := (B : List Str).map eS) (((A) ++ (B : List Str)).map eS) (A.length + B.length) true (Dst.own rfl rfl rfl rfl rfl (by first | (simp; done) | (simp; omega)) (whole (by first | (simp; done) | (simp; omega)))) (Src.os rfl rfl (by simp) (by simp [List.take_of_length_le])) rfl rfl rfl rfl rfl rfl rfl rfl (rows_len eS_len _) (rows_len eS_len _) (by (try simp only [List.length_map, List.length_append, List.length_cons, List.length_nil, List.length_take, List.length_drop]); show _ * 16 ≤ _; omega) (by first | (simp; done) | (simp; omega)) (by simp) (by first | (simp; done) | (simp; omega)) (fun _ => noOwnR_map _ eS_noOwn _)) (mdOk rfl) ?_
          refine AH_one (i := 8) (by kernel_rfl) (step_callE [] rfl rfl rfl rfl rfl rfl (cons_eq (congrArg (fun x => T.one (C.fs x)) (takeAll eS (A ++ B) _ (by simp))) rfl) (sortedD_ct (A ++ B) (by simp only [List.length_append]; omega))) (by simp) ?_
          rintro σ2 ⟨r, o', ⟨rfl, rfl⟩, hσ⟩
          obtain rfl := Option.some.inj hσ
          clear hσ
          refine drn [9] (by kernel_rfl) (by kernel_rfl) rfl rfl ?_
          refine AH_oneDid 11 rfl (by kernel_rfl) rfl (dA_step rfl) (mdOk rfl) ?_
          refine AH_end (by kernel_rfl) ?_
          refine rn rfl ?_
          exact cut_end [7, 6, 4, 3, 2] [0, 1, 2, 4] rfl rfl
      · rintro _ rfl
        refine AH_one (i := 3) (by kernel_rfl) (step_call [] rfl rfl rfl rfl rfl rfl (hA)) (by simp) ?_
        rintro σ2 ⟨r, o', ⟨rfl, rfl⟩, hσ⟩
        obtain rfl := Option.some.inj hσ
        clear hσ
        refine AH_one (i := 6) (by kernel_rfl) (step_call [] rfl rfl rfl rfl rfl rfl (hB)) (by simp) ?_
        rintro σ2 ⟨r, o', ⟨rfl, rfl⟩, hσ⟩
        obtain rfl := Option.some.inj hσ
        clear hσ
        refine AH_oneDid 7 rfl (by kernel_rfl) rfl (dA_append (old := (A).map eS) (rows := (B : List Str).map eS) (((A) ++ (B : List Str)).map eS) (A.length + B.length) true (Dst.own rfl rfl rfl rfl rfl (by first | (simp; done) | (simp; omega)) (whole (by first | (simp; done) | (simp; omega)))) (Src.os rfl rfl (by simp) (by simp [List.take_of_length_le])) rfl rfl rfl rfl rfl rfl rfl rfl (rows_len eS_len _) (rows_len eS_len _) (by (try simp only [List.length_map, List.length_append, List.length_cons, List.length_nil, List.length_take, List.length_drop]); show _ * 16 ≤ _; omega) (by first | (simp; done) | (simp; omega)) (by simp) (by first | (simp; done) | (simp; omega)) (fun _ => noOwnR_map _ eS_noOwn _)) (mdOk rfl) ?_
        refine AH_one (i := 8) (by kernel_rfl) (step_callE [] rfl rfl rfl rfl rfl rfl (cons_eq (congrArg (fun x => T.one (C.fs x)) (takeAll eS (A ++ B) _ (by simp))) rfl) (sortedD_ct (A ++ B) (by simp only [List.length_append]; omega))) (by simp) ?_
        rintro σ2 ⟨r, o', ⟨rfl, rfl⟩, hσ⟩
        obtain rfl := Option.some.inj hσ
        clear hσ
        refine drn [9] (by kernel_rfl) (by kernel_rfl) rfl rfl ?_
        refine AH_oneDid 11 rfl (by kernel_rfl) rfl (dA_step rfl) (mdOk rfl) ?_
        refine AH_end (by kernel_rfl) ?_
        refine rn rfl ?_
        exact cut_end [7, 6, 4, 3, 2] [0, 1, 2, 3] rfl rfl
    rintro σ' rfl
    rw [hdd]
    have hxc : (comX a b i).count = (i : Int) := rfl
    have hsp := com_spec oa ob hi8
    have hlf : LenF (flatX (comX a b i)) := by
      have hx16 := comX_len oa ob i
      refine ⟨by simp only [flatX_places, hxc]; omega, by simp only [flatX, List.length_map]; omega, fun p hp => ?_⟩
      obtain ⟨n, hn, rfl⟩ := List.mem_map.1 hp
      exact hx.names n hn
    have hx16 := comX_len oa ob i
    have hfl := sflatOf_ct (comX a b i) i hxc (by omega) (by omega)
    have hfa := saccepts_ct a (flatX (comX a b i)) oa hlf
    have hfb := saccepts_ct b (flatX (comX a b i)) ob hlf
    have hbx : (C.int .i64 (i : Int)) = C.int .i64 (comX a b i).count := rfl
    refine rn rfl ?_
    refine goal_draw' [0, 1, 2, 3] 16 rfl ?_
    refine drn [0, 1, 2, 3, 4] (by kernel_rfl) (by kernel_rfl) rfl rfl ?_
    refine AH_guard (i := 5) rfl rfl rfl (fun h5 => ?_) (fun h5 => ?_) <;> (try simp only [gt_iff_lt, ge_iff_le, bne_iff_ne, ne_eq, bne_eq_false_iff_eq, beq_iff_eq, beq_eq_false_iff_ne, Bool.not_eq_true', Bool.not_eq_false', decide_eq_true_eq, decide_eq_false_iff_not, List.length_map] at h5)
    · have next : (accQ a (flatX (comX a b i)) && accQ b (flatX (comX a b i))) = false → ∀ j, j < i + 1 → comOk a b j = false := fun h0 j hj => by
        by_cases hji : j = i
        · subst hji; rw [hsp, h0, Bool.and_false]
        · exact hall j (by omega)
      refine drn [5, 6] (by kernel_rfl) (by kernel_rfl) rfl rfl ?_
      refine AH_one (i := 7) (by kernel_rfl) (step_call [] rfl rfl rfl rfl rfl rfl (hfl)) (by simp) ?_
      rintro σ2 ⟨r, o', ⟨rfl, rfl⟩, hσ⟩
      obtain rfl := Option.some.inj hσ
      clear hσ
      refine AH_one (i := 8) (by kernel_rfl) (step_call [] rfl rfl rfl rfl rfl rfl (hfa)) (by simp) ?_
      rintro σ2 ⟨r, o', ⟨rfl, rfl⟩, hσ⟩
      obtain rfl := Option.some.inj hσ
      clear hσ
      refine drn [9, 10] (by kernel_rfl) (by kernel_rfl) rfl rfl ?_
      refine AH_guard (i := 11) rfl rfl rfl (fun h6 => ?_) (fun h6 => ?_) <;> (try simp only [gt_iff_lt, ge_iff_le, bne_iff_ne, ne_eq, bne_eq_false_iff_eq, beq_iff_eq, beq_eq_false_iff_ne, Bool.not_eq_true', Bool.not_eq_false', decide_eq_true_eq, decide_eq_false_iff_not, List.length_map] at h6)
      · refine drn [11, 12] (by kernel_rfl) (by kernel_rfl) rfl rfl ?_
        refine AH_one (i := 13) (by kernel_rfl) (step_call [] rfl rfl rfl rfl rfl rfl (hfl)) (by simp) ?_
        rintro σ2 ⟨r, o', ⟨rfl, rfl⟩, hσ⟩
        obtain rfl := Option.some.inj hσ
        clear hσ
        refine AH_one (i := 14) (by kernel_rfl) (step_call [] rfl rfl rfl rfl rfl rfl (hfb)) (by simp) ?_
        rintro σ2 ⟨r, o', ⟨rfl, rfl⟩, hσ⟩
        obtain rfl := Option.some.inj hσ
        clear hσ
        refine drn [15] (by kernel_rfl) (by kernel_rfl) rfl rfl ?_
        refine AH_end (by kernel_rfl) ?_
        refine rn rfl ?_
        refine goal_cond rfl (fun h7 => ?_) (fun h7 => ?_)
        · have hle : CommonF a b = (comX a b i, true) := common_at hs'.1 hs'.2 hi8 hall (by rw [hsp, h6, h7]; simp; omega)
          rw [hle]
          refine rn rfl (round_ret (fin_is [] rfl ⟨rfl, rfl⟩))
        · refine rn rfl ?_
          refine round_keep (9 - (i + 1)) [6, 4, 3, 2] [0, 1, 2] (by omega) rfl ⟨_, i + 1, wrap64 (by omega) (by omega), by omega, rfl, next (by rw [h7, Bool.and_false]), rfl⟩
      · refine drn [11, 12, 13, 14, 15] (by kernel_rfl) (by kernel_rfl) rfl rfl ?_
        refine AH_end (by kernel_rfl) ?_
        refine rn rfl ?_
        refine rn rfl ?_
        refine round_keep (9 - (i + 1)) [6, 4, 3, 2] [0, 1, 2] (by omega) rfl ⟨_, i + 1, wrap64 (by omega) (by omega), by omega, rfl, next (by rw [h6, Bool.false_and]), rfl⟩
    · refine drn [5, 6, 7, 8, 9, 10, 11, 12, 13, 14, 15] (by kernel_rfl) (by kernel_rfl) rfl rfl ?_
      refine AH_end (by kernel_rfl) ?_
      refine rn rfl ?_
      refine rn rfl ?_
      refine round_keep (9 - (i + 1)) [6, 4, 3, 2] [0, 1, 2] (by omega) rfl ⟨_, i + 1, wrap64 (by omega) (by omega), by omega, rfl, fun j hj => ?_, rfl⟩
      by_cases hji : j = i
      · subst hji; rw [hsp, show decide ((comX a b j).names.length ≤ 8) = false by simp; omega, Bool.false_and]
      · exact hall j (by omega)
  · refine rn rfl (round_ext ?_)
    rw [common_none fun j hj => hall j (by omega)]
    exact rn rfl (fin_is [] rfl ⟨rfl, rfl⟩)

theorem common_len (a b : Sig) : (CommonF a b).1.names.length ≤ 8 := by
  cases h : (CommonF a b).2 with
  | true =>
    obtain ⟨i, oa, ob, hi, hok, he⟩ := common_ok h
    rw [he]
    unfold comOk at hok
    simp only [Bool.and_eq_true] at hok
    have := acc_okX hok.1
    rw [comX_ok oa ob hi] at this
    simpa using this
  | false =>
    unfold CommonF at h ⊢
    cases hs : (okSig a && okSig b) with
    | false => simp
    | true =>
      rw [hs] at h
      cases hl : (List.range 9).find? (comOk a b) with
      | none => simp
      | some n => rw [hl] at h; cases h

theorem fnExactCommonShape_ct (a b : Sig) (ha : FitsS a) (hb : FitsS b) : ACalls pk 9 [.agg (eG a), .agg (eG b)] [] (fun r o => r = .one (.bool true) ∧ o = []) := by
  refine acalls_of_body Tryz.func9 rfl (by kernel_rfl) rfl ?_
  refine rn rfl ?_
  refine goal_step (step_call [] rfl rfl rfl rfl rfl rfl (szSig_ct a 1048576 (by omega) (by omega) ha)) ?_
  rintro σ2 ⟨r, o', ⟨rfl, rfl⟩, hσ⟩
  obtain rfl := Option.some.inj hσ
  clear hσ
  refine rn rfl ?_
  refine goal_cond rfl (fun h => ?_) (fun h => ?_) <;> (try simp only [gt_iff_lt, ge_iff_le, bne_iff_ne, ne_eq, bne_eq_false_iff_eq, beq_iff_eq, beq_eq_false_iff_ne, Bool.not_eq_true', Bool.not_eq_false', decide_eq_true_eq, decide_eq_false_iff_not, List.length_map] at h)
  · exact rn rfl (fin_is [] rfl ⟨rfl, rfl⟩)
  obtain ⟨p0, p1⟩ := szParamS_ok (by omega) h
  refine rn rfl ?_
  refine goal_step (step_call [] rfl rfl rfl rfl rfl rfl (szSig_ct b (szParamS a 1048576) (by omega) (by omega) hb)) ?_
  rintro σ2 ⟨r, o', ⟨rfl, rfl⟩, hσ⟩
  obtain rfl := Option.some.inj hσ
  clear hσ
  refine rn rfl ?_
  refine goal_cond rfl (fun h2 => ?_) (fun h2 => ?_) <;> (try simp only [gt_iff_lt, ge_iff_le, bne_iff_ne, ne_eq, bne_eq_false_iff_eq, beq_iff_eq, beq_eq_false_iff_ne, Bool.not_eq_true', Bool.not_eq_false', decide_eq_true_eq, decide_eq_false_iff_not, List.length_map] at h2)
  · exact rn rfl (fin_is [] rfl ⟨rfl, rfl⟩)
  obtain ⟨q0, q1⟩ := szParamS_ok (by omega) h2
  refine rt1 8 rfl ?_
  have la : LenS a := ⟨by omega, ha.names⟩
  have lb : LenS b := ⟨by omega, hb.names⟩
  have g1 := common_len a b
  have hi := icommon_ct a b la lb
  have hsp := scommon_ct a b la lb
  have hd : ACalls pk 44 [.agg (eG a), .agg (eG b)] [] (fun r o => r = .tup [.agg (eX (CommonF a b).1), .one (.bool (CommonF a b).2)] ∧ o = []) :=
    (icommon_ct a b la lb).told [] (by rintro r o ⟨rfl, rfl⟩; exact ⟨_, _, rfl, congrArg (fun t => T.tup [t, .one (.bool (CommonF a b).2)]) (asX _), rfl⟩)
  generalize (CommonF a b).1 = x at *
  generalize (CommonF a b).2 = c at *
  refine goal_cutR (fun σ' => σ' = ⟨[(7, .one (.bool c)), (6, .one (.op 2 0 0)), (3, .one (.op 1 0 0)), (2, .one (.op 0 0 0))], [some ⟨1, [eG a], false, false, true⟩, some ⟨1, [eG b], false, false, true⟩, some ⟨2, [eX x], false, false, true⟩], []⟩) ?_ ?_
  · refine goal_draw' [0, 1] 11 rfl ?_
    refine drn [0, 2] (by kernel_rfl) (by kernel_rfl) rfl rfl ?_
    refine AH_two (i := 1) (j := 8) (by kernel_rfl) (step_call [] rfl rfl rfl rfl rfl rfl (toSigD_ct a (by omega))) (by simp) (step_did rfl rfl (dA_step rfl)) (mdOk rfl) ?_ ?_
    · rintro σ2 ⟨r, o', ⟨rfl, rfl⟩, hσ⟩
      obtain rfl := Option.some.inj hσ
      clear hσ
      refine AH_two (i := 3) (j := 8) (by kernel_rfl) (step_call [] rfl rfl rfl rfl rfl rfl (toSigD_ct b (by omega))) (by simp) (step_did rfl rfl (dA_step rfl)) (mdOk rfl) ?_ ?_
      · rintro σ2 ⟨r, o', ⟨rfl, rfl⟩, hσ⟩
        obtain rfl := Option.some.inj hσ
        clear hσ
        refine AH_two (i := 4) (j := 8) (by kernel_rfl) (step_call [] rfl rfl rfl rfl rfl rfl (hsp)) (by simp) (step_did rfl rfl (dA_step rfl)) (mdOk rfl) ?_ ?_
        · rintro σ2 ⟨r, o', ⟨rfl, rfl⟩, hσ⟩
          obtain rfl := Option.some.inj hσ
          clear hσ
          refine drn [5, 6, 7] (by kernel_rfl) (by kernel_rfl) rfl rfl ?_
          refine AH_oneDid 8 rfl (by kernel_rfl) rfl (dA_step rfl) (mdOk rfl) ?_
          refine AH_oneDid 9 rfl (by kernel_rfl) rfl (dA_step rfl) (mdOk rfl) ?_
          refine drn [10] (by kernel_rfl) (by kernel_rfl) rfl rfl ?_
          refine AH_end (by kernel_rfl) ?_
          refine rn rfl ?_
          exact cut_nrm [7, 6, 3, 2] [0, 1, 2] rfl rfl
        · rintro _ rfl
          refine AH_one (i := 4) (by kernel_rfl) (step_call [] rfl rfl rfl rfl rfl rfl (hsp)) (by simp) ?_
          rintro σ2 ⟨r, o', ⟨rfl, rfl⟩, hσ⟩
          obtain rfl := Option.some.inj hσ
          clear hσ
          refine drn [5, 6, 7] (by kernel_rfl) (by kernel_rfl) rfl rfl ?_
          refine AH_oneDid 9 rfl (by kernel_rfl) rfl (dA_step rfl) (mdOk rfl) ?_
          refine drn [10] (by kernel_rfl) (by kernel_rfl) rfl rfl ?_
          refine AH_end (by kernel_rfl) ?_
          refine rn rfl ?_
          exact cut_nrm [7, 6, 3, 2] [0, 1, 2] rfl rfl
      · rintro _ rfl
        refine AH_one (i := 3) (by kernel_rfl) (step_call [] rfl rfl rfl rfl rfl rfl (toSigD_ct b (by omega))) (by simp) ?_
        rintro σ2 ⟨r, o', ⟨rfl, rfl⟩, hσ⟩
        obtain rfl := Option.some.inj hσ
        clear hσ
        refine AH_one (i := 4) (by kernel_rfl) (step_call [] rfl rfl rfl rfl rfl rfl (hsp)) (by simp) ?_
        rintro σ2 ⟨r, o', ⟨rfl, rfl⟩, hσ⟩
        obtain rfl := Option.some.inj hσ
        clear hσ
        refine drn [5, 6, 7] (by kernel_rfl) (by kernel_rfl) rfl rfl ?_
        refine AH_oneDid 9 rfl (by kernel_rfl) rfl (dA_step rfl) (mdOk rfl) ?_
        refine drn [10] (by kernel_rfl) (by kernel_rfl) rfl rfl ?_
        refine AH_end (by kernel_rfl) ?_
        refine rn rfl ?_
        exact cut_nrm [7, 6, 3, 2] [0, 1, 2] rfl rfl
    · rintro _ rfl
      refine AH_one (i := 1) (by kernel_rfl) (step_call [] rfl rfl rfl rfl rfl rfl (toSigD_ct a (by omega))) (by simp) ?_
      rintro σ2 ⟨r, o', ⟨rfl, rfl⟩, hσ⟩
      obtain rfl := Option.some.inj hσ
      clear hσ
      refine AH_one (i := 3) (by kernel_rfl) (step_call [] rfl rfl rfl rfl rfl rfl (toSigD_ct b (by omega))) (by simp) ?_
      rintro σ2 ⟨r, o', ⟨rfl, rfl⟩, hσ⟩
      obtain rfl := Option.some.inj hσ
      clear hσ
      refine AH_one (i := 4) (by kernel_rfl) (step_call [] rfl rfl rfl rfl rfl rfl (hsp)) (by simp) ?_
      rintro σ2 ⟨r, o', ⟨rfl, rfl⟩, hσ⟩
      obtain rfl := Option.some.inj hσ
      clear hσ
      refine drn [5, 6, 7] (by kernel_rfl) (by kernel_rfl) rfl rfl ?_
      refine AH_oneDid 9 rfl (by kernel_rfl) rfl (dA_step rfl) (mdOk rfl) ?_
      refine drn [10] (by kernel_rfl) (by kernel_rfl) rfl rfl ?_
      refine AH_end (by kernel_rfl) ?_
      refine rn rfl ?_
      exact cut_nrm [7, 6, 3, 2] [0, 1, 2] rfl rfl
  rintro _ rfl
  refine rn rfl ?_
  refine goal_step (step_call [] rfl rfl rfl rfl rfl rfl (toSig_ct a (by omega))) ?_
  rintro σ2 ⟨r, o', ⟨rfl, rfl⟩, hσ⟩
  obtain rfl := Option.some.inj hσ
  clear hσ
  refine rn rfl ?_
  refine rn rfl ?_
  refine goal_step (step_call [] rfl rfl rfl rfl rfl rfl (toSig_ct b (by omega))) ?_
  rintro σ2 ⟨r, o', ⟨rfl, rfl⟩, hσ⟩
  obtain rfl := Option.some.inj hσ
  clear hσ
  refine rn rfl ?_
  refine rn rfl ?_
  refine goal_step (step_lendE [] rfl rfl rfl rfl rfl rfl rfl (cons_eq (asG a) (cons_eq (asG b) rfl)) (hi) (by rintro r o ⟨rfl, rfl⟩; exact ⟨rfl, by simp [oX, ownS, noFzO, noFzR_map eS (fun _ => rfl)]⟩)) ?_
  rintro σ2 ⟨r, o', ⟨rfl, rfl⟩, hσ⟩
  obtain rfl := Option.some.inj hσ
  clear hσ
  refine rn rfl ?_
  refine goal_step (step_lendE [] rfl rfl rfl rfl rfl rfl rfl (congrArg (fun t => [t, T.agg (eX x)]) (asX x)) (eqShape_ct x (by omega)) (by rintro r o ⟨rfl, rfl⟩; exact ⟨rfl, rfl⟩)) ?_
  rintro σ2 ⟨r, o', ⟨rfl, rfl⟩, hσ⟩
  obtain rfl := Option.some.inj hσ
  clear hσ
  refine rn rfl ?_
  refine goal_guard rfl rfl rfl (fun h1 => by cases h1) (fun _ => ?_)
  refine rn rfl ?_
  refine goal_cond rfl (fun h => by simp at h) (fun _ => ?_)
  refine rn rfl ?_
  refine goal_draw' [0, 4] 5 rfl ?_
  refine drn [0, 1] (by kernel_rfl) (by kernel_rfl) rfl rfl ?_
  refine AH_one (i := 2) (by kernel_rfl) (step_call [] rfl rfl rfl rfl rfl rfl (toSigD_ct a (by omega))) (by simp) ?_
  rintro σ2 ⟨r, o', ⟨rfl, rfl⟩, hσ⟩
  obtain rfl := Option.some.inj hσ
  clear hσ
  refine AH_one (i := 3) (by kernel_rfl) (step_lendE [] rfl rfl rfl rfl rfl rfl rfl (cons_eq (asG a) rfl) (eqSig_ct a (by omega)) (by rintro r o ⟨rfl, rfl⟩; exact ⟨rfl, rfl⟩)) (by simp) ?_
  rintro σ2 ⟨r, o', ⟨rfl, rfl⟩, hσ⟩
  obtain rfl := Option.some.inj hσ
  clear hσ
  refine drn [4] (by kernel_rfl) (by kernel_rfl) rfl rfl ?_
  refine AH_end (by kernel_rfl) ?_
  refine rn rfl ?_
  refine goal_cond rfl (fun h => by simp at h) (fun _ => ?_)
  refine rn rfl ?_
  refine goal_draw' [1, 6] 5 rfl ?_
  refine drn [0, 1] (by kernel_rfl) (by kernel_rfl) rfl rfl ?_
  refine AH_one (i := 2) (by kernel_rfl) (step_call [] rfl rfl rfl rfl rfl rfl (toSigD_ct b (by omega))) (by simp) ?_
  rintro σ2 ⟨r, o', ⟨rfl, rfl⟩, hσ⟩
  obtain rfl := Option.some.inj hσ
  clear hσ
  refine AH_one (i := 3) (by kernel_rfl) (step_lendE [] rfl rfl rfl rfl rfl rfl rfl (cons_eq (asG b) rfl) (eqSig_ct b (by omega)) (by rintro r o ⟨rfl, rfl⟩; exact ⟨rfl, rfl⟩)) (by simp) ?_
  rintro σ2 ⟨r, o', ⟨rfl, rfl⟩, hσ⟩
  obtain rfl := Option.some.inj hσ
  clear hσ
  refine drn [4] (by kernel_rfl) (by kernel_rfl) rfl rfl ?_
  refine AH_end (by kernel_rfl) ?_
  refine rn rfl ?_
  refine goal_cond rfl (fun h => by simp at h) (fun _ => ?_)
  refine rn rfl ?_
  refine goal_step (step_call [3] rfl rfl rfl rfl rfl rfl (markSig_ct a 1 _ (by omega) (by omega) (by omega))) ?_
  rintro σ2 ⟨r, o', ⟨rfl, rfl⟩, hσ⟩
  obtain rfl := Option.some.inj hσ
  clear hσ
  refine rn rfl ?_
  refine rn rfl ?_
  refine goal_step (step_call [5] rfl rfl rfl rfl rfl rfl (markSig_ct b _ _ (by omega) (by omega) (by omega))) ?_
  rintro σ2 ⟨r, o', ⟨rfl, rfl⟩, hσ⟩
  obtain rfl := Option.some.inj hσ
  clear hσ
  refine rn rfl ?_
  refine rn rfl ?_
  refine goal_guard rfl rfl rfl (fun h => ?_) (fun h => ?_) <;> (try simp only [gt_iff_lt, ge_iff_le, bne_iff_ne, ne_eq, bne_eq_false_iff_eq, beq_iff_eq, beq_eq_false_iff_ne, Bool.not_eq_true', Bool.not_eq_false', decide_eq_true_eq, decide_eq_false_iff_not, List.length_map] at h)
  · omega
  refine rn rfl ?_
  refine goal_step (step_lendE [] rfl rfl rfl rfl rfl rfl rfl (congrArg (fun t => [t, T.agg (eX x)]) (asX x)) (eqShape_ct x (by omega)) (by rintro r o ⟨rfl, rfl⟩; exact ⟨rfl, rfl⟩)) ?_
  rintro σ2 ⟨r, o', ⟨rfl, rfl⟩, hσ⟩
  obtain rfl := Option.some.inj hσ
  clear hσ
  refine rn rfl ?_
  refine goal_guard rfl rfl rfl (fun h1 => by cases h1) (fun _ => ?_)
  refine rn rfl ?_
  refine goal_cond rfl (fun h => by simp at h) (fun _ => ?_)
  refine rn rfl ?_
  refine goal_step (step_call [7] rfl rfl rfl rfl rfl rfl (markShape_ct x 1 x.names.length (by omega) (by omega) (by omega))) ?_
  rintro σ2 ⟨r, o', ⟨rfl, rfl⟩, hσ⟩
  obtain rfl := Option.some.inj hσ
  clear hσ
  refine rn rfl ?_
  refine rn rfl ?_
  refine goal_step (step_lendE [] rfl rfl rfl rfl rfl rfl rfl (congrArg (fun t => [T.agg [C.int .i64 x.count, C.fs t], T.one (.int .i64 1)]) (takeAll eS _ _ (seqS_length _ _))) (heldShape_ct x.count x.names.length 1 (by omega) (by omega) (by omega)) (by rintro r o ⟨rfl, rfl⟩; exact ⟨rfl, rfl⟩)) ?_
  rintro σ2 ⟨r, o', ⟨rfl, rfl⟩, hσ⟩
  obtain rfl := Option.some.inj hσ
  clear hσ
  refine rn rfl ?_
  refine goal_cond rfl (fun h => ?_) (fun h => ?_) <;> simp only [decide_eq_true_eq, decide_eq_false_iff_not] at h
  · omega
  refine rn rfl ?_
  refine goal_cond rfl (fun h => by simp at h) (fun _ => ?_)
  refine rt1 31 rfl ?_
  refine goal_cutR (fun σ' => σ' = ⟨[(16, .one (.bool c)), (15, .one (.op 3 0 0)), (13, .one (.int .i64 (1 + x.names.length))), (10, .one (.op 1 0 0)), (7, .one (.bool c)), (6, .one (.op 0 0 0))],
    [some ⟨2, [eX x], false, false, true⟩, some ⟨2, [[.int .i64 x.count, .os 2 0 x.names.length x.names.length]], false, false, true⟩, ownS (seqS 1 x.names.length), some ⟨2, [eX x], false, false, true⟩], []⟩) ?_ ?_
  · refine goal_draw' [0, 1] 11 rfl ?_
    refine drn [0, 2] (by kernel_rfl) (by kernel_rfl) rfl rfl ?_
    refine AH_two (i := 1) (j := 8) (by kernel_rfl) (step_call [] rfl rfl rfl rfl rfl rfl (toSigD_ct a (by omega))) (by simp) (step_did rfl rfl (dA_step rfl)) (mdOk rfl) ?_ ?_
    · rintro σ2 ⟨r, o', ⟨rfl, rfl⟩, hσ⟩
      obtain rfl := Option.some.inj hσ
      clear hσ
      refine AH_two (i := 3) (j := 8) (by kernel_rfl) (step_call [] rfl rfl rfl rfl rfl rfl (toSigD_ct b (by omega))) (by simp) (step_did rfl rfl (dA_step rfl)) (mdOk rfl) ?_ ?_
      · rintro σ2 ⟨r, o', ⟨rfl, rfl⟩, hσ⟩
        obtain rfl := Option.some.inj hσ
        clear hσ
        refine AH_two (i := 4) (j := 8) (by kernel_rfl) (step_call [] rfl rfl rfl rfl rfl rfl (hd)) (by simp) (step_did rfl rfl (dA_step rfl)) (mdOk rfl) ?_ ?_
        · rintro σ2 ⟨r, o', ⟨rfl, rfl⟩, hσ⟩
          obtain rfl := Option.some.inj hσ
          clear hσ
          refine drn [5, 6, 7] (by kernel_rfl) (by kernel_rfl) rfl rfl ?_
          refine AH_oneDid 8 rfl (by kernel_rfl) rfl (dA_step rfl) (mdOk rfl) ?_
          refine AH_oneDid 9 rfl (by kernel_rfl) rfl (dA_step rfl) (mdOk rfl) ?_
          refine drn [10] (by kernel_rfl) (by kernel_rfl) rfl rfl ?_
          refine AH_end (by kernel_rfl) ?_
          refine rn rfl ?_
          exact cut_nrm [16, 15, 13, 10, 7, 6] [2, 8, 7, 9] rfl rfl
        · rintro _ rfl
          refine AH_one (i := 4) (by kernel_rfl) (step_call [] rfl rfl rfl rfl rfl rfl (hd)) (by simp) ?_
          rintro σ2 ⟨r, o', ⟨rfl, rfl⟩, hσ⟩
          obtain rfl := Option.some.inj hσ
          clear hσ
          refine drn [5, 6, 7] (by kernel_rfl) (by kernel_rfl) rfl rfl ?_
          refine AH_oneDid 9 rfl (by kernel_rfl) rfl (dA_step rfl) (mdOk rfl) ?_
          refine drn [10] (by kernel_rfl) (by kernel_rfl) rfl rfl ?_
          refine AH_end (by kernel_rfl) ?_
          refine rn rfl ?_
          exact cut_nrm [16, 15, 13, 10, 7, 6] [2, 8, 7, 9] rfl rfl
      · rintro _ rfl
        refine AH_one (i := 3) (by kernel_rfl) (step_call [] rfl rfl rfl rfl rfl rfl (toSigD_ct b (by omega))) (by simp) ?_
        rintro σ2 ⟨r, o', ⟨rfl, rfl⟩, hσ⟩
        obtain rfl := Option.some.inj hσ
        clear hσ
        refine AH_one (i := 4) (by kernel_rfl) (step_call [] rfl rfl rfl rfl rfl rfl (hd)) (by simp) ?_
        rintro σ2 ⟨r, o', ⟨rfl, rfl⟩, hσ⟩
        obtain rfl := Option.some.inj hσ
        clear hσ
        refine drn [5, 6, 7] (by kernel_rfl) (by kernel_rfl) rfl rfl ?_
        refine AH_oneDid 9 rfl (by kernel_rfl) rfl (dA_step rfl) (mdOk rfl) ?_
        refine drn [10] (by kernel_rfl) (by kernel_rfl) rfl rfl ?_
        refine AH_end (by kernel_rfl) ?_
        refine rn rfl ?_
        exact cut_nrm [16, 15, 13, 10, 7, 6] [2, 8, 7, 9] rfl rfl
    · rintro _ rfl
      refine AH_one (i := 1) (by kernel_rfl) (step_call [] rfl rfl rfl rfl rfl rfl (toSigD_ct a (by omega))) (by simp) ?_
      rintro σ2 ⟨r, o', ⟨rfl, rfl⟩, hσ⟩
      obtain rfl := Option.some.inj hσ
      clear hσ
      refine AH_one (i := 3) (by kernel_rfl) (step_call [] rfl rfl rfl rfl rfl rfl (toSigD_ct b (by omega))) (by simp) ?_
      rintro σ2 ⟨r, o', ⟨rfl, rfl⟩, hσ⟩
      obtain rfl := Option.some.inj hσ
      clear hσ
      refine AH_one (i := 4) (by kernel_rfl) (step_call [] rfl rfl rfl rfl rfl rfl (hd)) (by simp) ?_
      rintro σ2 ⟨r, o', ⟨rfl, rfl⟩, hσ⟩
      obtain rfl := Option.some.inj hσ
      clear hσ
      refine drn [5, 6, 7] (by kernel_rfl) (by kernel_rfl) rfl rfl ?_
      refine AH_oneDid 9 rfl (by kernel_rfl) rfl (dA_step rfl) (mdOk rfl) ?_
      refine drn [10] (by kernel_rfl) (by kernel_rfl) rfl rfl ?_
      refine AH_end (by kernel_rfl) ?_
      refine rn rfl ?_
      exact cut_nrm [16, 15, 13, 10, 7, 6] [2, 8, 7, 9] rfl rfl
  rintro _ rfl
  refine rn rfl ?_
  refine goal_step (step_call [] rfl rfl rfl rfl rfl rfl (eqShape_ct x (by omega))) ?_
  rintro σ2 ⟨r, o', ⟨rfl, rfl⟩, hσ⟩
  obtain rfl := Option.some.inj hσ
  clear hσ
  refine rn rfl ?_
  refine goal_guard rfl rfl rfl (fun h1 => by cases h1) (fun _ => ?_)
  refine rn rfl ?_
  refine goal_cond rfl (fun h => by simp at h) (fun _ => ?_)
  refine rn rfl ?_
  refine goal_step (step_lendE [] rfl rfl rfl rfl rfl rfl rfl (congrArg (fun t => [T.agg [C.int .i64 x.count, C.fs t], T.one (.int .i64 1)]) (takeAll eS _ _ (seqS_length _ _))) (heldShape_ct x.count x.names.length 1 (by omega) (by omega) (by omega)) (by rintro r o ⟨rfl, rfl⟩; exact ⟨rfl, rfl⟩)) ?_
  rintro σ2 ⟨r, o', ⟨rfl, rfl⟩, hσ⟩
  obtain rfl := Option.some.inj hσ
  clear hσ
  refine rn rfl ?_
  refine goal_cond rfl (fun h => ?_) (fun h => ?_) <;> simp only [decide_eq_true_eq, decide_eq_false_iff_not] at h
  · omega
  refine rn rfl ?_
  refine goal_cond rfl (fun h => by simp at h) (fun _ => ?_)
  exact rn rfl (fin_is [] rfl ⟨rfl, rfl⟩)

end Go.Proofs.YtalplgabhichfaaGreat
