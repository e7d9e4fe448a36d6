/- Part 4 of the proof: an abstract machine over the model; contracts of the functions that the law reaches. -/
import Derived.Test.YtekdhmddibfidaaGreatKAcc3
set_option linter.unusedVariables false
set_option linter.unusedSimpArgs false
namespace Go.Proofs.YtekdhmddibfidaaGreat
open Go
set_option maxRecDepth 100000
set_option maxHeartbeats 1000000

structure SmallS (s : Sig) : Prop where
  len : s.length ≤ 8
  names : ∀ p ∈ s, p.name.length ≤ 7

theorem small_set {s : Sig} {j : Nat} {p : Param} (h : SmallS s) (hp : p.name.length ≤ 7) : SmallS (s.set j p) := by
  refine ⟨by simp [h.len], fun q hq => ?_⟩
  rcases List.mem_or_eq_of_mem_set hq with hq | hq
  · exact h.names q hq
  · rw [hq]; exact hp

theorem OkS.small {s : Sig} (h : OkS s) : SmallS s := ⟨h.len, fun p hp => by have := h.nameLen hp; omega⟩

theorem someSignature_ct (bs : Str) (k : Int) (hb : bs.length ≤ 2000) (hk : 0 ≤ k) (hk' : k ≤ 1073720000) :
    ACalls pk 147 [.one (.op 0 0 0)] [oR bs k] (fun r o => ∃ s k', SmallS s ∧ k ≤ k' ∧ k' ≤ k + 110 ∧ r = .agg (eG s) ∧ o = [oR bs k']) := by
  refine acalls_of_body Tryz.func147 rfl (by kernel_rfl) rfl ?_
  refine rn rfl ?_
  refine goal_step (step_callE [0] rfl rfl rfl rfl rfl rfl rfl (goodSignature_ct bs k hb hk (by omega))) ?_
  rintro σ2 ⟨r, o', ⟨s, k1, hs, hk1, hk2, rfl, rfl⟩, hσ⟩
  obtain rfl := Option.some.inj hσ
  clear hσ
  have hsm := hs.small
  have hsl := hsm.len
  refine rt 2 rfl ?_
  refine goal_cutR (fun σ' => ∃ (t : Sig) (k2 : Int), SmallS t ∧ k1 ≤ k2 ∧ k2 ≤ k1 + 10 ∧ t.length = s.length ∧ σ' = ⟨[(3, .one (.op 2 0 0)), (2, .one (.op 1 0 0))], [oR bs k2, some ⟨1, [[.fs []]], false, false, true⟩, some ⟨1, [[.os 3 0 s.length s.length]], false, false, true⟩, ownQ t], []⟩) ?_ ?_
  · refine rn rfl ?_
    refine goal_cond rfl (fun h0 => ?_) (fun h0 => ?_) <;> (try simp only [gt_iff_lt, ge_iff_le, bne_iff_ne, ne_eq, bne_eq_false_iff_eq, beq_iff_eq, beq_eq_false_iff_ne, Bool.not_eq_true', Bool.not_eq_false', decide_eq_true_eq, decide_eq_false_iff_not, List.length_map] at h0)
    · refine rn rfl ?_
      refine goal_step (step_callE [0] rfl rfl rfl rfl rfl rfl (rfl) (pick_ct bs k1 s.length hb (by omega) (by omega) (by omega))) ?_
      rintro σ2 ⟨r, o', ⟨⟨y, rfl, hy, _⟩, rfl⟩, hσ⟩
      obtain rfl := Option.some.inj hσ
      clear hσ
      refine rn rfl ?_
      have hy' := hy (by omega)
      obtain ⟨j, rfl⟩ : ∃ j : Nat, y = j := ⟨y.toNat, by omega⟩
      obtain ⟨p, hp⟩ := at_some (xs := s) (i := j) (by omega)
      have hpn := hsm.names p (List.mem_of_getElem? hp)
      refine rn rfl ?_
      refine goal_step (step_callE [0] rfl rfl rfl rfl rfl rfl (rfl) (pick_ct bs (k1 + 1) 24 hb (by omega) (by omega) (by omega))) ?_
      rintro σ2 ⟨r, o', ⟨⟨z, rfl, _, _⟩, rfl⟩, hσ⟩
      obtain rfl := Option.some.inj hσ
      clear hσ
      refine rn rfl ?_
      refine rn rfl ?_
      refine goal_cond rfl (fun c1 => ?_) (fun c1 => ?_) <;> (try simp only [gt_iff_lt, ge_iff_le, bne_iff_ne, ne_eq, bne_eq_false_iff_eq, beq_iff_eq, beq_eq_false_iff_ne, Bool.not_eq_true', Bool.not_eq_false', decide_eq_true_eq, decide_eq_false_iff_not, List.length_map] at c1)
      · refine rn rfl ?_
        refine goal_draw' [3] 8 rfl ?_
        refine drn [0, 1, 2, 3] (by kernel_rfl) (by kernel_rfl) rfl rfl ?_
        refine AH_one (i := 4) (by kernel_rfl) (step_callE [0] rfl rfl rfl rfl rfl rfl (rfl) (anyName_ct bs (k1 + 1 + 1) hb (by omega) (by omega))) (by simp) ?_
        rintro σ2 ⟨r, o', ⟨⟨nm, hnm, rfl⟩, rfl⟩, hσ⟩
        obtain rfl := Option.some.inj hσ
        clear hσ
        refine AH_did 5 rfl (by kernel_rfl) (by kernel_rfl) (by kernel_rfl) rfl rfl (dA_indexOwn rfl rfl rfl rfl rfl rfl rfl rfl rfl (by omega) (by (try simp); omega)) ?_
        refine AH_did 6 rfl (by kernel_rfl) (by kernel_rfl) (by kernel_rfl) rfl rfl (dA_step rfl) ?_
        refine AH_oneDid 7 rfl (by kernel_rfl) rfl (dA_storeEl (eQ p) ((s.set j ⟨nm, p.kind, p.hasD, p.dflt⟩).map eQ) true rfl rfl rfl rfl rfl (map_at (by simpa using hp)) rfl rfl (by simp [eQ]) (by rw [map_set]; simp [patch, eQ]) (fun _ => noOwnR_map _ eQ_noOwn _)) (mdOk rfl) ?_
        refine AH_end (by kernel_rfl) ?_
        refine rn rfl ?_
        exact cut_nrm [3, 2] [1, 3, 2] rfl ⟨s.set j ⟨nm, p.kind, p.hasD, p.dflt⟩, k1 + 1 + 1 + 2, small_set hsm (by exact hnm), by omega, by omega, by simp, rfl⟩
      · refine rn rfl ?_
        refine goal_cond rfl (fun c2 => ?_) (fun c2 => ?_) <;> (try simp only [gt_iff_lt, ge_iff_le, bne_iff_ne, ne_eq, bne_eq_false_iff_eq, beq_iff_eq, beq_eq_false_iff_ne, Bool.not_eq_true', Bool.not_eq_false', decide_eq_true_eq, decide_eq_false_iff_not, List.length_map] at c2)
        · refine rn rfl ?_
          refine goal_draw' [3] 9 rfl ?_
          refine drn [0, 1, 2, 3] (by kernel_rfl) (by kernel_rfl) rfl rfl ?_
          refine AH_oneDid 4 rfl (by kernel_rfl) rfl (dA_step rfl) (mdOk rfl) ?_
          refine AH_one (i := 5) (by kernel_rfl) (step_callE [0] rfl rfl rfl rfl rfl rfl (rfl) (one_ct bs (k1 + 1 + 1) [-1, 5, 0, 2, 4] hb (by omega) (by omega) (by decide) (by decide))) (by simp) ?_
          rintro σ2 ⟨r, o', ⟨⟨w, hw, rfl⟩, rfl⟩, hσ⟩
          obtain rfl := Option.some.inj hσ
          clear hσ
          refine AH_did 6 rfl (by kernel_rfl) (by kernel_rfl) (by kernel_rfl) rfl rfl (dA_indexOwn rfl rfl rfl rfl rfl rfl rfl rfl rfl (by omega) (by (try simp); omega)) ?_
          refine AH_did 7 rfl (by kernel_rfl) (by kernel_rfl) (by kernel_rfl) rfl rfl (dA_step rfl) ?_
          refine AH_oneDid 8 rfl (by kernel_rfl) rfl (dA_storeEl (eQ p) ((s.set j ⟨p.name, w, p.hasD, p.dflt⟩).map eQ) true rfl rfl rfl rfl rfl (map_at (by simpa using hp)) rfl rfl (by simp [eQ]) (by rw [map_set]; simp [patch, eQ]) (fun _ => noOwnR_map _ eQ_noOwn _)) (mdOk rfl) ?_
          refine AH_end (by kernel_rfl) ?_
          refine rn rfl ?_
          exact cut_nrm [3, 2] [1, 3, 2] rfl ⟨s.set j ⟨p.name, w, p.hasD, p.dflt⟩, k1 + 1 + 1 + 1, small_set hsm (by exact hpn), by omega, by omega, by simp, rfl⟩
        · refine rn rfl ?_
          refine goal_cond rfl (fun c3 => ?_) (fun c3 => ?_) <;> (try simp only [gt_iff_lt, ge_iff_le, bne_iff_ne, ne_eq, bne_eq_false_iff_eq, beq_iff_eq, beq_eq_false_iff_ne, Bool.not_eq_true', Bool.not_eq_false', decide_eq_true_eq, decide_eq_false_iff_not, List.length_map] at c3)
          · refine rn rfl ?_
            refine goal_drawL [2, 3] [12] 13 rfl ?_
            refine drnL [0, 1, 2, 3, 4, 5] (by kernel_rfl) (by kernel_rfl) rfl rfl ?_
            refine AHL_did 6 rfl (by kernel_rfl) (by kernel_rfl) (by kernel_rfl) (by kernel_rfl) rfl rfl (dA_indexOwn rfl rfl rfl rfl rfl rfl rfl rfl rfl (by omega) (by (try simp); omega)) ?_
            refine AHL_did 7 rfl (by kernel_rfl) (by kernel_rfl) (by kernel_rfl) (by kernel_rfl) rfl rfl (dA_step rfl) ?_
            refine AHL_did 8 rfl (by kernel_rfl) (by kernel_rfl) (by kernel_rfl) (by kernel_rfl) rfl rfl (dA_loadEl (eQ p) rfl rfl rfl rfl (map_at (by simpa using hp)) rfl rfl rfl) ?_
            refine drnL [9] (by kernel_rfl) (by kernel_rfl) rfl rfl ?_
            refine AHL_did 10 rfl (by kernel_rfl) (by kernel_rfl) (by kernel_rfl) (by kernel_rfl) rfl rfl (dA_indexOwn rfl rfl rfl rfl rfl rfl rfl rfl rfl (by omega) (by (try simp); omega)) ?_
            refine AHL_did 11 rfl (by kernel_rfl) (by kernel_rfl) (by kernel_rfl) (by kernel_rfl) rfl rfl (dA_step rfl) ?_
            refine AHL_lateDid 12 rfl (by kernel_rfl) rfl rfl (dA_storeEl (eQ p) ((s.set j ⟨p.name, p.kind, !p.hasD, p.dflt⟩).map eQ) true rfl rfl rfl rfl rfl (map_at (by simpa using hp)) rfl rfl (by simp [eQ]) (by rw [map_set]; simp [patch, eQ]) (fun _ => noOwnR_map _ eQ_noOwn _)) ?_
            refine AH_end (by kernel_rfl) ?_
            refine rn rfl ?_
            exact cut_nrm [3, 2] [1, 3, 2] rfl ⟨s.set j ⟨p.name, p.kind, !p.hasD, p.dflt⟩, k1 + 1 + 1, small_set hsm (by exact hpn), by omega, by omega, by simp, rfl⟩
          · refine rn rfl ?_
            refine goal_cond rfl (fun c4 => ?_) (fun c4 => ?_) <;> (try simp only [gt_iff_lt, ge_iff_le, bne_iff_ne, ne_eq, bne_eq_false_iff_eq, beq_iff_eq, beq_eq_false_iff_ne, Bool.not_eq_true', Bool.not_eq_false', decide_eq_true_eq, decide_eq_false_iff_not, List.length_map] at c4)
            · refine rn rfl ?_
              refine goal_draw' [3] 9 rfl ?_
              refine drn [0, 1, 2, 3] (by kernel_rfl) (by kernel_rfl) rfl rfl ?_
              refine AH_oneDid 4 rfl (by kernel_rfl) rfl (dA_step rfl) (mdOk rfl) ?_
              refine AH_one (i := 5) (by kernel_rfl) (step_callE [0] rfl rfl rfl rfl rfl rfl (rfl) (one_ct bs (k1 + 1 + 1) [100, 5] hb (by omega) (by omega) (by decide) (by decide))) (by simp) ?_
              rintro σ2 ⟨r, o', ⟨⟨w, hw, rfl⟩, rfl⟩, hσ⟩
              obtain rfl := Option.some.inj hσ
              clear hσ
              refine AH_did 6 rfl (by kernel_rfl) (by kernel_rfl) (by kernel_rfl) rfl rfl (dA_indexOwn rfl rfl rfl rfl rfl rfl rfl rfl rfl (by omega) (by (try simp); omega)) ?_
              refine AH_did 7 rfl (by kernel_rfl) (by kernel_rfl) (by kernel_rfl) rfl rfl (dA_step rfl) ?_
              refine AH_oneDid 8 rfl (by kernel_rfl) rfl (dA_storeEl (eQ p) ((s.set j ⟨p.name, p.kind, p.hasD, w⟩).map eQ) true rfl rfl rfl rfl rfl (map_at (by simpa using hp)) rfl rfl (by simp [eQ]) (by rw [map_set]; simp [patch, eQ]) (fun _ => noOwnR_map _ eQ_noOwn _)) (mdOk rfl) ?_
              refine AH_end (by kernel_rfl) ?_
              refine rn rfl ?_
              exact cut_nrm [3, 2] [1, 3, 2] rfl ⟨s.set j ⟨p.name, p.kind, p.hasD, w⟩, k1 + 1 + 1 + 1, small_set hsm (by exact hpn), by omega, by omega, by simp, rfl⟩
            · refine rn rfl ?_
              exact cut_nrm [3, 2] [1, 3, 2] rfl ⟨s, k1 + 1 + 1, hsm, by omega, by omega, rfl, rfl⟩
    · refine rn rfl ?_
      exact cut_nrm [3, 2] [1, 3, 2] rfl ⟨s, k1, hsm, by omega, by omega, rfl, rfl⟩
  rintro _ ⟨t, k2, ht, hk3, hk4, htl, rfl⟩
  refine rn rfl (fin_is [] rfl ⟨t, k2, ht, by omega, by omega, ?_, rfl⟩)
  rw [← htl]; exact asG t

/-- A flat of a draw: not long, its names short. -/
structure MidF (f : Flat) (a b : Nat) : Prop where
  places : f.places.length ≤ a
  named : f.named.length ≤ b
  names : ∀ p ∈ f.named, p.name.length ≤ 7

theorem callFor_ct (bs : Str) (k : Int) (s : Sig) (hs : OkS s) (hb : bs.length ≤ 2000) (hk : 0 ≤ k) (hk' : k ≤ 1073700000) :
    ACalls pk 110 [.one (.op 0 0 0), .agg (eG s)] [oR bs k] (fun r o => ∃ f k', MidF f 24 8 ∧ k ≤ k' ∧ k' ≤ k + 200 ∧ r = .agg (eF f) ∧ o = [oR bs k']) := by
  have hsl := hs.len
  have hP := placesQ_le s
  have hw0 : IntKind.i64.wrap ((placesQ s : Int) + 1) = (placesQ s : Int) + 1 := wrap64 (by omega) (by omega)
  refine acalls_of_body Tryz.func110 rfl (by kernel_rfl) rfl ?_
  refine rn rfl ?_
  refine goal_step (step_call [] rfl rfl rfl rfl rfl rfl (splaces_ct s (by omega))) ?_
  rintro σ2 ⟨r, o', ⟨rfl, rfl⟩, hσ⟩
  obtain rfl := Option.some.inj hσ
  clear hσ
  refine rn rfl ?_
  rw [hw0]
  refine goal_step (step_callE [0] rfl rfl rfl rfl rfl rfl (rfl) (pick_ct bs k ((placesQ s : Int) + 1) hb (by omega) (by omega) (by omega))) ?_
  rintro σ2 ⟨r, o', ⟨⟨pl, rfl, _, _⟩, rfl⟩, hσ⟩
  obtain rfl := Option.some.inj hσ
  clear hσ
  refine rn rfl ?_
  refine goal_loop_keep (fun m σ => ∃ (q k1 : Int) (i l1 l2 : Nat) (F : Flat), q = i ∧ i ≤ s.length ∧ m = s.length - i ∧ l1 = F.places.length ∧ l2 = F.named.length ∧ MidF F (3 * i) i ∧ k + 1 ≤ k1 ∧ k1 ≤ k + 1 + 20 * i ∧
      σ = ⟨[(7, .one (.int .i64 q)), (6, .one (.int .i64 pl)), (5, .one (.op 3 0 0)), (4, .one (.op 2 0 0)), (3, .one (.op 1 0 0)), (0, .one (.op 0 0 0))],
        [oR bs k1, some ⟨1, [eG s], false, false, true⟩, some ⟨2, [[.fs [], .fs []]], false, false, true⟩, some ⟨2, [[.os 4 0 l1 l1, .os 5 0 l2 l2]], false, false, true⟩, ownI F.places, ownP F.named], []⟩) s.length [7, 6, 5, 4, 3, 0] [1, 2, 5, 3, 4] rfl
    ⟨_, k + 1, 0, 0, 0, zF, rfl, by omega, by omega, rfl, rfl, ⟨by simp [zF], by simp [zF], by simp [zF]⟩, by omega, by omega, rfl⟩ ?_
  rintro m σ ⟨q, k1, i, l1, l2, F, rfl, hi, rfl, rfl, rfl, hF, hk1, hk2, rfl⟩
  have hF1 := hF.places
  have hF2 := hF.named
  have fin : goal pk Tryz.f110.ntmps 1 (fun _ _ => False) (.nrm []) ⟨[], [], []⟩ → True := fun _ => trivial
  clear fin
  refine rn rfl ?_
  refine goal_guard rfl rfl rfl (fun hc => ?_) (fun hc => ?_) <;> (try simp only [gt_iff_lt, ge_iff_le, bne_iff_ne, ne_eq, bne_eq_false_iff_eq, beq_iff_eq, beq_eq_false_iff_ne, Bool.not_eq_true', Bool.not_eq_false', decide_eq_true_eq, decide_eq_false_iff_not, List.length_map] at hc)
  · refine rn rfl ?_
    refine goal_cond rfl (fun hc2 => ?_) (fun hc2 => ?_) <;> (try simp only [gt_iff_lt, ge_iff_le, bne_iff_ne, ne_eq, bne_eq_false_iff_eq, beq_iff_eq, beq_eq_false_iff_ne, Bool.not_eq_true', Bool.not_eq_false', decide_eq_true_eq, decide_eq_false_iff_not, List.length_map] at hc2)
    · obtain ⟨p, hp⟩ := at_some (xs := s) (i := i) (by omega)
      have hpn := hs.nameLen (List.mem_of_getElem? hp)
      refine rn rfl ?_
      refine goal_did rfl rfl (dA_index (eQ p) rfl rfl rfl rfl rfl rfl rfl (by omega) (by (try simp); omega) (map_at (by simpa using hp)) rfl) ?_
      refine rt1 7 rfl ?_
      refine goal_cutR (fun σ' => ∃ v : Int, σ' = ⟨[(9, .one (.int .i64 v)), (8, .one (.op 6 0 0)), (7, .one (.int .i64 i)), (6, .one (.int .i64 pl)), (5, .one (.op 3 0 0)), (4, .one (.op 2 0 0)), (3, .one (.op 1 0 0)), (0, .one (.op 0 0 0))], [oR bs (k1 + 1), some ⟨1, [eG s], false, false, true⟩, some ⟨2, [[.fs [], .fs []]], false, false, true⟩, some ⟨2, [[.os 4 0 F.places.length F.places.length, .os 5 0 F.named.length F.named.length]], false, false, true⟩, ownI F.places, ownP F.named, some ⟨4, [eQ p], false, false, true⟩], []⟩) ?_ ?_
      · refine rn rfl ?_
        refine goal_step (step_callE [0] rfl rfl rfl rfl rfl rfl (rfl) (aNumber_ct bs k1 hb (by omega) (by omega))) ?_
        rintro σ2 ⟨r, o', ⟨⟨v, _, _, rfl⟩, rfl⟩, hσ⟩
        obtain rfl := Option.some.inj hσ
        clear hσ
        refine rn rfl ?_
        exact cut_nrm [9, 8, 7, 6, 5, 4, 3, 0] [1, 2, 3, 4, 5, 6] rfl ⟨v, rfl⟩
      rintro _ ⟨v0, rfl⟩
      refine rt 8 rfl ?_
      refine goal_cutR (fun σ' => ∃ v k2 : Int, k1 + 1 ≤ k2 ∧ k2 ≤ k1 + 2 ∧ σ' = ⟨[(9, .one (.int .i64 v)), (8, .one (.op 6 0 0)), (7, .one (.int .i64 i)), (6, .one (.int .i64 pl)), (5, .one (.op 3 0 0)), (4, .one (.op 2 0 0)), (3, .one (.op 1 0 0)), (0, .one (.op 0 0 0))], [oR bs k2, some ⟨1, [eG s], false, false, true⟩, some ⟨2, [[.fs [], .fs []]], false, false, true⟩, some ⟨2, [[.os 4 0 F.places.length F.places.length, .os 5 0 F.named.length F.named.length]], false, false, true⟩, ownI F.places, ownP F.named, some ⟨4, [eQ p], false, false, true⟩], []⟩) ?_ ?_
      · refine rn rfl ?_
        refine goal_guard rfl rfl rfl (fun a1 => ?_) (fun a1 => ?_) <;> (try simp only [gt_iff_lt, ge_iff_le, bne_iff_ne, ne_eq, bne_eq_false_iff_eq, beq_iff_eq, beq_eq_false_iff_ne, Bool.not_eq_true', Bool.not_eq_false', decide_eq_true_eq, decide_eq_false_iff_not, List.length_map] at a1)
        · refine rn rfl ?_
          refine goal_step (step_callE [0] rfl rfl rfl rfl rfl rfl (rfl) (pick_ct bs (k1 + 1) 3 hb (by omega) (by omega) (by omega))) ?_
          rintro σ2 ⟨r, o', ⟨⟨z, rfl, _, _⟩, rfl⟩, hσ⟩
          obtain rfl := Option.some.inj hσ
          clear hσ
          refine rn rfl ?_
          refine goal_cond rfl (fun a2 => ?_) (fun a2 => ?_) <;> (try simp only [gt_iff_lt, ge_iff_le, bne_iff_ne, ne_eq, bne_eq_false_iff_eq, beq_iff_eq, beq_eq_false_iff_ne, Bool.not_eq_true', Bool.not_eq_false', decide_eq_true_eq, decide_eq_false_iff_not, List.length_map] at a2)
          · refine rn rfl ?_
            exact cut_nrm [9, 8, 7, 6, 5, 4, 3, 0] [1, 2, 3, 4, 5, 6] rfl ⟨p.dflt, k1 + 1 + 1, by omega, by omega, rfl⟩
          · refine rn rfl ?_
            exact cut_nrm [9, 8, 7, 6, 5, 4, 3, 0] [1, 2, 3, 4, 5, 6] rfl ⟨v0, k1 + 1 + 1, by omega, by omega, rfl⟩
        · refine rn rfl ?_
          exact cut_nrm [9, 8, 7, 6, 5, 4, 3, 0] [1, 2, 3, 4, 5, 6] rfl ⟨v0, k1 + 1, by omega, by omega, rfl⟩
      rintro _ ⟨v, k2, hk3, hk4, rfl⟩
      refine rt1 10 rfl ?_
      refine goal_cutR (fun σ' => ∃ b : Bool, σ' = ⟨[(48, .one (.bool b)), (9, .one (.int .i64 v)), (8, .one (.op 6 0 0)), (7, .one (.int .i64 i)), (6, .one (.int .i64 pl)), (5, .one (.op 3 0 0)), (4, .one (.op 2 0 0)), (3, .one (.op 1 0 0)), (0, .one (.op 0 0 0))], [oR bs k2, some ⟨1, [eG s], false, false, true⟩, some ⟨2, [[.fs [], .fs []]], false, false, true⟩, some ⟨2, [[.os 4 0 F.places.length F.places.length, .os 5 0 F.named.length F.named.length]], false, false, true⟩, ownI F.places, ownP F.named, some ⟨4, [eQ p], false, false, true⟩], []⟩) ?_ ?_
      · refine rn rfl ?_
        refine goal_step (step_call [] rfl rfl rfl rfl rfl rfl (splaced_ct p)) ?_
        rintro σ2 ⟨r, o', ⟨rfl, rfl⟩, hσ⟩
        obtain rfl := Option.some.inj hσ
        clear hσ
        refine rn rfl ?_
        refine goal_guard rfl rfl rfl (fun a1 => ?_) (fun a1 => ?_) <;> (try simp only [gt_iff_lt, ge_iff_le, bne_iff_ne, ne_eq, bne_eq_false_iff_eq, beq_iff_eq, beq_eq_false_iff_ne, Bool.not_eq_true', Bool.not_eq_false', decide_eq_true_eq, decide_eq_false_iff_not, List.length_map] at a1)
        · refine rn rfl ?_
          refine goal_guard rfl rfl rfl (fun a2 => ?_) (fun a2 => ?_) <;> (try simp only [gt_iff_lt, ge_iff_le, bne_iff_ne, ne_eq, bne_eq_false_iff_eq, beq_iff_eq, beq_eq_false_iff_ne, Bool.not_eq_true', Bool.not_eq_false', decide_eq_true_eq, decide_eq_false_iff_not, List.length_map] at a2)
          · refine rn rfl ?_
            exact cut_nrm [48, 9, 8, 7, 6, 5, 4, 3, 0] [1, 2, 3, 4, 5, 6] rfl ⟨true, rfl⟩
          · refine rn rfl ?_
            refine goal_guard rfl rfl rfl (fun a3 => ?_) (fun a3 => ?_) <;> (try simp only [gt_iff_lt, ge_iff_le, bne_iff_ne, ne_eq, bne_eq_false_iff_eq, beq_iff_eq, beq_eq_false_iff_ne, Bool.not_eq_true', Bool.not_eq_false', decide_eq_true_eq, decide_eq_false_iff_not, List.length_map] at a3)
            · refine rn rfl ?_
              refine goal_guard rfl rfl rfl (fun a4 => ?_) (fun a4 => ?_) <;> (try simp only [gt_iff_lt, ge_iff_le, bne_iff_ne, ne_eq, bne_eq_false_iff_eq, beq_iff_eq, beq_eq_false_iff_ne, Bool.not_eq_true', Bool.not_eq_false', decide_eq_true_eq, decide_eq_false_iff_not, List.length_map] at a4)
              · refine rn rfl ?_
                exact cut_nrm [48, 9, 8, 7, 6, 5, 4, 3, 0] [1, 2, 3, 4, 5, 6] rfl ⟨_, rfl⟩
              · refine rn rfl ?_
                exact cut_nrm [48, 9, 8, 7, 6, 5, 4, 3, 0] [1, 2, 3, 4, 5, 6] rfl ⟨false, rfl⟩
            · refine rn rfl ?_
              exact cut_nrm [48, 9, 8, 7, 6, 5, 4, 3, 0] [1, 2, 3, 4, 5, 6] rfl ⟨false, rfl⟩
        · refine rn rfl ?_
          exact cut_nrm [48, 9, 8, 7, 6, 5, 4, 3, 0] [1, 2, 3, 4, 5, 6] rfl ⟨false, rfl⟩
      rintro _ ⟨b1, rfl⟩
      refine rn rfl ?_
      refine goal_cond rfl (fun c1 => ?_) (fun c1 => ?_) <;> (try simp only [gt_iff_lt, ge_iff_le, bne_iff_ne, ne_eq, bne_eq_false_iff_eq, beq_iff_eq, beq_eq_false_iff_ne, Bool.not_eq_true', Bool.not_eq_false', decide_eq_true_eq, decide_eq_false_iff_not, List.length_map] at c1)
      · refine rn rfl ?_
        refine goal_did rfl rfl (dA_append (old := (F.places).map eI) (rows := ([v] : List Int).map eI) (((F.places) ++ ([v] : List Int)).map eI) (F.places.length + 1) true (Dst.own rfl rfl rfl rfl rfl (by first | (simp; done) | (simp; omega)) (whole (by first | (simp; done) | (simp; omega)))) (Src.os rfl rfl (Nat.le_refl 1) rfl) rfl rfl rfl rfl rfl rfl rfl rfl (rows_len eI_len _) (rows_len eI_len _) (by (try simp only [List.length_map, List.length_append, List.length_cons, List.length_nil, List.length_take, List.length_drop]); show _ * 8 ≤ _; omega) (by first | (simp; done) | (simp; omega)) (by simp) (by first | (simp; done) | (simp; omega)) (fun _ => noOwnR_map _ eI_noOwn _)) ?_
        refine rn rfl ?_
        refine rn rfl ?_
        refine round_keep (s.length - (i + 1)) [7, 6, 5, 4, 3, 0] [1, 2, 3, 8, 5] (by omega) rfl ⟨_, k2, i + 1, _, _, ⟨F.places ++ [v], F.named⟩, wrap64 (by omega) (by omega), by omega, rfl, by simp, rfl, ⟨by simp; omega, by simp; omega, hF.names⟩, by omega, by omega, rfl⟩
      · refine rt1 12 rfl ?_
        refine goal_cutR (fun σ' => ∃ (b : Bool) (k3 : Int), k2 ≤ k3 ∧ k3 ≤ k2 + 1 ∧ σ' = ⟨[(79, .one (.bool b)), (9, .one (.int .i64 v)), (8, .one (.op 6 0 0)), (7, .one (.int .i64 i)), (6, .one (.int .i64 pl)), (5, .one (.op 3 0 0)), (4, .one (.op 2 0 0)), (3, .one (.op 1 0 0)), (0, .one (.op 0 0 0))], [oR bs k3, some ⟨1, [eG s], false, false, true⟩, some ⟨2, [[.fs [], .fs []]], false, false, true⟩, some ⟨2, [[.os 4 0 F.places.length F.places.length, .os 5 0 F.named.length F.named.length]], false, false, true⟩, ownI F.places, ownP F.named, some ⟨4, [eQ p], false, false, true⟩], []⟩) ?_ ?_
        · refine rn rfl ?_
          refine goal_step (step_call [] rfl rfl rfl rfl rfl rfl (snamed_ct p)) ?_
          rintro σ2 ⟨r, o', ⟨rfl, rfl⟩, hσ⟩
          obtain rfl := Option.some.inj hσ
          clear hσ
          refine rn rfl ?_
          refine goal_guard rfl rfl rfl (fun a1 => ?_) (fun a1 => ?_) <;> (try simp only [gt_iff_lt, ge_iff_le, bne_iff_ne, ne_eq, bne_eq_false_iff_eq, beq_iff_eq, beq_eq_false_iff_ne, Bool.not_eq_true', Bool.not_eq_false', decide_eq_true_eq, decide_eq_false_iff_not, List.length_map] at a1)
          · refine rn rfl ?_
            refine goal_step (step_lendE [] rfl rfl rfl rfl rfl rfl rfl (cons_eq (congrArg (fun x => T.one (C.fs x)) (takeAll eP F.named _ rfl)) rfl) (spairAt_ct F.named p.name (by omega)) (by rintro r o ⟨rfl, rfl⟩; exact ⟨rfl, rfl⟩)) ?_
            rintro σ2 ⟨r, o', ⟨rfl, rfl⟩, hσ⟩
            obtain rfl := Option.some.inj hσ
            clear hσ
            refine rn rfl ?_
            refine goal_guard rfl rfl rfl (fun a2 => ?_) (fun a2 => ?_) <;> (try simp only [gt_iff_lt, ge_iff_le, bne_iff_ne, ne_eq, bne_eq_false_iff_eq, beq_iff_eq, beq_eq_false_iff_ne, Bool.not_eq_true', Bool.not_eq_false', decide_eq_true_eq, decide_eq_false_iff_not, List.length_map] at a2)
            · refine rn rfl ?_
              refine goal_guard rfl rfl rfl (fun a3 => ?_) (fun a3 => ?_) <;> (try simp only [gt_iff_lt, ge_iff_le, bne_iff_ne, ne_eq, bne_eq_false_iff_eq, beq_iff_eq, beq_eq_false_iff_ne, Bool.not_eq_true', Bool.not_eq_false', decide_eq_true_eq, decide_eq_false_iff_not, List.length_map] at a3)
              · refine rn rfl ?_
                exact cut_nrm [79, 9, 8, 7, 6, 5, 4, 3, 0] [1, 2, 3, 4, 5, 6] rfl ⟨true, k2, by omega, by omega, rfl⟩
              · refine rn rfl ?_
                refine goal_step (step_callE [0] rfl rfl rfl rfl rfl rfl (rfl) (pick_ct bs k2 2 hb (by omega) (by omega) (by omega))) ?_
                rintro σ2 ⟨r, o', ⟨⟨z, rfl, _, _⟩, rfl⟩, hσ⟩
                obtain rfl := Option.some.inj hσ
                clear hσ
                refine rn rfl ?_
                exact cut_nrm [79, 9, 8, 7, 6, 5, 4, 3, 0] [1, 2, 3, 4, 5, 6] rfl ⟨_, k2 + 1, by omega, by omega, rfl⟩
            · refine rn rfl ?_
              exact cut_nrm [79, 9, 8, 7, 6, 5, 4, 3, 0] [1, 2, 3, 4, 5, 6] rfl ⟨false, k2, by omega, by omega, rfl⟩
          · refine rn rfl ?_
            exact cut_nrm [79, 9, 8, 7, 6, 5, 4, 3, 0] [1, 2, 3, 4, 5, 6] rfl ⟨false, k2, by omega, by omega, rfl⟩
        rintro _ ⟨b2, k3, hk5, hk6, rfl⟩
        refine rn rfl ?_
        refine goal_cond rfl (fun c2 => ?_) (fun c2 => ?_) <;> (try simp only [gt_iff_lt, ge_iff_le, bne_iff_ne, ne_eq, bne_eq_false_iff_eq, beq_iff_eq, beq_eq_false_iff_ne, Bool.not_eq_true', Bool.not_eq_false', decide_eq_true_eq, decide_eq_false_iff_not, List.length_map] at c2)
        · refine rn rfl ?_
          refine goal_did rfl rfl (dA_append (old := (F.named).map eP) (rows := ([⟨p.name, v⟩] : List Pair).map eP) (((F.named) ++ ([⟨p.name, v⟩] : List Pair)).map eP) (F.named.length + 1) true (Dst.own rfl rfl rfl rfl rfl (by first | (simp; done) | (simp; omega)) (whole (by first | (simp; done) | (simp; omega)))) (Src.os rfl rfl (Nat.le_refl 1) rfl) rfl rfl rfl rfl rfl rfl rfl rfl (rows_len eP_len _) (rows_len eP_len _) (by (try simp only [List.length_map, List.length_append, List.length_cons, List.length_nil, List.length_take, List.length_drop]); show _ * 24 ≤ _; omega) (by first | (simp; done) | (simp; omega)) (by simp) (by first | (simp; done) | (simp; omega)) (fun _ => noOwnR_map _ eP_noOwn _)) ?_
          refine rn rfl ?_
          refine rn rfl ?_
          refine round_keep (s.length - (i + 1)) [7, 6, 5, 4, 3, 0] [1, 2, 3, 4, 8] (by omega) rfl ⟨_, k3, i + 1, _, _, ⟨F.places, F.named ++ [⟨p.name, v⟩]⟩, wrap64 (by omega) (by omega), by omega, rfl, rfl, by simp, ⟨by simp; omega, by simp; omega, ?_⟩, by omega, by omega, rfl⟩
          intro r hr
          rcases List.mem_append.1 hr with hr | hr
          · exact hF.names r hr
          · simp only [List.mem_singleton] at hr; rw [hr]; show p.name.length ≤ 7; omega
        · refine rt1 14 rfl ?_
          refine goal_cutR (fun σ' => ∃ b : Bool, σ' = ⟨[(109, .one (.bool b)), (9, .one (.int .i64 v)), (8, .one (.op 6 0 0)), (7, .one (.int .i64 i)), (6, .one (.int .i64 pl)), (5, .one (.op 3 0 0)), (4, .one (.op 2 0 0)), (3, .one (.op 1 0 0)), (0, .one (.op 0 0 0))], [oR bs k3, some ⟨1, [eG s], false, false, true⟩, some ⟨2, [[.fs [], .fs []]], false, false, true⟩, some ⟨2, [[.os 4 0 F.places.length F.places.length, .os 5 0 F.named.length F.named.length]], false, false, true⟩, ownI F.places, ownP F.named, some ⟨4, [eQ p], false, false, true⟩], []⟩) ?_ ?_
          · refine goal_draw' [1, 3, 6] 18 rfl ?_
            refine drn [0, 1, 2, 3] (by kernel_rfl) (by kernel_rfl) rfl rfl ?_
            refine AH_guard (i := 4) rfl rfl rfl (fun d1 => ?_) (fun d1 => ?_) <;> (try simp only [gt_iff_lt, ge_iff_le, bne_iff_ne, ne_eq, bne_eq_false_iff_eq, beq_iff_eq, beq_eq_false_iff_ne, Bool.not_eq_true', Bool.not_eq_false', decide_eq_true_eq, decide_eq_false_iff_not, List.length_map] at d1)
            · refine drn [4, 5, 6, 7] (by kernel_rfl) (by kernel_rfl) rfl rfl ?_
              refine AH_one (i := 8) (by kernel_rfl) (step_call [] rfl rfl rfl rfl rfl rfl (splaces_ct s (by omega))) (by simp) ?_
              rintro σ2 ⟨r, o', ⟨rfl, rfl⟩, hσ⟩
              obtain rfl := Option.some.inj hσ
              clear hσ
              refine drn [9, 10, 11] (by kernel_rfl) (by kernel_rfl) rfl rfl ?_
              refine AH_guard (i := 12) rfl rfl rfl (fun d2 => ?_) (fun d2 => ?_) <;> (try simp only [gt_iff_lt, ge_iff_le, bne_iff_ne, ne_eq, bne_eq_false_iff_eq, beq_iff_eq, beq_eq_false_iff_ne, Bool.not_eq_true', Bool.not_eq_false', decide_eq_true_eq, decide_eq_false_iff_not, List.length_map] at d2)
              · refine drn [12, 13, 14, 15, 16, 17] (by kernel_rfl) (by kernel_rfl) rfl rfl ?_
                refine AH_end (by kernel_rfl) ?_
                refine rn rfl ?_
                exact cut_nrm [109, 9, 8, 7, 6, 5, 4, 3, 0] [1, 2, 3, 4, 5, 6] rfl ⟨_, rfl⟩
              · refine drn [12, 13, 14, 15, 16, 17] (by kernel_rfl) (by kernel_rfl) rfl rfl ?_
                refine AH_end (by kernel_rfl) ?_
                refine rn rfl ?_
                exact cut_nrm [109, 9, 8, 7, 6, 5, 4, 3, 0] [1, 2, 3, 4, 5, 6] rfl ⟨false, rfl⟩
            · refine drn [4, 5, 6, 7, 8, 9, 10, 11, 12, 13, 14, 15, 16, 17] (by kernel_rfl) (by kernel_rfl) rfl rfl ?_
              refine AH_end (by kernel_rfl) ?_
              refine rn rfl ?_
              exact cut_nrm [109, 9, 8, 7, 6, 5, 4, 3, 0] [1, 2, 3, 4, 5, 6] rfl ⟨false, rfl⟩
          rintro _ ⟨b3, rfl⟩
          refine rn rfl ?_
          refine goal_cond rfl (fun c3 => ?_) (fun c3 => ?_) <;> (try simp only [gt_iff_lt, ge_iff_le, bne_iff_ne, ne_eq, bne_eq_false_iff_eq, beq_iff_eq, beq_eq_false_iff_ne, Bool.not_eq_true', Bool.not_eq_false', decide_eq_true_eq, decide_eq_false_iff_not, List.length_map] at c3)
          · refine rn rfl ?_
            refine goal_step (step_callE [0] rfl rfl rfl rfl rfl rfl (rfl) (pick_ct bs k3 3 hb (by omega) (by omega) (by omega))) ?_
            rintro σ2 ⟨r, o', ⟨⟨y, rfl, hy, _⟩, rfl⟩, hσ⟩
            obtain rfl := Option.some.inj hσ
            clear hσ
            refine rn rfl ?_
            have hy' := hy (by omega)
            refine goal_loop_keep (fun m σ => ∃ (q k4 : Int) (l : Nat) (G : List Int), m = q.toNat ∧ 0 ≤ q ∧ q ≤ 2 ∧ l = G.length ∧ (G.length : Int) + q ≤ F.places.length + 2 ∧ k3 + 1 ≤ k4 ∧ k4 + q ≤ k3 + 3 ∧
                σ = ⟨[(10, .one (.int .i64 q)), (7, .one (.int .i64 i)), (6, .one (.int .i64 pl)), (5, .one (.op 3 0 0)), (4, .one (.op 2 0 0)), (3, .one (.op 1 0 0)), (0, .one (.op 0 0 0))],
                  [oR bs k4, some ⟨1, [eG s], false, false, true⟩, some ⟨2, [[.fs [], .fs []]], false, false, true⟩, some ⟨2, [[.os 4 0 l l, .os 5 0 F.named.length F.named.length]], false, false, true⟩, ownI G, ownP F.named], []⟩) y.toNat [10, 7, 6, 5, 4, 3, 0] [1, 2, 3, 4, 5] rfl
              ⟨y, k3 + 1, _, F.places, rfl, by omega, by omega, rfl, by omega, by omega, by omega, rfl⟩ ?_
            rintro m2 σ2 ⟨q, k4, l, G, rfl, hq0, hq2, rfl, hG, hk7, hk8, rfl⟩
            have hwq : IntKind.i64.wrap (q - 1) = q - 1 := wrap64 (by omega) (by omega)
            have fin2 : ∀ {K : KP}, K = K → True := fun _ => trivial
            clear fin2
            refine rn rfl ?_
            refine goal_guard rfl rfl rfl (fun d5 => ?_) (fun d5 => ?_) <;> (try simp only [gt_iff_lt, ge_iff_le, bne_iff_ne, ne_eq, bne_eq_false_iff_eq, beq_iff_eq, beq_eq_false_iff_ne, Bool.not_eq_true', Bool.not_eq_false', decide_eq_true_eq, decide_eq_false_iff_not, List.length_map] at d5)
            · refine rn rfl ?_
              refine goal_cond rfl (fun d6 => ?_) (fun d6 => ?_) <;> (try simp only [gt_iff_lt, ge_iff_le, bne_iff_ne, ne_eq, bne_eq_false_iff_eq, beq_iff_eq, beq_eq_false_iff_ne, Bool.not_eq_true', Bool.not_eq_false', decide_eq_true_eq, decide_eq_false_iff_not, List.length_map] at d6)
              · refine rn rfl ?_
                refine goal_drawL [3] [7] 8 rfl ?_
                refine drnL [0, 1, 2] (by kernel_rfl) (by kernel_rfl) rfl rfl ?_
                refine AHL_one (i := 3) (by kernel_rfl) rfl (step_callE [0] rfl rfl rfl rfl rfl rfl (rfl) (aNumber_ct bs k4 hb (by omega) (by omega))) (by simp) ?_
                rintro σ2 ⟨r, o', ⟨⟨w, _, _, rfl⟩, rfl⟩, hσ⟩
                obtain rfl := Option.some.inj hσ
                clear hσ
                refine AHL_oneDid 4 rfl (by kernel_rfl) rfl rfl (dA_step rfl) (mdOk rfl) ?_
                refine AHL_oneDid 5 rfl (by kernel_rfl) rfl rfl (dA_append (old := (G).map eI) (rows := ([w] : List Int).map eI) (((G) ++ ([w] : List Int)).map eI) (G.length + 1) true (Dst.own rfl rfl rfl rfl rfl (by first | (simp; done) | (simp; omega)) (whole (by first | (simp; done) | (simp; omega)))) (Src.os rfl rfl (Nat.le_refl 1) rfl) rfl rfl rfl rfl rfl rfl rfl rfl (rows_len eI_len _) (rows_len eI_len _) (by (try simp only [List.length_map, List.length_append, List.length_cons, List.length_nil, List.length_take, List.length_drop]); show _ * 8 ≤ _; omega) (by first | (simp; done) | (simp; omega)) (by simp) (by first | (simp; done) | (simp; omega)) (fun _ => noOwnR_map _ eI_noOwn _)) (mdOk rfl) ?_
                refine drnL [6] (by kernel_rfl) (by kernel_rfl) rfl rfl ?_
                refine AHL_lateDid 7 rfl (by kernel_rfl) rfl rfl (dA_step rfl) ?_
                refine AH_end (by kernel_rfl) ?_
                refine rn rfl ?_
                refine rn rfl ?_
                rw [hwq]
                refine round_keep (q - 1).toNat [10, 7, 6, 5, 4, 3, 0] [1, 2, 3, 7, 5] (by omega) rfl ⟨q - 1, k4 + 1, _, G ++ [w], rfl, by omega, by omega, (by simp : G.length + 1 = _), by simp; omega, by omega, by omega, rfl⟩
              · refine rn rfl (round_ext ?_)
                refine rn rfl ?_
                refine round_keep (s.length - (i + 1)) [7, 6, 5, 4, 3, 0] [1, 2, 3, 4, 5] (by omega) rfl ⟨_, k4, i + 1, _, _, ⟨G, F.named⟩, wrap64 (by omega) (by omega), by omega, rfl, rfl, rfl, ⟨by show G.length ≤ _; omega, by show F.named.length ≤ _; omega, hF.names⟩, by omega, by omega, rfl⟩
            · refine rn rfl (round_ext ?_)
              refine rn rfl ?_
              refine round_keep (s.length - (i + 1)) [7, 6, 5, 4, 3, 0] [1, 2, 3, 4, 5] (by omega) rfl ⟨_, k4, i + 1, _, _, ⟨G, F.named⟩, wrap64 (by omega) (by omega), by omega, rfl, rfl, rfl, ⟨by show G.length ≤ _; omega, by show F.named.length ≤ _; omega, hF.names⟩, by omega, by omega, rfl⟩
          · refine rt1 19 rfl ?_
            refine goal_cutR (fun σ' => ∃ (b : Bool) (k4 : Int), k3 ≤ k4 ∧ k4 ≤ k3 + 1 ∧ σ' = ⟨[(146, .one (.bool b)), (9, .one (.int .i64 v)), (8, .one (.op 6 0 0)), (7, .one (.int .i64 i)), (6, .one (.int .i64 pl)), (5, .one (.op 3 0 0)), (4, .one (.op 2 0 0)), (3, .one (.op 1 0 0)), (0, .one (.op 0 0 0))], [oR bs k4, some ⟨1, [eG s], false, false, true⟩, some ⟨2, [[.fs [], .fs []]], false, false, true⟩, some ⟨2, [[.os 4 0 F.places.length F.places.length, .os 5 0 F.named.length F.named.length]], false, false, true⟩, ownI F.places, ownP F.named, some ⟨4, [eQ p], false, false, true⟩], []⟩) ?_ ?_
            · refine rn rfl ?_
              refine goal_guard rfl rfl rfl (fun d1 => ?_) (fun d1 => ?_) <;> (try simp only [gt_iff_lt, ge_iff_le, bne_iff_ne, ne_eq, bne_eq_false_iff_eq, beq_iff_eq, beq_eq_false_iff_ne, Bool.not_eq_true', Bool.not_eq_false', decide_eq_true_eq, decide_eq_false_iff_not, List.length_map] at d1)
              · refine rn rfl ?_
                refine goal_step (step_callE [0] rfl rfl rfl rfl rfl rfl (rfl) (pick_ct bs k3 2 hb (by omega) (by omega) (by omega))) ?_
                rintro σ2 ⟨r, o', ⟨⟨z, rfl, _, _⟩, rfl⟩, hσ⟩
                obtain rfl := Option.some.inj hσ
                clear hσ
                refine rn rfl ?_
                exact cut_nrm [146, 9, 8, 7, 6, 5, 4, 3, 0] [1, 2, 3, 4, 5, 6] rfl ⟨_, k3 + 1, by omega, by omega, rfl⟩
              · refine rn rfl ?_
                exact cut_nrm [146, 9, 8, 7, 6, 5, 4, 3, 0] [1, 2, 3, 4, 5, 6] rfl ⟨false, k3, by omega, by omega, rfl⟩
            rintro _ ⟨b4, k4, hk7, hk8, rfl⟩
            refine rn rfl ?_
            refine goal_cond rfl (fun c4 => ?_) (fun c4 => ?_) <;> (try simp only [gt_iff_lt, ge_iff_le, bne_iff_ne, ne_eq, bne_eq_false_iff_eq, beq_iff_eq, beq_eq_false_iff_ne, Bool.not_eq_true', Bool.not_eq_false', decide_eq_true_eq, decide_eq_false_iff_not, List.length_map] at c4)
            · refine rn rfl ?_
              refine goal_drawL [3] [10] 11 rfl ?_
              refine drnL [0, 1, 2, 5] (by kernel_rfl) (by kernel_rfl) rfl rfl ?_
              refine AHL_oneDid 3 rfl (by kernel_rfl) rfl rfl (dA_step rfl) (mdOk rfl) ?_
              refine AHL_one (i := 4) (by kernel_rfl) rfl (step_callE [0] rfl rfl rfl rfl rfl rfl (rfl) (of_ct bs k4 [[109], [110], [111]] hb (by omega) (by omega) (by decide) (by decide))) (by simp) ?_
              rintro σ2 ⟨r, o', ⟨⟨nm, hnm, rfl⟩, rfl⟩, hσ⟩
              obtain rfl := Option.some.inj hσ
              clear hσ
              refine AHL_one (i := 6) (by kernel_rfl) rfl (step_callE [0] rfl rfl rfl rfl rfl rfl (rfl) (aNumber_ct bs (k4 + 1) hb (by omega) (by omega))) (by simp) ?_
              rintro σ2 ⟨r, o', ⟨⟨w, _, _, rfl⟩, rfl⟩, hσ⟩
              obtain rfl := Option.some.inj hσ
              clear hσ
              refine drnL [7] (by kernel_rfl) (by kernel_rfl) rfl rfl ?_
              refine AHL_one (i := 8) (by kernel_rfl) rfl (step_callE [] rfl rfl rfl rfl rfl rfl (cons_eq (congrArg (fun x => T.one (C.fs x)) (takeAll eP F.named _ rfl)) rfl) (putPair_ct F.named ⟨nm, w⟩ (by omega))) (by simp) ?_
              rintro σ2 ⟨r, o', ⟨rfl, rfl⟩, hσ⟩
              obtain rfl := Option.some.inj hσ
              clear hσ
              refine drnL [9] (by kernel_rfl) (by kernel_rfl) rfl rfl ?_
              refine AHL_lateDid 10 rfl (by kernel_rfl) rfl rfl (dA_step rfl) ?_
              refine AH_end (by kernel_rfl) ?_
              refine rn rfl ?_
              have hnl : nm.length ≤ 7 := by
                simp only [List.mem_cons, List.not_mem_nil, or_false] at hnm
                rcases hnm with h | h | h <;> (rw [h]; decide)
              refine rn rfl ?_
              have hpl : (spPair F.named ⟨nm, w⟩).length ≤ F.named.length + 1 := by rw [spPair_eq]; exact putP_length _ _ _
              refine round_keep (s.length - (i + 1)) [7, 6, 5, 4, 3, 0] [1, 2, 3, 4, 8] (by omega) rfl ⟨_, k4 + 1 + 1, i + 1, _, _, ⟨F.places, spPair F.named ⟨nm, w⟩⟩, wrap64 (by omega) (by omega), by omega, rfl, rfl, rfl, ⟨by show F.places.length ≤ _; omega, by show (spPair F.named ⟨nm, w⟩).length ≤ _; omega, ?_⟩, by omega, by omega, rfl⟩
              intro r hr
              rw [spPair_eq] at hr
              rcases putP_mem hr with h | ⟨q, hq, h⟩
              · rw [h]; exact hnl
              · rw [h]; exact hF.names q hq
            · refine rn rfl ?_
              refine round_keep (s.length - (i + 1)) [7, 6, 5, 4, 3, 0] [1, 2, 3, 4, 5] (by omega) rfl ⟨_, k4, i + 1, _, _, F, wrap64 (by omega) (by omega), by omega, rfl, rfl, rfl, ⟨by omega, by omega, hF.names⟩, by omega, by omega, rfl⟩
    · refine rn rfl (round_ext ?_)
      refine rn rfl (fin_is [] rfl ⟨F, k1, ⟨by omega, by omega, hF.names⟩, by omega, by omega, ?_, rfl⟩)
      exact asFl F
  · refine rn rfl (round_ext ?_)
    refine rn rfl (fin_is [] rfl ⟨F, k1, ⟨by omega, by omega, hF.names⟩, by omega, by omega, ?_, rfl⟩)
    exact asFl F

/-- Given by its place. -/
def byPl (pl : List Int) (i : Nat) (p : Param) : Bool := placedQ p && decide (i < pl.length)

def giveQ (s : Sig) (pl : List Int) (qs : List Pair) (i : Nat) (p : Param) : Slot :=
  if p.kind = 4 then ⟨false, [], qs.filter fun q => takesQ s q.name == (i : Int)⟩
  else if namedQ p && !byPl pl i p then (match qs.find? (nameIs p.name) with
    | some q => ⟨true, [q.value], []⟩
    | none => zL)
  else place1 (placesQ s) pl i p

def wrongQ (s : Sig) (pl : List Int) (q : Pair) : Option Problem :=
  if takesQ s q.name < 0 then some ⟨1, q.name⟩ else
  match s[(takesQ s q.name).toNat]? with
  | some p => if p.kind = 4 then none else if byPl pl (takesQ s q.name).toNat p then some ⟨2, q.name⟩ else none
  | none => none

def closedQ (s : Sig) (pl : List Int) (qs : List Pair) : Bnds × List Problem := (s.mapIdx (giveQ s pl qs), manyQ s pl ++ qs.filterMap (wrongQ s pl))

theorem giveQ_nil {s : Sig} (pl : List Int) (i : Nat) (p : Param) : giveQ s pl [] i p = place1 (placesQ s) pl i p := by
  unfold giveQ
  by_cases h4 : p.kind = 4
  · rw [if_pos h4]
    have : placedQ p = false := by
      cases h : placedQ p with
      | false => rfl
      | true => rw [placed_kind] at h; omega
    unfold place1
    simp [this, h4, zL]
  · rw [if_neg h4]
    split
    · rename_i h
      simp only [Bool.and_eq_true, Bool.not_eq_true'] at h
      have hk := named_kind.1 h.1
      unfold place1
      unfold byPl at h
      rw [h.2]
      have : (p.kind == 2) = false := by simp; omega
      simp [this]
    · rfl

theorem closed_nil (s : Sig) (pl : List Int) : closedQ s pl [] = (phase1 s pl, manyQ s pl) := by
  simp only [closedQ, phase1, List.filterMap_nil, List.append_nil]
  congr 1
  apply List.ext_getElem?
  intro i
  rw [List.getElem?_mapIdx, List.getElem?_mapIdx]
  cases s[i]? with
  | none => rfl
  | some p => simp only [Option.map_some, giveQ_nil]

theorem takes_named {s : Sig} (hs : OkS s) {i : Nat} {p : Param} (hp : s[i]? = some p) (hn : namedQ p = true) : takesQ s p.name = (i : Int) := by
  have hq : ∀ j q, s[j]? = some q → q.name = p.name → j = i := fun j q hj hqn => by
    have hnd := hs.nodup
    rw [List.nodup_iff_pairwise_ne, List.pairwise_iff_getElem] at hnd
    have hi := lt_of_some hp
    have hjl := lt_of_some hj
    rw [List.getElem?_eq_getElem hi] at hp
    rw [List.getElem?_eq_getElem hjl] at hj
    simp only [Option.some.injEq] at hp hj
    rcases Nat.lt_trichotomy j i with h | h | h
    · exact absurd (by rw [List.getElem_map, List.getElem_map, hp, hj, hqn]) (hnd j i (by simpa using hjl) (by simpa using hi) h)
    · exact h
    · exact absurd (by rw [List.getElem_map, List.getElem_map, hp, hj, hqn]) (hnd i j (by simpa using hi) (by simpa using hjl) h)
  have hany : s.any (qIs p.name) = true := by rw [List.any_eq_true]; exact ⟨p, List.mem_of_getElem? hp, by simp [qIs]⟩
  obtain ⟨q, hf, hqi, hqn, hlt⟩ := idxI_find (idxI_ge (i := 0).2 hany)
  have hqn' : q.name = p.name := by simpa [qIs] using hqn
  have hix := hq _ q hqi hqn'
  have hpq : q = p := by rw [hix, hp] at hqi; exact (Option.some.inj hqi).symm
  have h0 := idxI_ge (i := 0).2 hany
  unfold takesQ
  rw [hf]
  simp only [hpq, hn, if_true]
  omega

theorem find_snoc {qs : List Pair} {q : Pair} {n : Str} : (qs ++ [q]).find? (nameIs n) = (match qs.find? (nameIs n) with
    | some x => some x
    | none => if q.name = n then some q else none) := by
  rw [List.find?_append]
  cases qs.find? (nameIs n) with
  | some x => rfl
  | none =>
    simp only [Option.none_or, List.find?_cons, List.find?_nil, nameIs]
    by_cases h : q.name = n
    · simp [h]
    · have : (q.name == n) = false := by simpa using h
      simp [h, this]

theorem find_none {qs : List Pair} {n : Str} (h : n ∉ namesOf qs) : qs.find? (nameIs n) = none := by
  rw [List.find?_eq_none]
  intro x hx hxn
  exact h (by simp only [nameIs, beq_iff_eq] at hxn; rw [← hxn]; exact List.mem_map_of_mem hx)

theorem closed_step {s : Sig} (hs : OkS s) {pl : List Int} {qs : List Pair} {q : Pair} (hq : q.name ∉ namesOf qs) : stepB s (closedQ s pl qs) q = closedQ s pl (qs ++ [q]) := by
  by_cases hneg : takesQ s q.name < 0
  · rw [stepB_neg hneg]
    simp only [closedQ, List.filterMap_append, List.filterMap_cons, List.filterMap_nil, wrongQ, hneg, if_true, List.append_assoc]
    congr 1
    apply List.ext_getElem?
    intro i
    simp only [List.getElem?_mapIdx]
    cases hp : s[i]? with
    | none => rfl
    | some p =>
      simp only [Option.map_some, Option.some.injEq, giveQ]
      split
      · have : (takesQ s q.name == (i : Int)) = false := by simp; omega
        simp [this]
      · split
        · rename_i h4 hn
          simp only [Bool.and_eq_true] at hn
          have ht := takes_named hs hp hn.1
          rw [find_snoc]
          have hne : q.name ≠ p.name := fun h0 => by rw [h0, ht] at hneg; omega
          rw [if_neg hne]
          cases qs.find? (nameIs p.name) <;> rfl
        · rfl
  · obtain ⟨p, hp, hlt, hk⟩ := takesQ_some hneg
    have hat : takesQ s q.name = ((takesQ s q.name).toNat : Nat) := by omega
    generalize hj : (takesQ s q.name).toNat = j at hp hat
    have hx : (closedQ s pl qs).1[j]? = some (giveQ s pl qs j p) := by simp [closedQ, hp]
    have hother : ∀ (i : Nat) (r : Param), s[i]? = some r → i ≠ j → giveQ s pl (qs ++ [q]) i r = giveQ s pl qs i r := fun i r hr hij => by
      simp only [giveQ]
      split
      · have : (takesQ s q.name == (i : Int)) = false := by rw [hat]; simp; omega
        simp [this]
      · split
        · rename_i h4 hn
          simp only [Bool.and_eq_true] at hn
          have ht := takes_named hs hr hn.1
          rw [find_snoc]
          have hne : q.name ≠ r.name := fun h0 => by rw [h0, ht] at hat; omega
          rw [if_neg hne]
          cases qs.find? (nameIs r.name) <;> rfl
        · rfl
    have hset : ∀ y : Slot, giveQ s pl (qs ++ [q]) j p = y → (closedQ s pl qs).1.set j y = (closedQ s pl (qs ++ [q])).1 := fun y hy => by
      apply List.ext_getElem?
      intro i
      simp only [closedQ, List.getElem?_set, List.getElem?_mapIdx, List.length_mapIdx]
      by_cases hij : j = i
      · subst hij; rw [if_pos rfl, if_pos (lt_of_some hp), hp]; simp [hy]
      · rw [if_neg hij]
        cases hr : s[i]? with
        | none => rfl
        | some r => simp [hother i r hr (fun h => hij h.symm)]
    have hwr : ∀ w : Option Problem, wrongQ s pl q = w → (closedQ s pl (qs ++ [q])).2 = (closedQ s pl qs).2 ++ w.toList := fun w hw => by
      simp only [closedQ, List.filterMap_append, List.append_assoc]
      congr 1
      congr 1
      cases w <;> simp [List.filterMap_cons, hw]
    by_cases h4 : p.kind = 4
    · rw [stepB_map hat hp hx h4]
      have hw : wrongQ s pl q = none := by simp [wrongQ, hneg, hj, hp, h4]
      have h1 := hwr none hw
      refine Prod.ext (hset _ ?_) (by rw [h1]; simp)
      simp [giveQ, h4, hat]
    · have hn : namedQ p = true ∧ p.name = q.name := by
        rcases hk with h | h
        · exact h
        · exact absurd h h4
      have hnf : qs.find? (nameIs p.name) = none := by rw [hn.2]; exact find_none hq
      by_cases hb : byPl pl j p = true
      · have hg : (giveQ s pl qs j p).given = true := by
          unfold byPl at hb
          simp only [giveQ, h4, if_false, hn.1, byPl, hb, Bool.not_true, Bool.and_false, Bool.false_eq_true, place1, if_true]
        rw [stepB_twice hat hp hx h4 hg]
        have hw : wrongQ s pl q = some ⟨2, q.name⟩ := by simp [wrongQ, hneg, hj, hp, h4, hb]
        have h1 := hwr _ hw
        refine Prod.ext ?_ (by rw [h1]; rfl)
        have h2 := hset (giveQ s pl qs j p) (by simp only [giveQ, h4, if_false, hn.1, hb, Bool.not_true, Bool.and_false, Bool.false_eq_true])
        rw [set_same hx] at h2
        exact h2
      · have hb' : byPl pl j p = false := by simpa using hb
        have hg : (giveQ s pl qs j p).given = false := by
          simp only [giveQ, h4, if_false, hn.1, hb', Bool.not_false, Bool.and_self, if_true, hnf, zL]
        rw [stepB_set hat hp hx h4 hg]
        have hw : wrongQ s pl q = none := by simp [wrongQ, hneg, hj, hp, h4, hb']
        have h1 := hwr none hw
        refine Prod.ext (hset _ ?_) (by rw [h1]; simp)
        rw [hn.2] at hnf
        simp only [giveQ, h4, if_false, hn.1, hb', Bool.not_false, Bool.and_self, if_true, find_snoc, hnf, hn.2]

theorem closed_fold {s : Sig} (hs : OkS s) {pl : List Int} : ∀ (rs qs : List Pair), (namesOf (qs ++ rs)).Nodup → rs.foldl (stepB s) (closedQ s pl qs) = closedQ s pl (qs ++ rs)
  | [], qs, _ => by simp
  | r :: rs, qs, h => by
    have hr : r.name ∉ namesOf qs := by
      intro h0
      simp only [namesOf, List.map_append, List.map_cons] at h h0
      exact (List.nodup_append.1 h).2.2 _ h0 _ (List.mem_cons_self ..) rfl
    rw [List.foldl_cons, closed_step hs hr, closed_fold hs rs (qs ++ [r]) (by simpa using h)]
    simp

/-- What a call gives. -/
theorem bound_closed {s : Sig} (hs : OkS s) {f : Flat} (hf : (namesOf f.named).Nodup) : boundQ s f = closedQ s f.places f.named := by
  rw [boundQ, ← closed_nil, closed_fold hs f.named [] (by simpa using hf)]
  simp

def atP (f : Flat) (q : Param) : Bool := q.kind == 1 && f.named.any (nameIs q.name)

def atQ (s : Sig) (f : Flat) : Int := idxI (atP f) s 0

def giveP (f : Flat) (q : Param) : Param := if namedQ q then (match f.named.find? (nameIs q.name) with
  | some r => ⟨q.name, q.kind, true, r.value⟩
  | none => q) else q

def kindP (b : Bool) (q : Param) : Param := if q.kind == 1 && b then ⟨q.name, 3, q.hasD, q.dflt⟩ else q

def skipP (at' : Int) (f : Flat) (i : Nat) (q : Param) : Bool := (placedQ q && decide (i < f.places.length)) || (q.kind == 2 && decide (0 ≤ at'))

def partParam (at' : Int) (f : Flat) (i : Nat) (q : Param) : Option Param :=
  if skipP at' f i q then none else some (giveP f (kindP (decide (0 ≤ at') && decide (at' ≤ i)) q))

def psL (at' : Int) (f : Flat) (s : Sig) : Sig := s.zipIdx.filterMap fun x => partParam at' f x.2 x.1

theorem psL_succ {at' : Int} {f : Flat} {s : Sig} {i : Nat} {q : Param} (hq : s[i]? = some q) : psL at' f (s.take (i + 1)) = psL at' f (s.take i) ++ (partParam at' f i q).toList := by
  have hl : (s.take i).length = i := by have := lt_of_some hq; simp; omega
  unfold psL
  rw [← take_snoc hq, List.zipIdx_append, List.filterMap_append, hl]
  simp [List.filterMap_cons]
  cases partParam at' f i q <;> rfl

theorem partParam_name {at' : Int} {f : Flat} {i : Nat} {q r : Param} (h : partParam at' f i q = some r) : r.name = q.name := by
  unfold partParam at h
  split at h
  · cases h
  · simp only [Option.some.injEq] at h
    rw [← h]
    unfold giveP kindP
    split <;> split <;> (try split) <;> rfl

theorem idxI_le {α : Type} {pred : α → Bool} : ∀ {xs : List α} {k i : Nat} {x : α}, xs[i]? = some x → pred x = true → 0 ≤ idxI pred xs k ∧ idxI pred xs k ≤ ((k + i : Nat) : Int)
  | y :: xs, k, 0, x, hx, hp => by
    simp at hx; subst hx
    simp [idxI, hp]
  | y :: xs, k, i + 1, x, hx, hp => by
    simp only [List.getElem?_cons_succ] at hx
    have := idxI_le (k := k + 1) hx hp
    unfold idxI
    split
    · omega
    · omega

theorem part_np {s : Sig} {f : Flat} (h : partQ s f = true) {i : Nat} {x : Param} (hx : s[i]? = some x) (hp : placedQ x = true) (hi : i < f.places.length) (hn : namedQ x = true) : f.named.any (nameIs x.name) = false := by
  simp only [partQ, Bool.and_eq_true, decide_eq_true_eq] at h
  obtain ⟨h1, h2⟩ := h
  obtain ⟨hs, hf⟩ := fitQ_iff.1 h1
  have hnd : (namesOf f.named).Nodup := by
    have := okFlat_iff.2 hf
    simp [okFlat] at this; exact this.1.1.1.2
  rw [bound_closed hs hnd] at h2
  simp only [closedQ, List.append_eq_nil_iff, List.filterMap_eq_nil_iff] at h2
  cases ha : f.named.any (nameIs x.name) with
  | false => rfl
  | true =>
    rw [List.any_eq_true] at ha
    obtain ⟨q, hq, hqn⟩ := ha
    simp only [nameIs, beq_iff_eq] at hqn
    have hw := h2.2 q hq
    have ht := takes_named hs hx hn
    rw [← hqn] at ht
    have hk := placed_kind.1 hp
    have hb : byPl f.places i x = true := by simp [byPl, hp, hi]
    unfold wrongQ at hw
    rw [ht] at hw
    simp only [Int.toNat_natCast, hx] at hw
    rw [if_neg (by omega), if_neg (by omega), if_pos hb] at hw
    cases hw

theorem np_at {s : Sig} {f : Flat} (h : partQ s f = true) {i : Nat} {x : Param} (hx : s[i]? = some x) (hp : placedQ x = true) (hi : i < f.places.length) : atP f x = false := by
  unfold atP
  cases hk : x.kind == 1 with
  | false => rfl
  | true =>
    rw [part_np h hx hp hi (by simp at hk; simp [namedQ, hk])]; rfl

def psQ (s : Sig) (f : Flat) : Sig := psL (atQ s f) f s

theorem acc_iff {s : Sig} {f : Flat} (hs : OkS s) (hf : OkF f) : accQ s f = true ↔
    (placesQ s < f.places.length → s.any (kIs 2) = true) ∧ (∀ q ∈ f.named, wrongQ s f.places q = none) ∧ missingQ s (s.mapIdx (giveQ s f.places f.named)) = [] := by
  have hb := bound_closed hs hf.nodup
  unfold accQ bindQ
  rw [hb]
  simp only [closedQ, decide_eq_true_eq, List.append_eq_nil_iff, List.filterMap_eq_nil_iff, and_assoc]
  have hm : manyQ s f.places = [] ↔ (placesQ s < f.places.length → s.any (kIs 2) = true) := by
    unfold manyQ
    split
    · rename_i h
      simp only [Bool.and_eq_true, decide_eq_true_eq, Bool.not_eq_true'] at h
      constructor
      · intro h0; cases h0
      · intro h0; rw [h0 h.1] at h; cases h.2
    · rename_i h
      simp only [true_iff]
      intro h0
      cases ha : s.any (kIs 2) with
      | true => rfl
      | false => exact absurd (by simp [h0, ha]) h
  rw [hm]

theorem give_given {s : Sig} {pl : List Int} {qs : List Pair} {i : Nat} {p : Param} (h : singleQ p = true) :
    (giveQ s pl qs i p).given = (byPl pl i p || (namedQ p && qs.any (nameIs p.name))) := by
  rw [single_kind] at h
  have hf : (qs.find? (nameIs p.name)).isSome = qs.any (nameIs p.name) := by
    cases ha : qs.any (nameIs p.name) with
    | true =>
      rw [List.find?_isSome]
      exact List.any_eq_true.1 ha
    | false =>
      cases hq : qs.find? (nameIs p.name) with
      | none => rfl
      | some q =>
        have h1 := List.mem_of_find?_eq_some hq
        have h2 := List.find?_some hq
        have : qs.any (nameIs p.name) = true := List.any_eq_true.2 ⟨q, h1, h2⟩
        rw [this] at ha; cases ha
  unfold giveQ
  rw [if_neg (by omega)]
  cases hb : byPl pl i p with
  | true =>
    simp only [Bool.not_true, Bool.and_false, Bool.true_or]
    unfold byPl at hb
    simp [place1, hb]
  | false =>
    cases hn : namedQ p with
    | true =>
      simp only [Bool.not_false, Bool.and_self, if_true, Bool.false_or, Bool.true_and]
      rw [← hf]
      cases qs.find? (nameIs p.name) <;> rfl
    | false =>
      simp only [Bool.false_and, Bool.false_or]
      unfold byPl at hb
      have h2 : (p.kind == 2) = false := by simp; omega
      simp [place1, hb, h2, zL]

/-- What is lacking, parameter by parameter. -/
theorem lack_iff {s : Sig} {pl : List Int} {qs : List Pair} : missingQ s (s.mapIdx (giveQ s pl qs)) = [] ↔
    ∀ (i : Nat) (p : Param), s[i]? = some p → singleQ p = true → p.hasD = true ∨ byPl pl i p = true ∨ (namedQ p = true ∧ qs.any (nameIs p.name) = true) := by
  unfold missingQ
  rw [List.filterMap_eq_nil_iff]
  constructor
  · intro h i p hp hsg
    have hz : (p, giveQ s pl qs i p) ∈ s.zip (s.mapIdx (giveQ s pl qs)) := List.mem_of_getElem? (i := i) (by
      rw [List.getElem?_zip_eq_some]; exact ⟨hp, by simp [List.getElem?_mapIdx, hp]⟩)
    have h1 := h _ hz
    unfold lackQ at h1
    simp only [give_given hsg, hsg, Bool.true_and] at h1
    split at h1
    · cases h1
    · rename_i h2
      cases hd : p.hasD with
      | true => exact .inl rfl
      | false =>
        right
        rw [hd] at h2
        simp only [Bool.not_false, Bool.true_and, Bool.not_eq_true', Bool.not_eq_false] at h2
        simpa using h2
  · intro h z hz
    obtain ⟨i, hi⟩ := List.getElem?_of_mem hz
    rw [List.getElem?_zip_eq_some] at hi
    obtain ⟨h1, h2⟩ := hi
    rw [List.getElem?_mapIdx, h1] at h2
    simp only [Option.map_some, Option.some.injEq] at h2
    unfold lackQ
    split
    · rename_i h3
      simp only [Bool.and_eq_true, Bool.not_eq_true'] at h3
      have h4 := h i z.1 h1 h3.1.1
      rw [← h2, give_given h3.1.1] at h3
      rcases h4 with h4 | h4 | ⟨h4, h5⟩
      · rw [h4] at h3; cases h3.1.2
      · rw [h4] at h3; cases h3.2
      · rw [h4, h5] at h3; simp at h3
    · rfl

/-- What is wrong with a name. -/
theorem wrong_iff {s : Sig} {pl : List Int} {q : Pair} : wrongQ s pl q = none ↔
    0 ≤ takesQ s q.name ∧ ∀ p, s[(takesQ s q.name).toNat]? = some p → p.kind ≠ 4 → byPl pl (takesQ s q.name).toNat p = false := by
  unfold wrongQ
  constructor
  · intro h
    split at h
    · cases h
    · rename_i h1
      refine ⟨by omega, fun p hp hk => ?_⟩
      rw [hp] at h
      simp only at h
      rw [if_neg hk] at h
      cases hb : byPl pl (takesQ s q.name).toNat p with
      | false => rfl
      | true => rw [if_pos hb] at h; cases h
  · rintro ⟨h1, h2⟩
    rw [if_neg (by omega)]
    cases hp : s[(takesQ s q.name).toNat]? with
    | none => rfl
    | some p =>
      simp only
      by_cases hk : p.kind = 4
      · rw [if_pos hk]
      · rw [if_neg hk, if_neg (by rw [h2 p hp hk]; simp)]

theorem name_inj {s : Sig} (hs : OkS s) {i j : Nat} {p q : Param} (hp : s[i]? = some p) (hq : s[j]? = some q) (h : p.name = q.name) : i = j := by
  refine (List.getElem?_inj (l := s.map Param.name) (by have := lt_of_some hp; simpa using this) hs.nodup).1 ?_
  rw [List.getElem?_map, List.getElem?_map, hp, hq]
  simp [h]

theorem any_names {qs : List Pair} {n : Str} : qs.any (nameIs n) = true ↔ n ∈ namesOf qs := by
  simp [namesOf, nameIs]

/-- Where a name goes. -/
def goesQ (s : Sig) (n : Str) : Prop := (∃ (i : Nat) (p : Param), s[i]? = some p ∧ namedQ p = true ∧ p.name = n) ∨ ∃ p ∈ s, p.kind = 4

theorem takes_goes {s : Sig} (hs : OkS s) {n : Str} : 0 ≤ takesQ s n ↔ goesQ s n := by
  constructor
  · intro h
    obtain ⟨p, hp, _, hk⟩ := takesQ_some (show ¬ takesQ s n < 0 by omega)
    rcases hk with ⟨h1, h2⟩ | h1
    · exact .inl ⟨_, p, hp, h1, h2⟩
    · exact .inr ⟨p, List.mem_of_getElem? hp, h1⟩
  · intro h
    by_cases hA : ∃ (i : Nat) (p : Param), s[i]? = some p ∧ namedQ p = true ∧ p.name = n
    · obtain ⟨i, p, hp, hn, rfl⟩ := hA
      rw [takes_named hs hp hn]; omega
    · rcases h with h | ⟨p, hp, hk⟩
      · exact absurd h hA
      · have h4 : takesQ s n = idxI (kIs 4) s 0 := by
          cases hf : s.find? (qIs n) with
          | none => simp [takesQ, hf]
          | some q =>
            cases hn : namedQ q with
            | false => simp [takesQ, hf, hn]
            | true =>
              have h1 := List.mem_of_find?_eq_some hf
              have h2 := List.find?_some hf
              obtain ⟨i, hi⟩ := List.getElem?_of_mem h1
              exact absurd ⟨i, q, hi, hn, by simpa [qIs] using h2⟩ hA
        rw [h4]
        exact idxI_ge.2 (List.any_eq_true.2 ⟨p, hp, by simpa [kIs] using hk⟩)

theorem wrong_iff2 {s : Sig} (hs : OkS s) {pl : List Int} {q : Pair} : wrongQ s pl q = none ↔
    goesQ s q.name ∧ ∀ (i : Nat) (p : Param), s[i]? = some p → namedQ p = true → p.name = q.name → byPl pl i p = false := by
  rw [wrong_iff, takes_goes hs]
  constructor
  · rintro ⟨h1, h2⟩
    refine ⟨h1, fun i p hp hn he => ?_⟩
    have ht := takes_named hs hp hn
    rw [he] at ht
    have := h2 p (by rw [ht]; simpa using hp) (by have := named_kind.1 hn; omega)
    rw [ht] at this
    simpa using this
  · rintro ⟨h1, h2⟩
    refine ⟨h1, fun p hp hk => ?_⟩
    obtain ⟨p', hp', _, hk'⟩ := takesQ_some (show ¬ takesQ s q.name < 0 by have := (takes_goes hs).2 h1; omega)
    rw [hp] at hp'
    cases hp'
    rcases hk' with ⟨h3, h4⟩ | h3
    · exact h2 _ p hp h3 h4
    · exact absurd h3 hk

theorem find_isSome {f : Flat} {n : Str} : (f.named.find? (nameIs n)).isSome = f.named.any (nameIs n) := by
  cases ha : f.named.any (nameIs n) with
  | true => rw [List.find?_isSome]; exact List.any_eq_true.1 ha
  | false =>
    cases hq : f.named.find? (nameIs n) with
    | none => rfl
    | some q =>
      have : f.named.any (nameIs n) = true := List.any_eq_true.2 ⟨q, List.mem_of_find?_eq_some hq, List.find?_some hq⟩
      rw [this] at ha; cases ha

theorem kindP_facts (b : Bool) (q : Param) : (kindP b q).name = q.name ∧ (kindP b q).kind = (if q.kind = 1 ∧ b = true then 3 else q.kind) ∧ (kindP b q).hasD = q.hasD ∧ namedQ (kindP b q) = namedQ q := by
  unfold kindP namedQ
  by_cases h1 : q.kind = 1
  · cases b <;> simp [h1]
  · simp [h1]

theorem giveP_facts (f : Flat) (q : Param) : (giveP f q).name = q.name ∧ (giveP f q).kind = q.kind ∧ (giveP f q).hasD = (q.hasD || (namedQ q && f.named.any (nameIs q.name))) := by
  unfold giveP
  rw [← find_isSome]
  cases hn : namedQ q with
  | false => simp
  | true =>
    simp only [if_true]
    cases f.named.find? (nameIs q.name) <;> simp

/-- What becomes of a parameter. -/
structure KeptQ (k : Int) (f : Flat) (i : Nat) (p p' : Param) : Prop where
  name : p'.name = p.name
  kind : p'.kind = if p.kind = 1 ∧ 0 ≤ k ∧ k ≤ i then 3 else p.kind
  hasD : p'.hasD = (p.hasD || (namedQ p && f.named.any (nameIs p.name)))
  place : ¬ (placedQ p = true ∧ i < f.places.length)
  rest : ¬ (p.kind = 2 ∧ 0 ≤ k)

theorem partParam_facts {k : Int} {f : Flat} {i : Nat} {p p' : Param} (h : partParam k f i p = some p') : KeptQ k f i p p' := by
  have hn := partParam_name h
  unfold partParam at h
  split at h
  · cases h
  · rename_i hs
    simp only [Option.some.injEq] at h
    obtain ⟨a1, a2, a3, a4⟩ := kindP_facts (decide (0 ≤ k) && decide (k ≤ i)) p
    obtain ⟨b1, b2, b3⟩ := giveP_facts f (kindP (decide (0 ≤ k) && decide (k ≤ i)) p)
    rw [h] at b1 b2 b3
    refine ⟨hn, ?_, ?_, ?_, ?_⟩
    · rw [b2, a2]; simp
    · rw [b3, a3, a4, a1]
    · rintro ⟨h1, h2⟩; exact hs (by simp [skipP, h1, h2])
    · rintro ⟨h1, h2⟩; exact hs (by simp [skipP, h1, h2])

theorem partParam_keep {k : Int} {f : Flat} {i : Nat} {p : Param} (h1 : ¬ (placedQ p = true ∧ i < f.places.length)) (h2 : ¬ (p.kind = 2 ∧ 0 ≤ k)) : ∃ p', partParam k f i p = some p' := by
  unfold partParam
  rw [if_neg]
  · exact ⟨_, rfl⟩
  · unfold skipP
    simp only [Bool.or_eq_true, Bool.and_eq_true, decide_eq_true_eq, beq_iff_eq]
    rintro (h | h)
    · exact h1 h
    · exact h2 h

theorem psL_split {k : Int} {f : Flat} {s : Sig} (i : Nat) : ∃ r, psL k f s = psL k f (s.take i) ++ r := by
  refine ⟨((s.drop i).zipIdx (0 + (s.take i).length)).filterMap (fun x => partParam k f x.2 x.1), ?_⟩
  conv => lhs; rw [← List.take_append_drop i s]
  unfold psL
  rw [List.zipIdx_append, List.filterMap_append]

/-- The facts of a partial call's signature. -/
structure PsFacts (s : Sig) (pf : Flat) : Prop where
  sig : OkS s
  flat : OkF pf
  out : OkS (psQ s pf)
  part : partQ s pf = true

theorem PsFacts.first {s : Sig} {pf : Flat} (h : PsFacts s pf) (h0 : 0 ≤ atQ s pf) : ∃ (n : Nat) (y : Param), atQ s pf = n ∧ s[n]? = some y ∧ y.kind = 1 ∧ pf.named.any (nameIs y.name) = true ∧ pf.places.length ≤ n := by
  obtain ⟨y, _, hy, hyp, hlt⟩ := idxI_find h0
  have hk := hyp
  simp only [atP, Bool.and_eq_true, beq_iff_eq] at hk
  refine ⟨(atQ s pf).toNat, y, by omega, hy, hk.1, hk.2, ?_⟩
  refine Classical.byContradiction fun hc => ?_
  have := np_at h.part hy (placed_kind.2 (.inr hk.1)) (by unfold atQ at hc; omega)
  rw [hyp] at this; cases this

theorem PsFacts.from {s : Sig} {pf : Flat} (h : PsFacts s pf) {i : Nat} {p : Param} (hp : s[i]? = some p) (hk : p.kind = 1) (hn : pf.named.any (nameIs p.name) = true) : 0 ≤ atQ s pf ∧ atQ s pf ≤ i := by
  have := idxI_le (k := 0) (pred := atP pf) hp (by simp [atP, hk, hn])
  unfold atQ; omega

theorem PsFacts.kinds {s : Sig} {pf : Flat} (h : PsFacts s pf) {i : Nat} {p : Param} (hp : s[i]? = some p) (h0 : 0 ≤ atQ s pf) (h1 : atQ s pf ≤ i) (hk : placedQ p = true) : p.kind = 1 := by
  obtain ⟨n, y, hn, hy, hyk, _, _⟩ := h.first h0
  have := h.sig.sorted (i - n) n y p hy (by rw [show n + (i - n) = i by omega]; exact hp)
  rw [placed_kind] at hk; omega

theorem KeptQ.placed {s : Sig} {pf : Flat} (h : PsFacts s pf) {i : Nat} {p p' : Param} (hp : s[i]? = some p) (hk : KeptQ (atQ s pf) pf i p p') : placedQ p' = true ↔ placedQ p = true ∧ ¬ (0 ≤ atQ s pf ∧ atQ s pf ≤ i) := by
  have h1 := hk.kind
  constructor
  · intro h2
    rw [placed_kind] at h2
    split at h1
    · omega
    · rename_i h3
      have hpp : placedQ p = true := placed_kind.2 (by omega)
      refine ⟨hpp, fun h4 => h3 ⟨h.kinds hp h4.1 h4.2 hpp, h4⟩⟩
  · rintro ⟨h2, h3⟩
    rw [placed_kind] at h2 ⊢
    rw [if_neg (fun h4 => h3 h4.2)] at h1
    omega

theorem KeptQ.named {k : Int} {pf : Flat} {i : Nat} {p p' : Param} (hk : KeptQ k pf i p p') : namedQ p' = namedQ p := by
  have h1 := hk.kind
  have : namedQ p' = true ↔ namedQ p = true := by
    rw [named_kind, named_kind]
    split at h1 <;> omega
  cases h : namedQ p with
  | true => exact this.2 h
  | false =>
    cases h' : namedQ p' with
    | false => rfl
    | true => rw [this.1 h'] at h; cases h

theorem PsFacts.len {s : Sig} {pf : Flat} (h : PsFacts s pf) : ∀ (i : Nat), i ≤ placesQ s → (psL (atQ s pf) pf (s.take i)).length = i - pf.places.length
  | 0, _ => by simp [psL]
  | i + 1, hi => by
    have hP := placesQ_le s
    obtain ⟨p, hp⟩ := at_some (xs := s) (i := i) (by omega)
    have hpl := (h.sig.placed_iff hp).2 (by omega)
    rw [psL_succ hp, List.length_append, PsFacts.len h i (by omega)]
    by_cases hia : i < pf.places.length
    · have : partParam (atQ s pf) pf i p = none := by simp [partParam, skipP, hpl, hia]
      rw [this]; simp; omega
    · obtain ⟨p', hp'⟩ := partParam_keep (k := atQ s pf) (f := pf) (i := i) (p := p) (by omega) (by rw [placed_kind] at hpl; omega)
      rw [hp']; simp; omega

/-- Where a parameter goes. -/
theorem PsFacts.to {s : Sig} {pf : Flat} (h : PsFacts s pf) {i : Nat} {p : Param} (hp : s[i]? = some p) (h1 : ¬ (placedQ p = true ∧ i < pf.places.length)) (h2 : ¬ (p.kind = 2 ∧ 0 ≤ atQ s pf)) :
    ∃ (j : Nat) (p' : Param), (psQ s pf)[j]? = some p' ∧ KeptQ (atQ s pf) pf i p p' ∧ (placedQ p' = true → j + pf.places.length = i) := by
  obtain ⟨p', hp'⟩ := partParam_keep (f := pf) h1 h2
  have hk := partParam_facts hp'
  obtain ⟨r, hr⟩ := psL_split (k := atQ s pf) (f := pf) (s := s) (i + 1)
  rw [psL_succ hp, hp'] at hr
  refine ⟨(psL (atQ s pf) pf (s.take i)).length, p', ?_, hk, fun hpl => ?_⟩
  · unfold psQ
    rw [hr, List.append_assoc, List.getElem?_append_right (by omega)]
    simp
  · have hpp := ((hk.placed h hp).1 hpl).1
    have hi := (h.sig.placed_iff hp).1 hpp
    rw [h.len i (by omega)]
    have := hk.place
    have : ¬ i < pf.places.length := fun h0 => this ⟨hpp, h0⟩
    omega

/-- Where a parameter comes from. -/
theorem PsFacts.of {s : Sig} {pf : Flat} (h : PsFacts s pf) {j : Nat} {p' : Param} (hp : (psQ s pf)[j]? = some p') :
    ∃ (i : Nat) (p : Param), s[i]? = some p ∧ KeptQ (atQ s pf) pf i p p' ∧ (placedQ p' = true → j + pf.places.length = i) := by
  have hm := List.mem_of_getElem? hp
  unfold psQ psL at hm
  rw [List.mem_filterMap] at hm
  obtain ⟨⟨p, i⟩, hq, hr⟩ := hm
  rw [List.mem_zipIdx_iff_getElem?] at hq
  have hk := partParam_facts hr
  obtain ⟨j', p2, hj', hk', hpos⟩ := h.to hq hk.place hk.rest
  have hjj := name_inj h.out hp hj' (by rw [hk.name, hk'.name])
  subst hjj
  rw [hp] at hj'
  cases hj'
  exact ⟨i, p, hq, hk, hpos⟩

section

variable {s : Sig} {pf f : Flat}

end

def mkN (n : Str) : Pair := ⟨n, 0⟩

theorem names_mk (xs : List Str) : namesOf (xs.map mkN) = xs := by
  simp only [namesOf, List.map_map]
  have : (Pair.name ∘ mkN) = id := rfl
  rw [this, List.map_id]

def bareQ (p : Param) : Bool := p.kind == 0 && !p.hasD

def openQ (q : Param) (i : Nat) (n : Nat) : Bool := q.kind == 3 || (q.kind == 1 && decide (n ≤ i))

def nedQ (n : Nat) (x : Param × Nat) : Bool := openQ x.1 x.2 n && !x.1.hasD

def needNs (s : Sig) (n : Nat) : List Str := (s.zipIdx.filter (nedQ n)).map (fun x => x.1.name)

def takesC (s : Sig) (n : Nat) : Bool := !(decide (placesQ s < n) && !s.any (kIs 2)) && (s.drop n).all (fun p => !bareQ p)

theorem takes_iff {s : Sig} {n : Nat} : (s.drop n).all (fun p => !bareQ p) = true ↔ ∀ j p, s[j]? = some p → n ≤ j → bareQ p = false := by
  rw [List.all_eq_true]
  constructor
  · intro h j p hp hj
    have : p ∈ s.drop n := by
      have h2 : (s.drop n)[j - n]? = some p := by rw [List.getElem?_drop, show n + (j - n) = j by omega]; exact hp
      exact List.mem_of_getElem? h2
    simpa using h p this
  · intro h p hp
    obtain ⟨k, hk⟩ := List.getElem?_of_mem hp
    rw [List.getElem?_drop] at hk
    simpa using h _ p hk (by omega)

def allowQ (s : Sig) (n : Nat) (m : Str) : Prop := goesQ s m ∧ ∀ (i : Nat) (p : Param), s[i]? = some p → namedQ p = true → p.name = m → p.kind = 1 → n ≤ i

theorem wrong_allow {s : Sig} (hs : OkS s) {pl : List Int} {q : Pair} : wrongQ s pl q = none ↔ allowQ s pl.length q.name := by
  rw [wrong_iff2 hs]
  unfold allowQ
  refine and_congr_right fun _ => ?_
  constructor
  · intro h i p hp hn he hk
    have := h i p hp hn he
    unfold byPl at this
    rw [placed_kind.2 (.inr hk)] at this
    simpa using this
  · intro h i p hp hn he
    unfold byPl
    cases hpl : placedQ p with
    | false => rfl
    | true =>
      have := h i p hp hn he (by rw [placed_kind] at hpl; rw [named_kind] at hn; omega)
      simp; omega

theorem need_mem {s : Sig} {n : Nat} {m : Str} : m ∈ needNs s n ↔ ∃ (i : Nat) (p : Param), s[i]? = some p ∧ openQ p i n = true ∧ p.hasD = false ∧ p.name = m := by
  unfold needNs nedQ
  simp only [List.mem_map, List.mem_filter, Bool.and_eq_true, Bool.not_eq_true', Prod.exists]
  constructor
  · rintro ⟨p, i, ⟨h1, h2, h3⟩, h4⟩
    exact ⟨i, p, List.mem_zipIdx_iff_getElem?.1 h1, h2, h3, h4⟩
  · rintro ⟨i, p, h1, h2, h3, h4⟩
    exact ⟨p, i, ⟨List.mem_zipIdx_iff_getElem?.2 h1, h2, h3⟩, h4⟩

theorem open_kind {p : Param} {i n : Nat} : openQ p i n = true ↔ p.kind = 3 ∨ (p.kind = 1 ∧ n ≤ i) := by
  simp [openQ]

theorem takesC_iff {s : Sig} {n : Nat} : takesC s n = true ↔ (placesQ s < n → s.any (kIs 2) = true) ∧ ∀ (j : Nat) (p : Param), s[j]? = some p → n ≤ j → bareQ p = false := by
  unfold takesC
  rw [Bool.and_eq_true, takes_iff]
  refine and_congr_left fun _ => ?_
  simp only [Bool.not_eq_true', Bool.and_eq_false_iff, decide_eq_false_iff_not, Bool.not_eq_false']
  constructor
  · rintro (h | h) h1
    · exact absurd h1 h
    · exact h
  · intro h
    by_cases h1 : placesQ s < n
    · exact .inr (h h1)
    · exact .inl h1

theorem acc_law {s : Sig} {f : Flat} (hs : OkS s) (hf : OkF f) : accQ s f = true ↔
    takesC s f.places.length = true ∧ (∀ m ∈ needNs s f.places.length, m ∈ namesOf f.named) ∧ ∀ m ∈ namesOf f.named, allowQ s f.places.length m := by
  rw [acc_iff hs hf, lack_iff, takesC_iff]
  have hw : (∀ q ∈ f.named, wrongQ s f.places q = none) ↔ ∀ m ∈ namesOf f.named, allowQ s f.places.length m := by
    constructor
    · intro h m hm
      obtain ⟨q, hq, rfl⟩ := List.mem_map.1 hm
      exact (wrong_allow hs).1 (h q hq)
    · intro h q hq
      exact (wrong_allow hs).2 (h _ (List.mem_map_of_mem hq))
  rw [hw]
  constructor
  · rintro ⟨h1, h2, h3⟩
    refine ⟨⟨h1, fun j p hp hj => ?_⟩, fun m hm => ?_, h2⟩
    · unfold bareQ
      cases hk : p.kind == 0 with
      | false => rfl
      | true =>
        simp only [beq_iff_eq] at hk
        rcases h3 j p hp (single_kind.2 (.inl hk)) with h | h | ⟨h, _⟩
        · simp [h]
        · simp only [byPl, Bool.and_eq_true, decide_eq_true_eq] at h; omega
        · rw [named_kind] at h; omega
    · obtain ⟨i, p, hp, ho, hd, rfl⟩ := need_mem.1 hm
      rw [open_kind] at ho
      rcases h3 i p hp (single_kind.2 (by omega)) with h | h | ⟨_, h⟩
      · rw [hd] at h; cases h
      · simp only [byPl, Bool.and_eq_true, decide_eq_true_eq, placed_kind] at h; omega
      · exact any_names.1 h
  · rintro ⟨⟨h1, h3⟩, h4, h2⟩
    refine ⟨h1, h2, fun i p hp hsg => ?_⟩
    cases hd : p.hasD with
    | true => exact .inl rfl
    | false =>
      right
      rw [single_kind] at hsg
      by_cases hi : placedQ p = true ∧ i < f.places.length
      · left; simp [byPl, hi]
      · right
        have hne : p.kind ≠ 0 := fun h0 => by
          have := h3 i p hp (Nat.le_of_not_lt fun h5 => hi ⟨placed_kind.2 (.inl h0), h5⟩)
          simp [bareQ, h0, hd] at this
        refine ⟨named_kind.2 (by omega), any_names.2 (h4 _ (need_mem.2 ⟨i, p, hp, open_kind.2 ?_, hd, rfl⟩))⟩
        rcases hsg with h | h | h
        · exact absurd h hne
        · exact .inr ⟨h, Nat.le_of_not_lt fun h5 => hi ⟨placed_kind.2 (.inr h), h5⟩⟩
        · exact .inl h

def stepN (xs : List Str) (i : Nat) : Bool := match xs[i]? with
  | some n => okName n && (i == 0 || (match xs[i - 1]? with
    | some m => ltS m n
    | none => false))
  | none => true

def okNs (xs : List Str) : Bool := (List.range xs.length).all (stepN xs)

def okX (x : Shp) : Bool := okNs x.names && inR x.count 0 8 && decide (x.names.length ≤ 8)

def flatX (x : Shp) : Flat := ⟨List.replicate x.count.toNat 0, x.names.map mkN⟩

theorem okNs_all {xs : List Str} : okNs xs = true ↔ ∀ i, i < xs.length → stepN xs i = true := by
  simp [okNs, List.all_eq_true, List.mem_range]

theorem okNs_iff {xs : List Str} : okNs xs = true ↔ (∀ n ∈ xs, okName n = true) ∧ xs.Pairwise (fun a b => ltS a b = true) := by
  rw [okNs_all]
  constructor
  · intro h
    refine ⟨fun n hn => ?_, ?_⟩
    · obtain ⟨i, hi⟩ := List.getElem?_of_mem hn
      have := h i (lt_of_some hi)
      unfold stepN at this
      rw [hi] at this
      simp only [Bool.and_eq_true] at this
      exact this.1
    · rw [List.pairwise_iff_getElem]
      have key : ∀ (d i : Nat) (hi : i < xs.length) (hj : i + (d + 1) < xs.length), ltS xs[i] xs[i + (d + 1)] = true := by
        intro d
        induction d with
        | zero =>
          intro i hi hj
          have := h (i + 1) hj
          unfold stepN at this
          rw [List.getElem?_eq_getElem hj] at this
          simp only [Nat.add_sub_cancel, List.getElem?_eq_getElem hi, Bool.and_eq_true] at this
          simpa using this.2
        | succ d ih =>
          intro i hi hj
          have h1 := ih i hi (by omega)
          have := h (i + (d + 1) + 1) (by omega)
          unfold stepN at this
          rw [List.getElem?_eq_getElem (by omega)] at this
          simp only [Nat.add_sub_cancel, List.getElem?_eq_getElem (show i + (d + 1) < xs.length by omega), Bool.and_eq_true] at this
          have h2 := this.2
          simp only [Bool.or_eq_true, beq_iff_eq] at h2
          rcases h2 with h2 | h2
          · omega
          · exact ltS_trans h1 h2
      intro i j hi hj hij
      obtain ⟨d, rfl⟩ : ∃ d, j = i + (d + 1) := ⟨j - i - 1, by omega⟩
      exact key d i hi hj
  · rintro ⟨h1, h2⟩ i hi
    rw [List.pairwise_iff_getElem] at h2
    unfold stepN
    rw [List.getElem?_eq_getElem hi]
    simp only [Bool.and_eq_true]
    refine ⟨h1 _ (List.getElem_mem hi), ?_⟩
    cases i with
    | zero => rfl
    | succ i =>
      rw [Nat.add_sub_cancel, List.getElem?_eq_getElem (by omega)]
      simp only [Bool.or_eq_true]
      exact .inr (h2 i (i + 1) (by omega) hi (by omega))

theorem okNs_nodup {xs : List Str} (h : okNs xs = true) : xs.Nodup := by
  refine (okNs_iff.1 h).2.imp fun hab he => ?_
  rw [he, ltS_irrefl] at hab; cases hab

theorem flatX_names (x : Shp) : namesOf (flatX x).named = x.names := names_mk x.names

theorem flatX_places (x : Shp) : (flatX x).places.length = x.count.toNat := by simp [flatX]

theorem okX_flat {x : Shp} (h : okX x = true) : OkF (flatX x) := by
  simp only [okX, Bool.and_eq_true, decide_eq_true_eq] at h
  obtain ⟨⟨h1, h2⟩, h3⟩ := h
  have h4 := (okNs_iff.1 h1).1
  refine ⟨fun p hp => ?_, ?_, fun n hn => ?_, ?_, ?_⟩
  · obtain ⟨n, hn, rfl⟩ := List.mem_map.1 hp
    simp [okPair, mkN, h4 n hn, okVal, inR]
  · rw [flatX_names]; exact okNs_nodup h1
  · have := (List.mem_replicate.1 hn).2
    subst this
    simp [okVal, inR]
  · rw [flatX_places]; simp [inR] at h2; omega
  · simpa [flatX] using h3

theorem OkS.okName {s : Sig} (h : OkS s) {p : Param} (hp : p ∈ s) : okName p.name = true := by
  have := h.params p hp
  simp only [okQ, Bool.and_eq_true] at this
  exact this.1.1.1.1

theorem bind_ok {s : Sig} {f : Flat} (hs : OkS s) (hf : OkF f) : (BindQ s f).2 = accQ s f := by
  unfold BindQ
  rw [fitQ_iff.2 ⟨hs, hf⟩]
  simp only [Bool.true_and]
  split
  · rename_i h; exact h.symm
  · rename_i h; simpa using h

/-- A shape is accepted. -/
def accX (s : Sig) (x : Shp) : Bool := okX x && (BindQ s (flatX x)).2

theorem accX_iff {s : Sig} {x : Shp} (hs : OkS s) (hx : okX x = true) : accX s x = true ↔
    takesC s x.count.toNat = true ∧ (∀ m ∈ needNs s x.count.toNat, m ∈ x.names) ∧ ∀ m ∈ x.names, allowQ s x.count.toNat m := by
  unfold accX
  rw [hx, Bool.true_and, bind_ok hs (okX_flat hx), acc_law hs (okX_flat hx), flatX_places, flatX_names]

def hd0 (xs : List Int) : Int := xs.headD 0

structure LenX (x : Shp) : Prop where
  len : x.names.length ≤ 1048576
  names : ∀ n ∈ x.names, n.length ≤ 9223372036854775807

theorem stepN_all {xs : List Str} {i : Nat} {n : Str} (hn : xs[i]? = some n) (hall : ∀ j, j < i → stepN xs j = true) (h : stepN xs i = true) : ∀ j, j < i + 1 → stepN xs j = true := fun j hj => by
  by_cases hji : j = i
  · subst hji; exact h
  · exact hall j (by omega)

theorem okX_no {x : Shp} {i : Nat} (hi : i < x.names.length) (h : stepN x.names i = false) : okX x = false := by
  have : okNs x.names = false := by
    cases ho : okNs x.names with
    | false => rfl
    | true => rw [okNs_all.1 ho i hi] at h; cases h
  simp [okX, this]

theorem ivalidShape_ct (x : Shp) (hx : LenX x) : ACalls pk 95 [.agg (eX x)] [] (fun r o => r = .one (.bool (okX x)) ∧ o = []) := by
  have hl := hx.len
  refine acalls_of_body Tryz.func95 rfl (by kernel_rfl) rfl ?_
  refine rn rfl ?_
  refine goal_loop_keep (fun m σ => ∃ (q L : Int) (i : Nat), q = i ∧ L = x.names.length ∧ i ≤ x.names.length ∧ m = x.names.length - i ∧ (∀ j, j < i → stepN x.names j = true) ∧
      σ = ⟨[(8, .one (.int .i64 q)), (7, .one (.int .i64 L)), (6, .one (.fs (x.names.map eS))), (1, .one (.op 0 0 0))], [some ⟨2, [eX x], false, false, true⟩], []⟩) x.names.length [8, 7, 6, 1] [0] rfl
    ⟨_, _, 0, rfl, by simp, by omega, by omega, fun j hj => by omega, rfl⟩ ?_
  rintro m σ ⟨q, L, i, rfl, rfl, hi, rfl, hall, rfl⟩
  refine rn rfl ?_
  refine goal_cond rfl (fun h => ?_) (fun h => ?_) <;> (try simp only [gt_iff_lt, ge_iff_le, bne_iff_ne, ne_eq, bne_eq_false_iff_eq, beq_iff_eq, beq_eq_false_iff_ne, Bool.not_eq_true', Bool.not_eq_false', decide_eq_true_eq, decide_eq_false_iff_not, List.length_map] at h)
  · obtain ⟨n, hn⟩ := at_some (xs := x.names) (i := i) (by omega)
    refine rn rfl ?_
    refine goal_did rfl rfl (dA_index (eS n) rfl rfl rfl rfl rfl rfl rfl (by omega) (by (try simp); omega) (map_at (by simpa using hn)) rfl) ?_
    refine rn rfl ?_
    refine goal_step (step_call [] rfl rfl rfl rfl rfl rfl (isName_ct n (hx.names n (List.mem_of_getElem? hn)))) ?_
    rintro σ2 ⟨r, o', ⟨rfl, rfl⟩, hσ⟩
    obtain rfl := Option.some.inj hσ
    clear hσ
    refine rn rfl ?_
    refine goal_guard rfl rfl rfl (fun h1 => ?_) (fun h1 => ?_) <;> (try simp only [gt_iff_lt, ge_iff_le, bne_iff_ne, ne_eq, bne_eq_false_iff_eq, beq_iff_eq, beq_eq_false_iff_ne, Bool.not_eq_true', Bool.not_eq_false', decide_eq_true_eq, decide_eq_false_iff_not, List.length_map] at h1)
    · refine rn rfl (round_ret (fin_is [] rfl ⟨?_, rfl⟩))
      rw [okX_no (lt_of_some hn)]
      simp [stepN, hn, h1]
    · refine rn rfl ?_
      refine goal_guard rfl rfl rfl (fun h2 => ?_) (fun h2 => ?_) <;> (try simp only [gt_iff_lt, ge_iff_le, bne_iff_ne, ne_eq, bne_eq_false_iff_eq, beq_iff_eq, beq_eq_false_iff_ne, Bool.not_eq_true', Bool.not_eq_false', decide_eq_true_eq, decide_eq_false_iff_not, List.length_map] at h2)
      · obtain ⟨k, rfl⟩ : ∃ k, i = k + 1 := ⟨i - 1, by omega⟩
        obtain ⟨l, hl'⟩ := at_some (xs := x.names) (i := k) (by omega)
        have hw : IntKind.i64.wrap (((k + 1 : Nat) : Int) - 1) = (k : Int) := by rw [wrap64 (by omega) (by omega)]; omega
        refine rn rfl ?_
        rw [hw]
        refine goal_did rfl rfl (dA_index (eS l) rfl rfl rfl rfl rfl rfl rfl (by omega) (by (try simp); omega) (map_at (by simpa using hl')) rfl) ?_
        refine rn rfl ?_
        refine goal_cond rfl (fun h3 => ?_) (fun h3 => ?_)
        · refine rn rfl (round_ret (fin_is [] rfl ⟨?_, rfl⟩))
          have h3' : ltS l n = false := by simpa [ltS] using h3
          rw [okX_no (lt_of_some hn)]
          simp [stepN, hn, hl', h3']
        · have h3' : ltS l n = true := by simpa [ltS] using h3
          refine rn rfl ?_
          refine round_keep (x.names.length - (k + 1 + 1)) [8, 7, 6, 1] [0] (by omega) rfl ⟨_, _, k + 1 + 1, wrap64 (by omega) (by omega), rfl, by omega, rfl, stepN_all hn hall (by simp [stepN, hn, hl', h1, h3']), rfl⟩
      · refine rn rfl ?_
        refine round_keep (x.names.length - (i + 1)) [8, 7, 6, 1] [0] (by omega) rfl ⟨_, _, i + 1, wrap64 (by omega) (by omega), rfl, by omega, rfl, stepN_all hn hall ?_, rfl⟩
        have : i = 0 := by omega
        subst this
        simp [stepN, hn, h1]
  · refine rn rfl (round_ext ?_)
    have hok : okNs x.names = true := okNs_all.2 fun j hj => hall j (by omega)
    refine rn rfl ?_
    refine goal_step (step_call [] rfl rfl rfl rfl rfl rfl (iin_ct x.count 0 8)) ?_
    rintro σ2 ⟨r, o', ⟨rfl, rfl⟩, hσ⟩
    obtain rfl := Option.some.inj hσ
    clear hσ
    refine rn rfl ?_
    refine goal_guard rfl rfl rfl (fun h1 => ?_) (fun h1 => ?_) <;> (try simp only [gt_iff_lt, ge_iff_le, bne_iff_ne, ne_eq, bne_eq_false_iff_eq, beq_iff_eq, beq_eq_false_iff_ne, Bool.not_eq_true', Bool.not_eq_false', decide_eq_true_eq, decide_eq_false_iff_not, List.length_map] at h1)
    · refine rn rfl (fin_is [] rfl ⟨?_, rfl⟩)
      simp [okX, hok, h1]; omega
    · refine rn rfl (fin_is [] rfl ⟨?_, rfl⟩)
      simp [okX, hok, h1]

def flatXF (x : Shp) : Flat := if okX x then flatX x else zF

theorem iflatOf_ct (x : Shp) (hx : LenX x) : ACalls pk 37 [.agg (eX x)] [] (fun r o => r = .agg (eF (flatXF x)) ∧ o = []) := by
  refine acalls_of_body Tryz.func37 rfl (by kernel_rfl) rfl ?_
  refine rn rfl ?_
  refine goal_step (step_call [] rfl rfl rfl rfl rfl rfl (ivalidShape_ct x hx)) ?_
  rintro σ2 ⟨r, o', ⟨rfl, rfl⟩, hσ⟩
  obtain rfl := Option.some.inj hσ
  clear hσ
  refine rn rfl ?_
  refine goal_cond rfl (fun h => ?_) (fun h => ?_) <;> (try simp only [gt_iff_lt, ge_iff_le, bne_iff_ne, ne_eq, bne_eq_false_iff_eq, beq_iff_eq, beq_eq_false_iff_ne, Bool.not_eq_true', Bool.not_eq_false', decide_eq_true_eq, decide_eq_false_iff_not, List.length_map] at h)
  · refine rn rfl (fin_is [] rfl ⟨?_, rfl⟩)
    simp [flatXF, h]; rfl
  have hc := h
  simp only [okX, Bool.and_eq_true, decide_eq_true_eq, inR] at hc
  obtain ⟨n, hn⟩ : ∃ n : Nat, x.count = n := ⟨x.count.toNat, by omega⟩
  have hl := hc.2
  have hF : flatXF x = ⟨List.replicate n 0, x.names.map mkN⟩ := by simp [flatXF, h, flatX, hn]
  rw [hF]
  obtain ⟨c, names⟩ := x
  simp only at hn hl hc
  subst hn
  refine rn rfl ?_
  refine goal_did rfl rfl (dA_make n ((List.replicate n (0 : Int)).map eI) rfl rfl rfl (by simp) (by simp) rfl rfl rfl rfl rfl (by show 8 * n ≤ _; omega) (by omega) (by rw [← rep_map]; rfl)) ?_
  refine rn rfl ?_
  refine goal_weakCod (Weak.adoptO 3 1 2) ?_
  refine goal_loop_keep (fun m σ => ∃ (q L : Int) (i l : Nat) (acc : List Pair), q = i ∧ L = names.length ∧ i ≤ names.length ∧ m = names.length - i ∧ l = acc.length ∧ acc = (names.take i).map mkN ∧
      σ = ⟨[(17, .one (.int .i64 q)), (16, .one (.int .i64 L)), (15, .one (.fs (names.map eS))), (3, .one (.op 2 0 0)), (2, .one (.op 0 0 0))],
        [some ⟨2, [[.fs [], .fs []]], false, false, true⟩, ownI (List.replicate n 0), some ⟨2, [[.os 1 0 n n, .os 3 0 l l]], false, false, true⟩, ownP acc], []⟩) names.length [17, 16, 15, 3, 2] [1, 2, 3, 4] rfl
    ⟨_, _, 0, 0, [], rfl, by simp, by omega, by omega, rfl, rfl, rfl⟩ ?_
  rintro m σ ⟨q, L, i, l, acc, rfl, rfl, hi, rfl, rfl, hacc, rfl⟩
  refine rn rfl ?_
  refine goal_cond rfl (fun h2 => ?_) (fun h2 => ?_) <;> (try simp only [gt_iff_lt, ge_iff_le, bne_iff_ne, ne_eq, bne_eq_false_iff_eq, beq_iff_eq, beq_eq_false_iff_ne, Bool.not_eq_true', Bool.not_eq_false', decide_eq_true_eq, decide_eq_false_iff_not, List.length_map] at h2)
  · obtain ⟨nm, hnm⟩ := at_some (xs := names) (i := i) (by omega)
    have hlen : acc.length = i := by rw [hacc]; simp; omega
    refine rn rfl ?_
    refine goal_did rfl rfl (dA_index (eS nm) rfl rfl rfl rfl rfl rfl rfl (by omega) (by (try simp); omega) (map_at (by simpa using hnm)) rfl) ?_
    refine rn rfl ?_
    refine goal_did rfl rfl (dA_append (old := (acc).map eP) (rows := ([mkN nm] : List Pair).map eP) (((acc) ++ ([mkN nm] : List Pair)).map eP) (acc.length + 1) true (Dst.own rfl rfl rfl rfl rfl (by first | (simp; done) | (simp; omega)) (whole (by first | (simp; done) | (simp; omega)))) (Src.os rfl rfl (Nat.le_refl 1) rfl) rfl rfl rfl rfl rfl rfl rfl rfl (rows_len eP_len _) (rows_len eP_len _) (by (try simp only [List.length_map, List.length_append, List.length_cons, List.length_nil, List.length_take, List.length_drop]); show _ * 24 ≤ _; omega) (by first | (simp; done) | (simp; omega)) (by simp) (by first | (simp; done) | (simp; omega)) (fun _ => noOwnR_map _ eP_noOwn _)) ?_
    refine rn rfl ?_
    refine round_keep (names.length - (i + 1)) [17, 16, 15, 3, 2] [0, 1, 2, 5] (by omega) rfl ⟨_, _, i + 1, acc.length + 1, acc ++ [mkN nm], wrap64 (by omega) (by omega), rfl, by omega, rfl, by simp, by rw [hacc, ← take_snoc hnm]; simp, rfl⟩
  · refine rn rfl (round_ext ?_)
    have hfin : acc = names.map mkN := by rw [hacc, List.take_of_length_le (by omega)]
    rw [← hfin]
    refine rn rfl ?_
    have hA : T.agg [.fs (List.take n (List.drop 0 ((List.replicate n (0 : Int)).map eI))), .fs (List.take acc.length (List.drop 0 (acc.map eP)))] = T.agg (eF ⟨List.replicate n 0, acc⟩) := by rw [takeAll eI _ _ (by simp), takeAll eP _ _ rfl]; rfl
    refine goal_step (step_callE [] rfl rfl rfl rfl rfl rfl (cons_eq hA rfl) (copyOf_ct ⟨List.replicate n 0, acc⟩ (by simp; omega) (by simp [hfin]; omega))) ?_
    rintro σ2 ⟨r, o', ⟨rfl, rfl⟩, hσ⟩
    obtain rfl := Option.some.inj hσ
    clear hσ
    refine rn rfl ?_
    refine rn rfl (fin_is [] rfl ⟨?_, rfl⟩)
    exact asFl _

section

variable {X : Pk} {N np : Nat} {K : KP} {σ : State}

end

theorem SmallS.lens {s : Sig} (h : SmallS s) : LenS s := ⟨by have := h.len; omega, fun p hp => by have := h.names p hp; omega⟩

theorem flatXF_len {x : Shp} (hx : LenX x) : LenF (flatXF x) := by
  unfold flatXF
  split
  · rename_i h
    have := okX_flat h
    exact ⟨by have := this.places; omega, by have := this.named; omega, fun p hp => by
      obtain ⟨n, hn, rfl⟩ := List.mem_map.1 hp
      exact hx.names n hn⟩
  · exact ⟨by simp [zF], by simp [zF], by simp [zF]⟩

theorem iacceptsShape_ct (s : Sig) (x : Shp) (hl : LenS s) (hx : LenX x) : ACalls pk 43 [.agg (eG s), .agg (eX x)] [] (fun r o => r = .one (.bool (accX s x)) ∧ o = []) := by
  have lf := flatXF_len hx
  have hfx : okX x = true → flatXF x = flatX x := fun h => by simp [flatXF, h]
  refine acalls_of_body Tryz.func43 rfl (by kernel_rfl) rfl ?_
  refine rn rfl ?_
  refine goal_draw' [0, 1] 9 rfl ?_
  refine drn [0] (by kernel_rfl) (by kernel_rfl) rfl rfl ?_
  refine AH_one (i := 1) (by kernel_rfl) (step_call [] rfl rfl rfl rfl rfl rfl (ivalidShape_ct x hx)) (by simp) ?_
  rintro σ2 ⟨r, o', ⟨rfl, rfl⟩, hσ⟩
  obtain rfl := Option.some.inj hσ
  clear hσ
  refine drn [2] (by kernel_rfl) (by kernel_rfl) rfl rfl ?_
  refine AH_guard (i := 3) rfl rfl rfl (fun h1 => ?_) (fun h1 => ?_) <;> (try simp only [gt_iff_lt, ge_iff_le, bne_iff_ne, ne_eq, bne_eq_false_iff_eq, beq_iff_eq, beq_eq_false_iff_ne, Bool.not_eq_true', Bool.not_eq_false', decide_eq_true_eq, decide_eq_false_iff_not, List.length_map] at h1)
  · refine drn [3, 4] (by kernel_rfl) (by kernel_rfl) rfl rfl ?_
    refine AH_one (i := 5) (by kernel_rfl) (step_call [] rfl rfl rfl rfl rfl rfl (iflatOf_ct x hx)) (by simp) ?_
    rintro σ2 ⟨r, o', ⟨rfl, rfl⟩, hσ⟩
    obtain rfl := Option.some.inj hσ
    clear hσ
    refine AH_one (i := 6) (by kernel_rfl) (step_call [] rfl rfl rfl rfl rfl rfl (iaccepts_ct s (flatXF x) hl lf)) (by simp) ?_
    rintro σ2 ⟨r, o', ⟨rfl, rfl⟩, hσ⟩
    obtain rfl := Option.some.inj hσ
    clear hσ
    refine drn [7, 8] (by kernel_rfl) (by kernel_rfl) rfl rfl ?_
    refine AH_end (by kernel_rfl) ?_
    refine rn rfl ?_
    refine rn rfl (fin_is [] rfl ⟨?_, rfl⟩)
    rw [hfx h1]; simp [accX, h1]
  · refine drn [3, 4, 5, 6, 7, 8] (by kernel_rfl) (by kernel_rfl) rfl rfl ?_
    refine AH_end (by kernel_rfl) ?_
    refine rn rfl ?_
    refine rn rfl (fin_is [] rfl ⟨?_, rfl⟩)
    simp [accX, h1]

theorem iProblems_ct (s : Sig) (f : Flat) (hs : LenS s) (hf : LenF f) : ACalls pk 45 [.agg (eG s), .agg (eF f)] [] (fun r o => r = .one (.fs ((if fitQ s f then (bindQ s f).2 else []).map eB)) ∧ o = []) := by
  refine acalls_of_body Tryz.func45 rfl (by kernel_rfl) rfl ?_
  refine rn rfl ?_
  refine goal_step (step_call [] rfl rfl rfl rfl rfl rfl (fit_ct s f hs hf)) ?_
  rintro σ2 ⟨r, o', ⟨rfl, rfl⟩, hσ⟩
  obtain rfl := Option.some.inj hσ
  clear hσ
  refine rn rfl ?_
  refine goal_cond rfl (fun h => ?_) (fun h => ?_) <;> (try simp only [gt_iff_lt, ge_iff_le, bne_iff_ne, ne_eq, bne_eq_false_iff_eq, beq_iff_eq, beq_eq_false_iff_ne, Bool.not_eq_true', Bool.not_eq_false', decide_eq_true_eq, decide_eq_false_iff_not, List.length_map] at h)
  · refine rn rfl (fin_is [] rfl ⟨?_, rfl⟩)
    simp [h]
  · have hfit := fitQ_iff.1 h
    refine rn rfl ?_
    refine goal_step (step_call [] rfl rfl rfl rfl rfl rfl (ibindD_ct s f hfit.1 hf)) ?_
    rintro σ2 ⟨r, o', ⟨rfl, rfl⟩, hσ⟩
    obtain rfl := Option.some.inj hσ
    clear hσ
    refine rn rfl ?_
    refine rn rfl (fin_is [] rfl ⟨?_, rfl⟩)
    simp [h]

def SS (xs : List Str) : Prop := xs.Pairwise (fun a b => ltS a b = true)

theorem SS.nodup {xs : List Str} (h : SS xs) : xs.Nodup := List.Pairwise.imp (fun hab he => by rw [he, ltS_irrefl] at hab; cases hab) h

theorem SS.ext {a b : List Str} (ha : SS a) (hb : SS b) (h : ∀ x, x ∈ a ↔ x ∈ b) : a = b := by
  refine List.Perm.eq_of_pairwise (le := fun x y => ltS x y = true) ?_ ha hb ((List.perm_ext_iff_of_nodup ha.nodup hb.nodup).2 h)
  intro x y _ _ h1 h2
  rw [ltS_asymm h1] at h2; cases h2

theorem shapeF_ok {f : Flat} (hf : OkF f) : okX (shapeF f) = true := by
  unfold shapeF
  rw [if_pos (okFlat_iff.2 hf)]
  have h1 := hf.places
  have h2 := hf.named
  have h3 := sortL_length f.named
  simp only [okX, Bool.and_eq_true, decide_eq_true_eq]
  refine ⟨⟨okNs_iff.2 ⟨fun n hn => ?_, ?_⟩, by simp [inR]; omega⟩, by simp [namesOf]; omega⟩
  · obtain ⟨q, hq, rfl⟩ := List.mem_map.1 ((sortL_names _ _).1 hn)
    have := hf.pairs q hq
    simp only [okPair, Bool.and_eq_true] at this
    exact this.1
  · have := sortL_sorted hf.nodup
    unfold Sorted at this
    unfold namesOf
    rw [List.pairwise_map]
    exact this

theorem shape_acc {s : Sig} {f : Flat} (hs : OkS s) (hf : OkF f) : accX s (shapeF f) = accQ s f := by
  have hx := shapeF_ok hf
  have h1 : (shapeF f).count.toNat = f.places.length := by unfold shapeF; rw [if_pos (okFlat_iff.2 hf)]; rfl
  have h2 : ∀ x, x ∈ (shapeF f).names ↔ x ∈ namesOf f.named := fun x => by unfold shapeF; rw [if_pos (okFlat_iff.2 hf)]; exact sortL_names _ _
  have : accX s (shapeF f) = true ↔ accQ s f = true := by
    rw [accX_iff hs hx, acc_law hs hf, h1]
    simp only [h2]
  cases h3 : accQ s f with
  | true => exact this.2 h3
  | false =>
    cases h4 : accX s (shapeF f) with
    | false => rfl
    | true => rw [this.1 h4] at h3; cases h3

theorem sAccepts_ct (s : Sig) (f : Flat) (hs : LenS s) (hf : LenF f) : ACalls pk 40 [.agg (eG s), .agg (eF f)] [] (fun r o => r = .one (.bool (BindQ s f).2) ∧ o = []) := by
  refine acalls_of_body Tryz.func40 rfl (by kernel_rfl) rfl ?_
  refine rn rfl ?_
  refine goal_step (step_call [] rfl rfl rfl rfl rfl rfl (goodCall_ct s f hs hf)) ?_
  rintro σ2 ⟨r, o', ⟨rfl, rfl⟩, hσ⟩
  obtain rfl := Option.some.inj hσ
  clear hσ
  refine rn rfl ?_
  refine goal_guard rfl rfl rfl (fun h => ?_) (fun h => ?_) <;> (try simp only [gt_iff_lt, ge_iff_le, bne_iff_ne, ne_eq, bne_eq_false_iff_eq, beq_iff_eq, beq_eq_false_iff_ne, Bool.not_eq_true', Bool.not_eq_false', decide_eq_true_eq, decide_eq_false_iff_not, List.length_map] at h)
  · have hfit := fitQ_iff.1 h
    refine rn rfl ?_
    refine goal_step (step_call [] rfl rfl rfl rfl rfl rfl (saccepts_ct s f hfit.1 hf)) ?_
    rintro σ2 ⟨r, o', ⟨rfl, rfl⟩, hσ⟩
    obtain rfl := Option.some.inj hσ
    clear hσ
    refine rn rfl ?_
    refine rn rfl (fin_is [] rfl ⟨?_, rfl⟩)
    rw [bind_ok hfit.1 hfit.2]
  · refine rn rfl (fin_is [] rfl ⟨?_, rfl⟩)
    simp [BindQ, h]

theorem MidF.wide {f : Flat} {a b : Nat} (h : MidF f a b) (ha : a ≤ 24) (hb : b ≤ 9) : MidF f 24 9 := ⟨Nat.le_trans h.places ha, Nat.le_trans h.named hb, h.names⟩

theorem MidF.lens {f : Flat} (h : MidF f 24 9) : LenF f := ⟨by have := h.places; omega, by have := h.named; omega, fun p hp => by have := h.names p hp; omega⟩

theorem putPairDD_ct (ps : List Pair) (p : Pair) (h : ps.length ≤ 1000) : ACalls pk 111 [.one (.fs (ps.map eP)), .agg (eP p)] [] (fun r o => r = .one (.fs ((spPair ps p).map eP)) ∧ o = []) :=
  (putPair_ct ps p h).told [] (by rintro r o ⟨rfl, rfl⟩; exact ⟨_, _, rfl, congrArg (fun x => T.one (C.fs x)) (takeAll eP _ _ rfl), rfl⟩)

theorem signatureCall_ct (bs : Str) (k : Int) (hb : bs.length ≤ 2000) (hk : 0 ≤ k) (hk' : k ≤ 1073600000) :
    ACalls pk 97 [.one (.op 0 0 0)] [oR bs k] (fun r o => ∃ s f k', SmallS s ∧ MidF f 24 9 ∧ k ≤ k' ∧ k' ≤ k + 400 ∧ r = .tup [.agg (eG s), .agg (eF f)] ∧ o = [oR bs k']) := by
  refine acalls_of_body Tryz.func97 rfl (by kernel_rfl) rfl ?_
  refine rn rfl ?_
  refine goal_step (step_callE [0] rfl rfl rfl rfl rfl rfl rfl (someSignature_ct bs k hb hk (by omega))) ?_
  rintro σ2 ⟨r, o', ⟨s, k1, hs, hk1, hk2, rfl, rfl⟩, hσ⟩
  obtain rfl := Option.some.inj hσ
  clear hσ
  have hsl := hs.len
  have hsn : ∀ p ∈ s, p.name.length ≤ 9223372036854775807 := fun p hp => by have := hs.names p hp; omega
  refine rn rfl ?_
  refine goal_step (step_callE [0] rfl rfl rfl rfl rfl rfl (rfl) (pick_ct bs k1 5 hb (by omega) (by omega) (by omega))) ?_
  rintro σ2 ⟨r, o', ⟨⟨z, rfl, _, _⟩, rfl⟩, hσ⟩
  obtain rfl := Option.some.inj hσ
  clear hσ
  refine rn rfl ?_
  refine goal_cond rfl (fun h1 => ?_) (fun h1 => ?_) <;> (try simp only [gt_iff_lt, ge_iff_le, bne_iff_ne, ne_eq, bne_eq_false_iff_eq, beq_iff_eq, beq_eq_false_iff_ne, Bool.not_eq_true', Bool.not_eq_false', decide_eq_true_eq, decide_eq_false_iff_not, List.length_map] at h1)
  · refine rn rfl ?_
    refine goal_draw' [3] 5 rfl ?_
    refine drn [0, 1] (by kernel_rfl) (by kernel_rfl) rfl rfl ?_
    refine AH_one (i := 2) (by kernel_rfl) (step_callE [0] rfl rfl rfl rfl rfl rfl (rfl) (someFlat_ct bs (k1 + 1) hb (by omega) (by omega))) (by simp) ?_
    rintro σ2 ⟨r, o', ⟨f, k2, hf, hk3, hk4, rfl, rfl⟩, hσ⟩
    obtain rfl := Option.some.inj hσ
    clear hσ
    refine AH_oneDid 3 rfl (by kernel_rfl) rfl (dA_step rfl) (mdOk rfl) ?_
    refine AH_oneDid 4 rfl (by kernel_rfl) rfl (dA_step rfl) (mdOk rfl) ?_
    refine AH_end (by kernel_rfl) ?_
    refine rn rfl ?_
    exact rn rfl (fin_is [] rfl ⟨s, f, k2, hs, ⟨Nat.le_trans hf.places (by omega), Nat.le_trans hf.named (by omega), hf.names⟩, by omega, by omega, rfl, rfl⟩)
  refine rt 5 rfl ?_
  refine goal_cutR (fun σ' => σ' = ⟨[(4, .one (.op 3 0 0)), (3, .one (.op 2 0 0)), (2, .one (.op 1 0 0)), (0, .one (.op 0 0 0))], [oR bs (k1 + 1), some ⟨1, [[.fs []]], false, false, true⟩, some ⟨2, [[.fs [], .fs []]], false, false, true⟩, some ⟨1, [eG s], false, false, true⟩], []⟩) ?_ ?_
  · refine rn rfl ?_
    refine goal_cond rfl (fun h2 => ?_) (fun h2 => ?_) <;> (try simp only [gt_iff_lt, ge_iff_le, bne_iff_ne, ne_eq, bne_eq_false_iff_eq, beq_iff_eq, beq_eq_false_iff_ne, Bool.not_eq_true', Bool.not_eq_false', decide_eq_true_eq, decide_eq_false_iff_not, List.length_map] at h2)
    · refine rn rfl ?_
      refine goal_step (step_call [] rfl rfl rfl rfl rfl rfl (svalidSig_ct s (by omega) hsn)) ?_
      rintro σ2 ⟨r, o', ⟨rfl, rfl⟩, hσ⟩
      obtain rfl := Option.some.inj hσ
      clear hσ
      refine rn rfl ?_
      refine goal_cond rfl (fun h3 => ?_) (fun h3 => ?_) <;> (try simp only [gt_iff_lt, ge_iff_le, bne_iff_ne, ne_eq, bne_eq_false_iff_eq, beq_iff_eq, beq_eq_false_iff_ne, Bool.not_eq_true', Bool.not_eq_false', decide_eq_true_eq, decide_eq_false_iff_not, List.length_map] at h3)
      · have hok := okSig_iff.1 h3
        refine rn rfl ?_
        refine goal_step (step_callE [0] rfl rfl rfl rfl rfl rfl rfl (callFor_ct bs (k1 + 1) s hok hb (by omega) (by omega))) ?_
        rintro σ2 ⟨r, o', ⟨f, k3, hf, hk5, hk6, rfl, rfl⟩, hσ⟩
        obtain rfl := Option.some.inj hσ
        clear hσ
        have hf2 := hf.named
        refine rn rfl ?_
        refine goal_drawL [3, 4] [9] 10 rfl ?_
        refine drnL [0, 1, 2, 4] (by kernel_rfl) (by kernel_rfl) rfl rfl ?_
        refine AHL_one (i := 3) (by kernel_rfl) rfl (step_callE [0] rfl rfl rfl rfl rfl rfl (rfl) (aName_ct bs k3 hb (by omega) (by omega))) (by simp) ?_
        rintro σ2 ⟨r, o', ⟨⟨nm, hnm, rfl⟩, rfl⟩, hσ⟩
        obtain rfl := Option.some.inj hσ
        clear hσ
        refine AHL_one (i := 5) (by kernel_rfl) rfl (step_callE [0] rfl rfl rfl rfl rfl rfl (rfl) (aNumber_ct bs (k3 + 1) hb (by omega) (by omega))) (by simp) ?_
        rintro σ2 ⟨r, o', ⟨⟨w, _, _, rfl⟩, rfl⟩, hσ⟩
        obtain rfl := Option.some.inj hσ
        clear hσ
        refine drnL [6] (by kernel_rfl) (by kernel_rfl) rfl rfl ?_
        refine AHL_one (i := 7) (by kernel_rfl) rfl (step_call [] rfl rfl rfl rfl rfl rfl (putPairDD_ct f.named ⟨nm, w⟩ (by omega))) (by simp) ?_
        rintro σ2 ⟨r, o', ⟨rfl, rfl⟩, hσ⟩
        obtain rfl := Option.some.inj hσ
        clear hσ
        refine drnL [8] (by kernel_rfl) (by kernel_rfl) rfl rfl ?_
        refine AHL_lateDid 9 rfl (by kernel_rfl) rfl rfl (dA_step rfl) ?_
        refine AH_end (by kernel_rfl) ?_
        refine rn rfl ?_
        refine rn rfl ?_
        refine goal_draw' [3, 4] 4 rfl ?_
        refine drn [0, 1] (by kernel_rfl) (by kernel_rfl) rfl rfl ?_
        refine AH_oneDid 2 rfl (by kernel_rfl) rfl (dA_step rfl) (mdOk rfl) ?_
        refine AH_oneDid 3 rfl (by kernel_rfl) rfl (dA_step rfl) (mdOk rfl) ?_
        refine AH_end (by kernel_rfl) ?_
        refine rn rfl ?_
        have hpl : (spPair f.named ⟨nm, w⟩).length ≤ f.named.length + 1 := by rw [spPair_eq]; exact putP_length _ _ _
        refine rn rfl (cut_ret ?_)
        refine fin_is [] rfl ⟨s, ⟨f.places, spPair f.named ⟨nm, w⟩⟩, k3 + 1 + 1, hs, ⟨hf.places, Nat.le_trans hpl (by omega), fun r hr => ?_⟩, by omega, by omega, rfl, rfl⟩
        rw [spPair_eq] at hr
        rcases putP_mem hr with h | ⟨q, hq, h⟩
        · rw [h]; exact hnm
        · rw [h]; exact hf.names q hq
      · refine rn rfl ?_
        exact cut_nrm [4, 3, 2, 0] [1, 2, 3] rfl rfl
    · refine rn rfl ?_
      exact cut_nrm [4, 3, 2, 0] [1, 2, 3] rfl rfl
  rintro _ rfl
  refine rn rfl ?_
  refine goal_step (step_call [] rfl rfl rfl rfl rfl rfl (svalidSig_ct s (by omega) hsn)) ?_
  rintro σ2 ⟨r, o', ⟨rfl, rfl⟩, hσ⟩
  obtain rfl := Option.some.inj hσ
  clear hσ
  refine rn rfl ?_
  refine goal_cond rfl (fun h3 => ?_) (fun h3 => ?_) <;> (try simp only [gt_iff_lt, ge_iff_le, bne_iff_ne, ne_eq, bne_eq_false_iff_eq, beq_iff_eq, beq_eq_false_iff_ne, Bool.not_eq_true', Bool.not_eq_false', decide_eq_true_eq, decide_eq_false_iff_not, List.length_map] at h3)
  · have hok := okSig_iff.1 h3
    refine rn rfl ?_
    refine goal_draw' [3] 6 rfl ?_
    refine drn [0, 1, 2] (by kernel_rfl) (by kernel_rfl) rfl rfl ?_
    refine AH_one (i := 3) (by kernel_rfl) (step_callE [0] rfl rfl rfl rfl rfl rfl (rfl) (callFor_ct bs (k1 + 1) s hok hb (by omega) (by omega))) (by simp) ?_
    rintro σ2 ⟨r, o', ⟨f, k3, hf, hk5, hk6, rfl, rfl⟩, hσ⟩
    obtain rfl := Option.some.inj hσ
    clear hσ
    refine AH_oneDid 4 rfl (by kernel_rfl) rfl (dA_step rfl) (mdOk rfl) ?_
    refine AH_oneDid 5 rfl (by kernel_rfl) rfl (dA_step rfl) (mdOk rfl) ?_
    refine AH_end (by kernel_rfl) ?_
    refine rn rfl ?_
    exact rn rfl (fin_is [] rfl ⟨s, f, k3, hs, hf.wide (by omega) (by omega), by omega, by omega, rfl, rfl⟩)
  · refine rn rfl ?_
    refine goal_draw' [3] 5 rfl ?_
    refine drn [0, 1] (by kernel_rfl) (by kernel_rfl) rfl rfl ?_
    refine AH_one (i := 2) (by kernel_rfl) (step_callE [0] rfl rfl rfl rfl rfl rfl (rfl) (goodFlat_ct bs (k1 + 1) hb (by omega) (by omega))) (by simp) ?_
    rintro σ2 ⟨r, o', ⟨f, k3, hf, hk5, hk6, rfl, rfl⟩, hσ⟩
    obtain rfl := Option.some.inj hσ
    clear hσ
    refine AH_oneDid 3 rfl (by kernel_rfl) rfl (dA_step rfl) (mdOk rfl) ?_
    refine AH_oneDid 4 rfl (by kernel_rfl) rfl (dA_step rfl) (mdOk rfl) ?_
    refine AH_end (by kernel_rfl) ?_
    refine rn rfl ?_
    refine rn rfl (fin_is [] rfl ⟨s, f, k3, hs, ⟨Nat.le_trans hf.places (by omega), Nat.le_trans hf.named (by omega), hf.names⟩, by omega, by omega, ?_, rfl⟩)
    rw [takeAll eI _ _ rfl, takeAll eP _ _ rfl]; rfl

theorem drawAccepts_ct (bs : Str) : ACalls pk 39 [.one (.fs (bs.map rowB))] [] (fun r o => ∃ s f, SmallS s ∧ MidF f 24 9 ∧ r = .tup [.agg (eG s), .agg (eF f)] ∧ o = []) := by
  have hb : (bs.take 2000).length ≤ 2000 := by simp; omega
  refine acalls_of_body Tryz.func39 rfl (by kernel_rfl) rfl ?_
  refine rn rfl ?_
  refine goal_step (step_call [] rfl rfl rfl rfl rfl rfl (newReader_ct bs)) ?_
  rintro σ2 ⟨r, o', ⟨rfl, rfl⟩, hσ⟩
  obtain rfl := Option.some.inj hσ
  clear hσ
  refine rn rfl ?_
  refine goal_step (step_callE [2] rfl rfl rfl rfl rfl rfl rfl (signatureCall_ct (bs.take 2000) 0 hb (by omega) (by omega))) ?_
  rintro σ2 ⟨r, o', ⟨s, f, k1, hs, hf, hk1, hk2, rfl, rfl⟩, hσ⟩
  obtain rfl := Option.some.inj hσ
  clear hσ
  exact rn rfl (fin_is [] rfl ⟨s, f, hs, hf, rfl, rfl⟩)

theorem fnAccepts_ct (bs : Str) (hl : bs.length ≤ 9223372036854775807) : ACalls pk 7 [.one (.fs (bs.map rowB))] [] (fun r o => r = .one (.bool true) ∧ o = []) := by
  refine acalls_of_body Tryz.func7 rfl (by kernel_rfl) rfl ?_
  refine rn rfl ?_
  refine goal_cond rfl (fun h => ?_) (fun h => ?_) <;> (try simp only [gt_iff_lt, ge_iff_le, bne_iff_ne, ne_eq, bne_eq_false_iff_eq, beq_iff_eq, beq_eq_false_iff_ne, Bool.not_eq_true', Bool.not_eq_false', decide_eq_true_eq, decide_eq_false_iff_not, List.length_map] at h)
  · exact rn rfl (fin_is [] rfl ⟨rfl, rfl⟩)
  · refine rn rfl ?_
    refine goal_step (step_call [] rfl rfl rfl rfl rfl rfl (drawAccepts_ct bs)) ?_
    rintro σ2 ⟨r, o', ⟨s, f, hs, hf, rfl, rfl⟩, hσ⟩
    obtain rfl := Option.some.inj hσ
    clear hσ
    have ls := hs.lens
    have lf := hf.lens
    have hsl := hs.len
    have hf1 := hf.places
    have hf2 := hf.named
    have hA := iaccepts_ct s f ls lf
    have hS := sAccepts_ct s f ls lf
    have hB := iBindD_ct s f ls lf
    have hX := fun (hx : LenX (shapeF f)) => iacceptsShape_ct s (shapeF f) ls hx
    have hP := iProblems_ct s f ls lf
    have hkey : okSig s = true → okFlat f = true → accX s (shapeF f) = (BindQ s f).2 ∧ (BindQ s f).2 = decide ((bindQ s f).2 = []) := fun h1 h2 => by
      have o1 := okSig_iff.1 h1
      have o2 := okFlat_iff.1 h2
      exact ⟨by rw [shape_acc o1 o2, bind_ok o1 o2], by rw [bind_ok o1 o2]; rfl⟩
    generalize (BindQ s f).2 = b at *
    refine rn rfl ?_
    refine goal_step (step_call [] rfl rfl rfl rfl rfl rfl (hA)) ?_
    rintro σ2 ⟨r, o', ⟨rfl, rfl⟩, hσ⟩
    obtain rfl := Option.some.inj hσ
    clear hσ
    refine rn rfl ?_
    refine rn rfl ?_
    refine goal_step (step_call [] rfl rfl rfl rfl rfl rfl (hS)) ?_
    rintro σ2 ⟨r, o', ⟨rfl, rfl⟩, hσ⟩
    obtain rfl := Option.some.inj hσ
    clear hσ
    refine rn rfl ?_
    refine goal_guard rfl rfl rfl (fun h1 => by simp at h1) (fun _ => ?_)
    refine rn rfl ?_
    refine goal_step (step_call [] rfl rfl rfl rfl rfl rfl (ivalidSig_ct s (by omega) (fun p hp => by have := hs.names p hp; omega))) ?_
    rintro σ2 ⟨r, o', ⟨rfl, rfl⟩, hσ⟩
    obtain rfl := Option.some.inj hσ
    clear hσ
    refine rn rfl ?_
    refine goal_guard rfl rfl rfl (fun h1 => ?_) (fun h1 => ?_) <;> (try simp only [gt_iff_lt, ge_iff_le, bne_iff_ne, ne_eq, bne_eq_false_iff_eq, beq_iff_eq, beq_eq_false_iff_ne, Bool.not_eq_true', Bool.not_eq_false', decide_eq_true_eq, decide_eq_false_iff_not, List.length_map] at h1)
    · refine rn rfl ?_
      refine goal_step (step_call [] rfl rfl rfl rfl rfl rfl (hS)) ?_
      rintro σ2 ⟨r, o', ⟨rfl, rfl⟩, hσ⟩
      obtain rfl := Option.some.inj hσ
      clear hσ
      refine rn rfl ?_
      refine rn rfl (fin_is [] rfl ⟨?_, rfl⟩)
      simp
    refine rn rfl ?_
    refine goal_step (step_call [] rfl rfl rfl rfl rfl rfl (ivalidFlat_ct f (by omega) (by omega) lf.names)) ?_
    rintro σ2 ⟨r, o', ⟨rfl, rfl⟩, hσ⟩
    obtain rfl := Option.some.inj hσ
    clear hσ
    refine rn rfl ?_
    refine goal_cond rfl (fun h2 => ?_) (fun h2 => ?_) <;> (try simp only [gt_iff_lt, ge_iff_le, bne_iff_ne, ne_eq, bne_eq_false_iff_eq, beq_iff_eq, beq_eq_false_iff_ne, Bool.not_eq_true', Bool.not_eq_false', decide_eq_true_eq, decide_eq_false_iff_not, List.length_map] at h2)
    · refine rn rfl ?_
      refine goal_step (step_call [] rfl rfl rfl rfl rfl rfl (hS)) ?_
      rintro σ2 ⟨r, o', ⟨rfl, rfl⟩, hσ⟩
      obtain rfl := Option.some.inj hσ
      clear hσ
      refine rn rfl ?_
      refine rn rfl (fin_is [] rfl ⟨?_, rfl⟩)
      simp
    obtain ⟨hk1, hk2⟩ := hkey h1 h2
    have hxl : LenX (shapeF f) := ⟨by unfold shapeF; rw [if_pos h2]; simp [namesOf, sortL_length]; omega, fun n hn => by
      unfold shapeF at hn
      rw [if_pos h2] at hn
      obtain ⟨q, hq, rfl⟩ := List.mem_map.1 ((sortL_names _ _).1 hn)
      have := hf.names q hq; omega⟩
    have hX' := hX hxl
    rw [hk1] at hX'
    have hsh := ishapeD_ct f (by omega) (by omega) lf.names
    rw [if_pos (fitQ_iff.2 ⟨okSig_iff.1 h1, okFlat_iff.1 h2⟩)] at hP
    generalize shapeF f = x at *
    generalize (bindQ s f).2 = W at *
    refine rn rfl ?_
    refine goal_step (step_call [] rfl rfl rfl rfl rfl rfl (hB)) ?_
    rintro σ2 ⟨r, o', ⟨rfl, rfl⟩, hσ⟩
    obtain rfl := Option.some.inj hσ
    clear hσ
    refine rn rfl ?_
    refine rn rfl ?_
    refine goal_draw' [0, 1] 21 rfl ?_
    refine drn [0, 1, 2, 3] (by kernel_rfl) (by kernel_rfl) rfl rfl ?_
    refine AH_guard (i := 4) rfl rfl rfl (fun h3 => ?_) (fun h3 => ?_) <;> (try simp only [gt_iff_lt, ge_iff_le, bne_iff_ne, ne_eq, bne_eq_false_iff_eq, beq_iff_eq, beq_eq_false_iff_ne, Bool.not_eq_true', Bool.not_eq_false', decide_eq_true_eq, decide_eq_false_iff_not, List.length_map] at h3)
    · refine drn [4, 5, 6] (by kernel_rfl) (by kernel_rfl) rfl rfl ?_
      refine AH_one (i := 7) (by kernel_rfl) (step_call [] rfl rfl rfl rfl rfl rfl (hsh)) (by simp) ?_
      rintro σ2 ⟨r, o', ⟨rfl, rfl⟩, hσ⟩
      obtain rfl := Option.some.inj hσ
      clear hσ
      refine AH_one (i := 8) (by kernel_rfl) (step_call [] rfl rfl rfl rfl rfl rfl (hX')) (by simp) ?_
      rintro σ2 ⟨r, o', ⟨rfl, rfl⟩, hσ⟩
      obtain rfl := Option.some.inj hσ
      clear hσ
      refine drn [9, 10, 11] (by kernel_rfl) (by kernel_rfl) rfl rfl ?_
      refine AH_guard (i := 12) rfl rfl rfl (fun h4 => ?_) (fun h4 => ?_) <;> (try simp only [gt_iff_lt, ge_iff_le, bne_iff_ne, ne_eq, bne_eq_false_iff_eq, beq_iff_eq, beq_eq_false_iff_ne, Bool.not_eq_true', Bool.not_eq_false', decide_eq_true_eq, decide_eq_false_iff_not, List.length_map] at h4)
      · refine drn [12, 13, 14] (by kernel_rfl) (by kernel_rfl) rfl rfl ?_
        refine AH_one (i := 15) (by kernel_rfl) (step_call [] rfl rfl rfl rfl rfl rfl (hP)) (by simp) ?_
        rintro σ2 ⟨r, o', ⟨rfl, rfl⟩, hσ⟩
        obtain rfl := Option.some.inj hσ
        clear hσ
        refine drn [16, 17, 18, 19, 20] (by kernel_rfl) (by kernel_rfl) rfl rfl ?_
        refine AH_end (by kernel_rfl) ?_
        refine rn rfl ?_
        refine rn rfl (fin_is [] rfl ⟨?_, rfl⟩)
        rw [hk2]
        cases W with
        | nil => simp
        | cons a l => simp; omega
      · exact absurd trivial h4
    · exact absurd trivial h3

end Go.Proofs.YtekdhmddibfidaaGreat
