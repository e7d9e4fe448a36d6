/- Part 4 of the proof: an abstract machine over the model; contracts of the functions that the law reaches. -/
import Derived.Test.YtekdhmddibfidaaGreatKExt3
set_option linter.unusedVariables false
set_option linter.unusedSimpArgs false
namespace Go.Proofs.YtekdhmddibfidaaGreat
open Go
set_option maxRecDepth 100000
set_option maxHeartbeats 1000000

def rPa (p : Part) : T := .agg [.os 0 0 p.sig.length p.sig.length, .os 1 0 p.flat.places.length p.flat.places.length, .os 2 0 p.flat.named.length p.flat.named.length]

def oPa (p : Part) : List (Option AObj) := [ownQ p.sig, ownI p.flat.places, ownP p.flat.named]

theorem asPa (p : Part) : T.agg [C.fs (List.take p.sig.length (List.drop 0 (p.sig.map eQ))), C.fs (List.take p.flat.places.length (List.drop 0 (p.flat.places.map eI))), C.fs (List.take p.flat.named.length (List.drop 0 (p.flat.named.map eP)))] = T.agg (ePa p) := by
  rw [takeAll eQ _ _ rfl, takeAll eI _ _ rfl, takeAll eP _ _ rfl]; rfl

theorem asFl (f : Flat) : T.agg [C.fs (List.take f.places.length (List.drop 0 (f.places.map eI))), C.fs (List.take f.named.length (List.drop 0 (f.named.map eP)))] = T.agg (eF f) := by
  rw [takeAll eI _ _ rfl, takeAll eP _ _ rfl]; rfl

theorem asG (s : Sig) : T.agg [C.fs (List.take s.length (List.drop 0 (s.map eQ)))] = T.agg (eG s) := by
  rw [takeAll eQ _ _ rfl]; rfl

theorem asGs (s : Sig) : T.one (C.fs (List.take s.length (List.drop 0 (s.map eQ)))) = T.one (.fs (s.map eQ)) := by rw [takeAll eQ _ _ rfl]

theorem oG_noFz' (s : Sig) : noFzO [ownQ s] = true := by simp [ownQ, noFzO, noFzR_map eQ (fun _ => rfl)]

theorem goodSignature_ct (bs : Str) (k : Int) (hb : bs.length ≤ 2000) (hk : 0 ≤ k) (hk' : k ≤ 1073730000) :
    ACalls pk 195 [.one (.op 0 0 0)] [oR bs k] (fun r o => ∃ s k', OkS s ∧ k ≤ k' ∧ k' ≤ k + 100 ∧ r = .agg [.os 1 0 s.length s.length] ∧ o = [oR bs k', ownQ s]) := by
  refine acalls_of_body Tryz.func195 rfl (by kernel_rfl) rfl ?_
  refine rn rfl ?_
  refine goal_step (step_callE [0] rfl rfl rfl rfl rfl rfl (rfl) (pick_ct bs k 2 hb (by omega) (by omega) (by omega))) ?_
  rintro σ2 ⟨r, o', ⟨⟨z, rfl, _, _⟩, rfl⟩, hσ⟩
  obtain rfl := Option.some.inj hσ
  clear hσ
  refine rn rfl ?_
  refine goal_cutR (fun σ' => ∃ kd : Int, 0 ≤ kd ∧ kd ≤ 4 ∧ σ' = ⟨[(4, .one (.int .i64 kd)), (3, .one (.os 2 0 0 0)), (2, .one (.op 1 0 0)), (0, .one (.op 0 0 0))], [oR bs (k + 1), some ⟨1, [[.fs []]], false, false, true⟩, ownQ []], []⟩) ?_ ?_
  · refine goal_cond rfl (fun h0 => ?_) (fun h0 => ?_) <;> (try simp only [gt_iff_lt, ge_iff_le, bne_iff_ne, ne_eq, bne_eq_false_iff_eq, beq_iff_eq, beq_eq_false_iff_ne, Bool.not_eq_true', Bool.not_eq_false', decide_eq_true_eq, decide_eq_false_iff_not, List.length_map] at h0)
    · refine rn rfl ?_
      exact cut_nrm [4, 3, 2, 0] [1, 2] rfl ⟨1, by omega, by omega, rfl⟩
    · refine rn rfl ?_
      exact cut_nrm [4, 3, 2, 0] [1, 2] rfl ⟨0, by omega, by omega, rfl⟩
  rintro _ ⟨kd, hd0, hd4, rfl⟩
  refine rn rfl ?_
  refine goal_step (step_callE [0] rfl rfl rfl rfl rfl rfl (rfl) (one_ct bs (k + 1) [3, 4, 2, 5, 1, 0, 6, 8] hb (by omega) (by omega) (by decide) (by decide))) ?_
  rintro σ2 ⟨r, o', ⟨⟨v, hv, rfl⟩, rfl⟩, hσ⟩
  obtain rfl := Option.some.inj hσ
  clear hσ
  refine rn rfl ?_
  have hv8 : 0 ≤ v ∧ v ≤ 8 := by
    simp only [List.mem_cons, List.not_mem_nil, or_false] at hv
    omega
  refine goal_loop_keep (fun m σ => ∃ (q kd k1 : Int) (l : Nat) (out : Sig), m = q.toNat ∧ 0 ≤ q ∧ q ≤ 8 ∧ 0 ≤ kd ∧ kd ≤ 4 ∧ l = out.length ∧ OkS out ∧ k ≤ k1 ∧ k1 + 6 * q ≤ k + 90 ∧
      σ = ⟨[(5, .one (.int .i64 q)), (4, .one (.int .i64 kd)), (3, .one (.os 2 0 l l)), (2, .one (.op 1 0 0)), (0, .one (.op 0 0 0))], [oR bs k1, some ⟨1, [[.fs []]], false, false, true⟩, ownQ out], []⟩) v.toNat [5, 4, 3, 2, 0] [1, 2] rfl
    ⟨v, kd, k + 1 + 1, 0, [], rfl, hv8.1, hv8.2, hd0, hd4, rfl, okSig_iff.1 rfl, by omega, by omega, rfl⟩ ?_
  rintro m σ ⟨q, kd, k1, l, out, rfl, hq0, hq8, hd0, hd4, rfl, hok, hk1, hk2, rfl⟩
  have hol := hok.len
  refine rn rfl ?_
  refine goal_cond rfl (fun hc => ?_) (fun hc => ?_) <;> (try simp only [gt_iff_lt, ge_iff_le, bne_iff_ne, ne_eq, bne_eq_false_iff_eq, beq_iff_eq, beq_eq_false_iff_ne, Bool.not_eq_true', Bool.not_eq_false', decide_eq_true_eq, decide_eq_false_iff_not, List.length_map] at hc)
  · refine rt 8 rfl ?_
    refine goal_cutR (fun σ' => ∃ kd' k2 : Int, 0 ≤ kd' ∧ kd' ≤ 4 ∧ k1 ≤ k2 ∧ k2 ≤ k1 + 2 ∧ σ' = ⟨[(5, .one (.int .i64 q)), (4, .one (.int .i64 kd')), (3, .one (.os 2 0 out.length out.length)), (2, .one (.op 1 0 0)), (0, .one (.op 0 0 0))], [oR bs k2, some ⟨1, [[.fs []]], false, false, true⟩, ownQ out], []⟩) ?_ ?_
    · refine rn rfl ?_
      refine goal_step (step_callE [0] rfl rfl rfl rfl rfl rfl (rfl) (pick_ct bs k1 3 hb (by omega) (by omega) (by omega))) ?_
      rintro σ2 ⟨r, o', ⟨⟨z1, rfl, _, _⟩, rfl⟩, hσ⟩
      obtain rfl := Option.some.inj hσ
      clear hσ
      refine rn rfl ?_
      refine goal_guard rfl rfl rfl (fun h1 => ?_) (fun h1 => ?_) <;> (try simp only [gt_iff_lt, ge_iff_le, bne_iff_ne, ne_eq, bne_eq_false_iff_eq, beq_iff_eq, beq_eq_false_iff_ne, Bool.not_eq_true', Bool.not_eq_false', decide_eq_true_eq, decide_eq_false_iff_not, List.length_map] at h1)
      · refine rn rfl ?_
        refine goal_cond rfl (fun h2 => ?_) (fun h2 => ?_) <;> (try simp only [gt_iff_lt, ge_iff_le, bne_iff_ne, ne_eq, bne_eq_false_iff_eq, beq_iff_eq, beq_eq_false_iff_ne, Bool.not_eq_true', Bool.not_eq_false', decide_eq_true_eq, decide_eq_false_iff_not, List.length_map] at h2)
        · have hw : IntKind.i64.wrap (4 - kd) = 4 - kd := wrap64 (by omega) (by omega)
          have hw1 : IntKind.i64.wrap (kd + 1) = kd + 1 := wrap64 (by omega) (by omega)
          refine rn rfl ?_
          rw [hw, hw1]
          refine goal_step (step_callE [0] rfl rfl rfl rfl rfl rfl (rfl) (pick_ct bs (k1 + 1) (4 - kd) hb (by omega) (by omega) (by omega))) ?_
          rintro σ2 ⟨r, o', ⟨⟨y, rfl, hy, _⟩, rfl⟩, hσ⟩
          obtain rfl := Option.some.inj hσ
          clear hσ
          refine rn rfl ?_
          have hy' := hy (by omega)
          have e : IntKind.i64.wrap (kd + 1 + y) = kd + 1 + y := wrap64 (by omega) (by omega)
          rw [e]
          exact cut_nrm [5, 4, 3, 2, 0] [1, 2] rfl ⟨kd + 1 + y, k1 + 1 + 1, by omega, by omega, by omega, by omega, rfl⟩
        · refine rn rfl ?_
          exact cut_nrm [5, 4, 3, 2, 0] [1, 2] rfl ⟨kd, k1 + 1, hd0, hd4, by omega, by omega, rfl⟩
      · refine rn rfl ?_
        exact cut_nrm [5, 4, 3, 2, 0] [1, 2] rfl ⟨kd, k1 + 1, hd0, hd4, by omega, by omega, rfl⟩
    clear hd0 hd4
    rintro _ ⟨kd', k2, hd0, hd4, hk3, hk4, rfl⟩
    refine rn rfl ?_
    refine goal_step (step_callE [0] rfl rfl rfl rfl rfl rfl rfl (of_ct bs k2 [[97], [98], [99], [100], [120], [121], [112], [113], [97, 114, 103, 115], [107, 119]] hb (by omega) (by omega) (by decide) (by decide))) ?_
    rintro σ2 ⟨r, o', ⟨⟨nm, hnm, rfl⟩, rfl⟩, hσ⟩
    obtain rfl := Option.some.inj hσ
    clear hσ
    have hnl : nm.length ≤ 7 := by
      simp only [List.mem_cons, List.not_mem_nil, or_false] at hnm
      rcases hnm with h | h | h | h | h | h | h | h | h | h <;> (rw [h]; decide)
    refine rt 11 rfl ?_
    refine goal_cutR (fun σ' => ∃ (p : Param) (k3 : Int), p.name.length ≤ 7 ∧ k2 ≤ k3 ∧ k3 ≤ k2 + 3 ∧ σ' = ⟨[(6, .one (.op 3 0 0)), (5, .one (.int .i64 q)), (4, .one (.int .i64 kd')), (3, .one (.os 2 0 out.length out.length)), (2, .one (.op 1 0 0)), (0, .one (.op 0 0 0))], [oR bs k3, some ⟨1, [[.fs []]], false, false, true⟩, ownQ out, some ⟨4, [eQ p], false, false, true⟩], []⟩) ?_ ?_
    · refine rn rfl ?_
      refine goal_step (step_callE [0] rfl rfl rfl rfl rfl rfl (rfl) (pick_ct bs (k2 + 1) 3 hb (by omega) (by omega) (by omega))) ?_
      rintro σ2 ⟨r, o', ⟨⟨z2, rfl, _, _⟩, rfl⟩, hσ⟩
      obtain rfl := Option.some.inj hσ
      clear hσ
      refine rn rfl ?_
      refine goal_guard rfl rfl rfl (fun h1 => ?_) (fun h1 => ?_) <;> (try simp only [gt_iff_lt, ge_iff_le, bne_iff_ne, ne_eq, bne_eq_false_iff_eq, beq_iff_eq, beq_eq_false_iff_ne, Bool.not_eq_true', Bool.not_eq_false', decide_eq_true_eq, decide_eq_false_iff_not, List.length_map] at h1)
      · refine rn rfl ?_
        refine goal_step (step_call [] rfl rfl rfl rfl rfl rfl (ssingle_ct ⟨nm, kd', false, 0⟩)) ?_
        rintro σ2 ⟨r, o', ⟨rfl, rfl⟩, hσ⟩
        obtain rfl := Option.some.inj hσ
        clear hσ
        refine rn rfl ?_
        refine goal_cond rfl (fun h2 => ?_) (fun h2 => ?_) <;> (try simp only [gt_iff_lt, ge_iff_le, bne_iff_ne, ne_eq, bne_eq_false_iff_eq, beq_iff_eq, beq_eq_false_iff_ne, Bool.not_eq_true', Bool.not_eq_false', decide_eq_true_eq, decide_eq_false_iff_not, List.length_map] at h2)
        · refine rn rfl ?_
          refine goal_step (step_callE [0] rfl rfl rfl rfl rfl rfl (rfl) (aNumber_ct bs (k2 + 1 + 1) hb (by omega) (by omega))) ?_
          rintro σ2 ⟨r, o', ⟨⟨w, _, _, rfl⟩, rfl⟩, hσ⟩
          obtain rfl := Option.some.inj hσ
          clear hσ
          refine rn rfl ?_
          refine rn rfl ?_
          exact cut_nrm [6, 5, 4, 3, 2, 0] [1, 2, 4] rfl ⟨⟨nm, kd', true, w⟩, k2 + 1 + 1 + 1, hnl, by omega, by omega, rfl⟩
        · refine rn rfl ?_
          exact cut_nrm [6, 5, 4, 3, 2, 0] [1, 2, 4] rfl ⟨⟨nm, kd', false, 0⟩, k2 + 1 + 1, hnl, by omega, by omega, rfl⟩
      · refine rn rfl ?_
        exact cut_nrm [6, 5, 4, 3, 2, 0] [1, 2, 4] rfl ⟨⟨nm, kd', false, 0⟩, k2 + 1 + 1, hnl, by omega, by omega, rfl⟩
    rintro _ ⟨p, k3, hpn, hk5, hk6, rfl⟩
    refine rt 14 rfl ?_
    refine goal_cutR (fun σ' => ∃ kd2 : Int, 0 ≤ kd2 ∧ kd2 ≤ 4 ∧ σ' = ⟨[(6, .one (.op 3 0 0)), (5, .one (.int .i64 q)), (4, .one (.int .i64 kd2)), (3, .one (.os 2 0 out.length out.length)), (2, .one (.op 1 0 0)), (0, .one (.op 0 0 0))], [oR bs k3, some ⟨1, [[.fs []]], false, false, true⟩, ownQ out, some ⟨4, [eQ p], false, false, true⟩], []⟩) ?_ ?_
    · refine rn rfl ?_
      refine goal_step (step_call [] rfl rfl rfl rfl rfl rfl (ssingle_ct p)) ?_
      rintro σ2 ⟨r, o', ⟨rfl, rfl⟩, hσ⟩
      obtain rfl := Option.some.inj hσ
      clear hσ
      refine rn rfl ?_
      refine goal_cond rfl (fun h1 => ?_) (fun h1 => ?_) <;> (try simp only [gt_iff_lt, ge_iff_le, bne_iff_ne, ne_eq, bne_eq_false_iff_eq, beq_iff_eq, beq_eq_false_iff_ne, Bool.not_eq_true', Bool.not_eq_false', decide_eq_true_eq, decide_eq_false_iff_not, List.length_map] at h1)
      · have hw : IntKind.i64.wrap (kd' + 1) = kd' + 1 := wrap64 (by omega) (by omega)
        refine rn rfl ?_
        rw [hw]
        refine goal_did rfl rfl (dA_min rfl rfl rfl rfl) ?_
        refine rn rfl ?_
        exact cut_nrm [6, 5, 4, 3, 2, 0] [1, 2, 3] rfl ⟨if 4 < kd' + 1 then 4 else kd' + 1, by split <;> omega, by split <;> omega, rfl⟩
      · refine rn rfl ?_
        exact cut_nrm [6, 5, 4, 3, 2, 0] [1, 2, 3] rfl ⟨kd', hd0, hd4, rfl⟩
    rintro _ ⟨kd2, hd5, hd6, rfl⟩
    refine rt1 16 rfl ?_
    refine goal_cutR (fun σ' => σ' = ⟨[(7, .one (.os 3 0 (out.length + 1) (out.length + 1))), (5, .one (.int .i64 q)), (4, .one (.int .i64 kd2)), (3, .one (.os 2 0 out.length out.length)), (2, .one (.op 1 0 0)), (0, .one (.op 0 0 0))], [oR bs k3, some ⟨1, [[.fs []]], false, false, true⟩, ownQ out, ownQ (out ++ [p])], []⟩) ?_ ?_
    · refine goal_draw' [2, 3] 6 rfl ?_
      refine drn [0, 2] (by kernel_rfl) (by kernel_rfl) rfl rfl ?_
      refine AH_two (i := 1) (j := 3) (by kernel_rfl) (step_lendE [] rfl rfl rfl rfl rfl rfl rfl (cons_eq (asGs out) rfl) (copyParams_ct out (by omega)) (by rintro r o ⟨rfl, rfl⟩; exact ⟨rfl, oG_noFz' out⟩)) (by simp) (step_did rfl rfl (dA_step rfl)) (mdOk rfl) ?_ ?_
      · rintro σ2 ⟨r, o', ⟨rfl, rfl⟩, hσ⟩
        obtain rfl := Option.some.inj hσ
        clear hσ
        refine AH_oneDid 3 rfl (by kernel_rfl) rfl (dA_step rfl) (mdOk rfl) ?_
        refine AH_oneDid 4 rfl (by kernel_rfl) rfl (dA_append (old := (out).map eQ) (rows := ([p] : List Param).map eQ) (((out) ++ ([p] : List Param)).map eQ) (out.length + 1) true (Dst.own rfl rfl rfl rfl rfl (by first | (simp; done) | (simp; omega)) (whole (by first | (simp; done) | (simp; omega)))) (Src.os rfl rfl (Nat.le_refl 1) rfl) rfl rfl rfl rfl rfl rfl rfl rfl (rows_len eQ_len _) (rows_len eQ_len _) (by (try simp only [List.length_map, List.length_append, List.length_cons, List.length_nil, List.length_take, List.length_drop]); show _ * 40 ≤ _; omega) (by first | (simp; done) | (simp; omega)) (by simp) (by first | (simp; done) | (simp; omega)) (fun _ => noOwnR_map _ eQ_noOwn _)) (mdOk rfl) ?_
        refine drn [5] (by kernel_rfl) (by kernel_rfl) rfl rfl ?_
        refine AH_end (by kernel_rfl) ?_
        refine rn rfl ?_
        exact cut_nrm [7, 5, 4, 3, 2, 0] [1, 2, 6] rfl rfl
      · rintro _ rfl
        refine AH_one (i := 1) (by kernel_rfl) (step_lendE [] rfl rfl rfl rfl rfl rfl rfl (cons_eq (asGs out) rfl) (copyParams_ct out (by omega)) (by rintro r o ⟨rfl, rfl⟩; exact ⟨rfl, oG_noFz' out⟩)) (by simp) ?_
        rintro σ2 ⟨r, o', ⟨rfl, rfl⟩, hσ⟩
        obtain rfl := Option.some.inj hσ
        clear hσ
        refine AH_oneDid 4 rfl (by kernel_rfl) rfl (dA_append (old := (out).map eQ) (rows := ([p] : List Param).map eQ) (((out) ++ ([p] : List Param)).map eQ) (out.length + 1) true (Dst.own rfl rfl rfl rfl rfl (by first | (simp; done) | (simp; omega)) (whole (by first | (simp; done) | (simp; omega)))) (Src.os rfl rfl (Nat.le_refl 1) rfl) rfl rfl rfl rfl rfl rfl rfl rfl (rows_len eQ_len _) (rows_len eQ_len _) (by (try simp only [List.length_map, List.length_append, List.length_cons, List.length_nil, List.length_take, List.length_drop]); show _ * 40 ≤ _; omega) (by first | (simp; done) | (simp; omega)) (by simp) (by first | (simp; done) | (simp; omega)) (fun _ => noOwnR_map _ eQ_noOwn _)) (mdOk rfl) ?_
        refine drn [5] (by kernel_rfl) (by kernel_rfl) rfl rfl ?_
        refine AH_end (by kernel_rfl) ?_
        refine rn rfl ?_
        exact cut_nrm [7, 5, 4, 3, 2, 0] [1, 2, 6] rfl rfl
    rintro _ rfl
    have hln : ∀ r ∈ out ++ [p], r.name.length ≤ 9223372036854775807 := by
      intro r hr
      rcases List.mem_append.1 hr with hr | hr
      · have := hok.nameLen hr; omega
      · simp only [List.mem_singleton] at hr; rw [hr]; omega
    refine rn rfl ?_
    refine goal_step (step_lendE [] rfl rfl rfl rfl rfl rfl rfl (cons_eq (congrArg (fun x => T.one (C.fs x)) (takeAll eQ (out ++ [p]) (out.length + 1) (by simp))) rfl) (svalidParams_ct (out ++ [p]) (by simp; omega) hln) (by rintro r o ⟨rfl, rfl⟩; exact ⟨rfl, rfl⟩)) ?_
    rintro σ2 ⟨r, o', ⟨rfl, rfl⟩, hσ⟩
    obtain rfl := Option.some.inj hσ
    clear hσ
    refine rn rfl ?_
    have hw : IntKind.i64.wrap (q - 1) = q - 1 := wrap64 (by omega) (by omega)
    refine goal_cond rfl (fun h9 => ?_) (fun h9 => ?_) <;> (try simp only [gt_iff_lt, ge_iff_le, bne_iff_ne, ne_eq, bne_eq_false_iff_eq, beq_iff_eq, beq_eq_false_iff_ne, Bool.not_eq_true', Bool.not_eq_false', decide_eq_true_eq, decide_eq_false_iff_not, List.length_map] at h9)
    · refine rn rfl ?_
      rw [hw]
      refine round_keep (q - 1).toNat [5, 4, 3, 2, 0] [1, 3] (by omega) rfl ⟨q - 1, kd2, k3, _, out ++ [p], rfl, by omega, by omega, hd5, hd6, (by simp : out.length + 1 = _), okSig_iff.1 h9, by omega, by omega, rfl⟩
    · refine rn rfl ?_
      rw [hw]
      refine round_keep (q - 1).toNat [5, 4, 3, 2, 0] [1, 2] (by omega) rfl ⟨q - 1, kd2, k3, _, out, rfl, by omega, by omega, hd5, hd6, rfl, hok, by omega, by omega, rfl⟩
  · refine rn rfl (round_ext ?_)
    refine rn rfl (fin_is [2] rfl ⟨out, k1, hok, hk1, by omega, rfl, rfl⟩)

structure SmallS (s : Sig) : Prop where
  len : s.length ≤ 8
  names : ∀ p ∈ s, p.name.length ≤ 7

theorem small_set {s : Sig} {j : Nat} {p : Param} (h : SmallS s) (hp : p.name.length ≤ 7) : SmallS (s.set j p) := by
  refine ⟨by simp [h.len], fun q hq => ?_⟩
  rcases List.mem_or_eq_of_mem_set hq with hq | hq
  · exact h.names q hq
  · rw [hq]; exact hp

theorem OkS.small {s : Sig} (h : OkS s) : SmallS s := ⟨h.len, fun p hp => by have := h.nameLen hp; omega⟩

theorem someSignature_ct (bs : Str) (k : Int) (hb : bs.length ≤ 2000) (hk : 0 ≤ k) (hk' : k ≤ 1073720000) :
    ACalls pk 147 [.one (.op 0 0 0)] [oR bs k] (fun r o => ∃ s k', SmallS s ∧ k ≤ k' ∧ k' ≤ k + 110 ∧ r = .agg (eG s) ∧ o = [oR bs k']) := by
  refine acalls_of_body Tryz.func147 rfl (by kernel_rfl) rfl ?_
  refine rn rfl ?_
  refine goal_step (step_callE [0] rfl rfl rfl rfl rfl rfl rfl (goodSignature_ct bs k hb hk (by omega))) ?_
  rintro σ2 ⟨r, o', ⟨s, k1, hs, hk1, hk2, rfl, rfl⟩, hσ⟩
  obtain rfl := Option.some.inj hσ
  clear hσ
  have hsm := hs.small
  have hsl := hsm.len
  refine rt 2 rfl ?_
  refine goal_cutR (fun σ' => ∃ (t : Sig) (k2 : Int), SmallS t ∧ k1 ≤ k2 ∧ k2 ≤ k1 + 10 ∧ t.length = s.length ∧ σ' = ⟨[(3, .one (.op 2 0 0)), (2, .one (.op 1 0 0))], [oR bs k2, some ⟨1, [[.fs []]], false, false, true⟩, some ⟨1, [[.os 3 0 s.length s.length]], false, false, true⟩, ownQ t], []⟩) ?_ ?_
  · refine rn rfl ?_
    refine goal_cond rfl (fun h0 => ?_) (fun h0 => ?_) <;> (try simp only [gt_iff_lt, ge_iff_le, bne_iff_ne, ne_eq, bne_eq_false_iff_eq, beq_iff_eq, beq_eq_false_iff_ne, Bool.not_eq_true', Bool.not_eq_false', decide_eq_true_eq, decide_eq_false_iff_not, List.length_map] at h0)
    · refine rn rfl ?_
      refine goal_step (step_callE [0] rfl rfl rfl rfl rfl rfl (rfl) (pick_ct bs k1 s.length hb (by omega) (by omega) (by omega))) ?_
      rintro σ2 ⟨r, o', ⟨⟨y, rfl, hy, _⟩, rfl⟩, hσ⟩
      obtain rfl := Option.some.inj hσ
      clear hσ
      refine rn rfl ?_
      have hy' := hy (by omega)
      obtain ⟨j, rfl⟩ : ∃ j : Nat, y = j := ⟨y.toNat, by omega⟩
      obtain ⟨p, hp⟩ := at_some (xs := s) (i := j) (by omega)
      have hpn := hsm.names p (List.mem_of_getElem? hp)
      refine rn rfl ?_
      refine goal_step (step_callE [0] rfl rfl rfl rfl rfl rfl (rfl) (pick_ct bs (k1 + 1) 24 hb (by omega) (by omega) (by omega))) ?_
      rintro σ2 ⟨r, o', ⟨⟨z, rfl, _, _⟩, rfl⟩, hσ⟩
      obtain rfl := Option.some.inj hσ
      clear hσ
      refine rn rfl ?_
      refine rn rfl ?_
      refine goal_cond rfl (fun c1 => ?_) (fun c1 => ?_) <;> (try simp only [gt_iff_lt, ge_iff_le, bne_iff_ne, ne_eq, bne_eq_false_iff_eq, beq_iff_eq, beq_eq_false_iff_ne, Bool.not_eq_true', Bool.not_eq_false', decide_eq_true_eq, decide_eq_false_iff_not, List.length_map] at c1)
      · refine rn rfl ?_
        refine goal_draw' [3] 8 rfl ?_
        refine drn [0, 1, 2, 3] (by kernel_rfl) (by kernel_rfl) rfl rfl ?_
        refine AH_one (i := 4) (by kernel_rfl) (step_callE [0] rfl rfl rfl rfl rfl rfl (rfl) (anyName_ct bs (k1 + 1 + 1) hb (by omega) (by omega))) (by simp) ?_
        rintro σ2 ⟨r, o', ⟨⟨nm, hnm, rfl⟩, rfl⟩, hσ⟩
        obtain rfl := Option.some.inj hσ
        clear hσ
        refine AH_did 5 rfl (by kernel_rfl) (by kernel_rfl) (by kernel_rfl) rfl rfl (dA_indexOwn rfl rfl rfl rfl rfl rfl rfl rfl rfl (by omega) (by (try simp); omega)) ?_
        refine AH_did 6 rfl (by kernel_rfl) (by kernel_rfl) (by kernel_rfl) rfl rfl (dA_step rfl) ?_
        refine AH_oneDid 7 rfl (by kernel_rfl) rfl (dA_storeEl (eQ p) ((s.set j ⟨nm, p.kind, p.hasD, p.dflt⟩).map eQ) true rfl rfl rfl rfl rfl (map_at (by simpa using hp)) rfl rfl (by simp [eQ]) (by rw [map_set]; simp [patch, eQ]) (fun _ => noOwnR_map _ eQ_noOwn _)) (mdOk rfl) ?_
        refine AH_end (by kernel_rfl) ?_
        refine rn rfl ?_
        exact cut_nrm [3, 2] [1, 3, 2] rfl ⟨s.set j ⟨nm, p.kind, p.hasD, p.dflt⟩, k1 + 1 + 1 + 2, small_set hsm (by exact hnm), by omega, by omega, by simp, rfl⟩
      · refine rn rfl ?_
        refine goal_cond rfl (fun c2 => ?_) (fun c2 => ?_) <;> (try simp only [gt_iff_lt, ge_iff_le, bne_iff_ne, ne_eq, bne_eq_false_iff_eq, beq_iff_eq, beq_eq_false_iff_ne, Bool.not_eq_true', Bool.not_eq_false', decide_eq_true_eq, decide_eq_false_iff_not, List.length_map] at c2)
        · refine rn rfl ?_
          refine goal_draw' [3] 9 rfl ?_
          refine drn [0, 1, 2, 3] (by kernel_rfl) (by kernel_rfl) rfl rfl ?_
          refine AH_oneDid 4 rfl (by kernel_rfl) rfl (dA_step rfl) (mdOk rfl) ?_
          refine AH_one (i := 5) (by kernel_rfl) (step_callE [0] rfl rfl rfl rfl rfl rfl (rfl) (one_ct bs (k1 + 1 + 1) [-1, 5, 0, 2, 4] hb (by omega) (by omega) (by decide) (by decide))) (by simp) ?_
          rintro σ2 ⟨r, o', ⟨⟨w, hw, rfl⟩, rfl⟩, hσ⟩
          obtain rfl := Option.some.inj hσ
          clear hσ
          refine AH_did 6 rfl (by kernel_rfl) (by kernel_rfl) (by kernel_rfl) rfl rfl (dA_indexOwn rfl rfl rfl rfl rfl rfl rfl rfl rfl (by omega) (by (try simp); omega)) ?_
          refine AH_did 7 rfl (by kernel_rfl) (by kernel_rfl) (by kernel_rfl) rfl rfl (dA_step rfl) ?_
          refine AH_oneDid 8 rfl (by kernel_rfl) rfl (dA_storeEl (eQ p) ((s.set j ⟨p.name, w, p.hasD, p.dflt⟩).map eQ) true rfl rfl rfl rfl rfl (map_at (by simpa using hp)) rfl rfl (by simp [eQ]) (by rw [map_set]; simp [patch, eQ]) (fun _ => noOwnR_map _ eQ_noOwn _)) (mdOk rfl) ?_
          refine AH_end (by kernel_rfl) ?_
          refine rn rfl ?_
          exact cut_nrm [3, 2] [1, 3, 2] rfl ⟨s.set j ⟨p.name, w, p.hasD, p.dflt⟩, k1 + 1 + 1 + 1, small_set hsm (by exact hpn), by omega, by omega, by simp, rfl⟩
        · refine rn rfl ?_
          refine goal_cond rfl (fun c3 => ?_) (fun c3 => ?_) <;> (try simp only [gt_iff_lt, ge_iff_le, bne_iff_ne, ne_eq, bne_eq_false_iff_eq, beq_iff_eq, beq_eq_false_iff_ne, Bool.not_eq_true', Bool.not_eq_false', decide_eq_true_eq, decide_eq_false_iff_not, List.length_map] at c3)
          · refine rn rfl ?_
            refine goal_drawL [2, 3] [12] 13 rfl ?_
            refine drnL [0, 1, 2, 3, 4, 5] (by kernel_rfl) (by kernel_rfl) rfl rfl ?_
            refine AHL_did 6 rfl (by kernel_rfl) (by kernel_rfl) (by kernel_rfl) (by kernel_rfl) rfl rfl (dA_indexOwn rfl rfl rfl rfl rfl rfl rfl rfl rfl (by omega) (by (try simp); omega)) ?_
            refine AHL_did 7 rfl (by kernel_rfl) (by kernel_rfl) (by kernel_rfl) (by kernel_rfl) rfl rfl (dA_step rfl) ?_
            refine AHL_did 8 rfl (by kernel_rfl) (by kernel_rfl) (by kernel_rfl) (by kernel_rfl) rfl rfl (dA_loadEl (eQ p) rfl rfl rfl rfl (map_at (by simpa using hp)) rfl rfl rfl) ?_
            refine drnL [9] (by kernel_rfl) (by kernel_rfl) rfl rfl ?_
            refine AHL_did 10 rfl (by kernel_rfl) (by kernel_rfl) (by kernel_rfl) (by kernel_rfl) rfl rfl (dA_indexOwn rfl rfl rfl rfl rfl rfl rfl rfl rfl (by omega) (by (try simp); omega)) ?_
            refine AHL_did 11 rfl (by kernel_rfl) (by kernel_rfl) (by kernel_rfl) (by kernel_rfl) rfl rfl (dA_step rfl) ?_
            refine AHL_lateDid 12 rfl (by kernel_rfl) rfl rfl (dA_storeEl (eQ p) ((s.set j ⟨p.name, p.kind, !p.hasD, p.dflt⟩).map eQ) true rfl rfl rfl rfl rfl (map_at (by simpa using hp)) rfl rfl (by simp [eQ]) (by rw [map_set]; simp [patch, eQ]) (fun _ => noOwnR_map _ eQ_noOwn _)) ?_
            refine AH_end (by kernel_rfl) ?_
            refine rn rfl ?_
            exact cut_nrm [3, 2] [1, 3, 2] rfl ⟨s.set j ⟨p.name, p.kind, !p.hasD, p.dflt⟩, k1 + 1 + 1, small_set hsm (by exact hpn), by omega, by omega, by simp, rfl⟩
          · refine rn rfl ?_
            refine goal_cond rfl (fun c4 => ?_) (fun c4 => ?_) <;> (try simp only [gt_iff_lt, ge_iff_le, bne_iff_ne, ne_eq, bne_eq_false_iff_eq, beq_iff_eq, beq_eq_false_iff_ne, Bool.not_eq_true', Bool.not_eq_false', decide_eq_true_eq, decide_eq_false_iff_not, List.length_map] at c4)
            · refine rn rfl ?_
              refine goal_draw' [3] 9 rfl ?_
              refine drn [0, 1, 2, 3] (by kernel_rfl) (by kernel_rfl) rfl rfl ?_
              refine AH_oneDid 4 rfl (by kernel_rfl) rfl (dA_step rfl) (mdOk rfl) ?_
              refine AH_one (i := 5) (by kernel_rfl) (step_callE [0] rfl rfl rfl rfl rfl rfl (rfl) (one_ct bs (k1 + 1 + 1) [100, 5] hb (by omega) (by omega) (by decide) (by decide))) (by simp) ?_
              rintro σ2 ⟨r, o', ⟨⟨w, hw, rfl⟩, rfl⟩, hσ⟩
              obtain rfl := Option.some.inj hσ
              clear hσ
              refine AH_did 6 rfl (by kernel_rfl) (by kernel_rfl) (by kernel_rfl) rfl rfl (dA_indexOwn rfl rfl rfl rfl rfl rfl rfl rfl rfl (by omega) (by (try simp); omega)) ?_
              refine AH_did 7 rfl (by kernel_rfl) (by kernel_rfl) (by kernel_rfl) rfl rfl (dA_step rfl) ?_
              refine AH_oneDid 8 rfl (by kernel_rfl) rfl (dA_storeEl (eQ p) ((s.set j ⟨p.name, p.kind, p.hasD, w⟩).map eQ) true rfl rfl rfl rfl rfl (map_at (by simpa using hp)) rfl rfl (by simp [eQ]) (by rw [map_set]; simp [patch, eQ]) (fun _ => noOwnR_map _ eQ_noOwn _)) (mdOk rfl) ?_
              refine AH_end (by kernel_rfl) ?_
              refine rn rfl ?_
              exact cut_nrm [3, 2] [1, 3, 2] rfl ⟨s.set j ⟨p.name, p.kind, p.hasD, w⟩, k1 + 1 + 1 + 1, small_set hsm (by exact hpn), by omega, by omega, by simp, rfl⟩
            · refine rn rfl ?_
              exact cut_nrm [3, 2] [1, 3, 2] rfl ⟨s, k1 + 1 + 1, hsm, by omega, by omega, rfl, rfl⟩
    · refine rn rfl ?_
      exact cut_nrm [3, 2] [1, 3, 2] rfl ⟨s, k1, hsm, by omega, by omega, rfl, rfl⟩
  rintro _ ⟨t, k2, ht, hk3, hk4, htl, rfl⟩
  refine rn rfl (fin_is [] rfl ⟨t, k2, ht, by omega, by omega, ?_, rfl⟩)
  rw [← htl]; exact asG t

/-- A flat of a draw: not long, its names short. -/
structure MidF (f : Flat) (a b : Nat) : Prop where
  places : f.places.length ≤ a
  named : f.named.length ≤ b
  names : ∀ p ∈ f.named, p.name.length ≤ 7

theorem callFor_ct (bs : Str) (k : Int) (s : Sig) (hs : OkS s) (hb : bs.length ≤ 2000) (hk : 0 ≤ k) (hk' : k ≤ 1073700000) :
    ACalls pk 110 [.one (.op 0 0 0), .agg (eG s)] [oR bs k] (fun r o => ∃ f k', MidF f 24 8 ∧ k ≤ k' ∧ k' ≤ k + 200 ∧ r = .agg (eF f) ∧ o = [oR bs k']) := by
  have hsl := hs.len
  have hP := placesQ_le s
  have hw0 : IntKind.i64.wrap ((placesQ s : Int) + 1) = (placesQ s : Int) + 1 := wrap64 (by omega) (by omega)
  refine acalls_of_body Tryz.func110 rfl (by kernel_rfl) rfl ?_
  refine rn rfl ?_
  refine goal_step (step_call [] rfl rfl rfl rfl rfl rfl (splaces_ct s (by omega))) ?_
  rintro σ2 ⟨r, o', ⟨rfl, rfl⟩, hσ⟩
  obtain rfl := Option.some.inj hσ
  clear hσ
  refine rn rfl ?_
  rw [hw0]
  refine goal_step (step_callE [0] rfl rfl rfl rfl rfl rfl (rfl) (pick_ct bs k ((placesQ s : Int) + 1) hb (by omega) (by omega) (by omega))) ?_
  rintro σ2 ⟨r, o', ⟨⟨pl, rfl, _, _⟩, rfl⟩, hσ⟩
  obtain rfl := Option.some.inj hσ
  clear hσ
  refine rn rfl ?_
  refine goal_loop_keep (fun m σ => ∃ (q k1 : Int) (i l1 l2 : Nat) (F : Flat), q = i ∧ i ≤ s.length ∧ m = s.length - i ∧ l1 = F.places.length ∧ l2 = F.named.length ∧ MidF F (3 * i) i ∧ k + 1 ≤ k1 ∧ k1 ≤ k + 1 + 20 * i ∧
      σ = ⟨[(7, .one (.int .i64 q)), (6, .one (.int .i64 pl)), (5, .one (.op 3 0 0)), (4, .one (.op 2 0 0)), (3, .one (.op 1 0 0)), (0, .one (.op 0 0 0))],
        [oR bs k1, some ⟨1, [eG s], false, false, true⟩, some ⟨2, [[.fs [], .fs []]], false, false, true⟩, some ⟨2, [[.os 4 0 l1 l1, .os 5 0 l2 l2]], false, false, true⟩, ownI F.places, ownP F.named], []⟩) s.length [7, 6, 5, 4, 3, 0] [1, 2, 5, 3, 4] rfl
    ⟨_, k + 1, 0, 0, 0, zF, rfl, by omega, by omega, rfl, rfl, ⟨by simp [zF], by simp [zF], by simp [zF]⟩, by omega, by omega, rfl⟩ ?_
  rintro m σ ⟨q, k1, i, l1, l2, F, rfl, hi, rfl, rfl, rfl, hF, hk1, hk2, rfl⟩
  have hF1 := hF.places
  have hF2 := hF.named
  have fin : goal pk Tryz.f110.ntmps 1 (fun _ _ => False) (.nrm []) ⟨[], [], []⟩ → True := fun _ => trivial
  clear fin
  refine rn rfl ?_
  refine goal_guard rfl rfl rfl (fun hc => ?_) (fun hc => ?_) <;> (try simp only [gt_iff_lt, ge_iff_le, bne_iff_ne, ne_eq, bne_eq_false_iff_eq, beq_iff_eq, beq_eq_false_iff_ne, Bool.not_eq_true', Bool.not_eq_false', decide_eq_true_eq, decide_eq_false_iff_not, List.length_map] at hc)
  · refine rn rfl ?_
    refine goal_cond rfl (fun hc2 => ?_) (fun hc2 => ?_) <;> (try simp only [gt_iff_lt, ge_iff_le, bne_iff_ne, ne_eq, bne_eq_false_iff_eq, beq_iff_eq, beq_eq_false_iff_ne, Bool.not_eq_true', Bool.not_eq_false', decide_eq_true_eq, decide_eq_false_iff_not, List.length_map] at hc2)
    · obtain ⟨p, hp⟩ := at_some (xs := s) (i := i) (by omega)
      have hpn := hs.nameLen (List.mem_of_getElem? hp)
      refine rn rfl ?_
      refine goal_did rfl rfl (dA_index (eQ p) rfl rfl rfl rfl rfl rfl rfl (by omega) (by (try simp); omega) (map_at (by simpa using hp)) rfl) ?_
      refine rt1 7 rfl ?_
      refine goal_cutR (fun σ' => ∃ v : Int, σ' = ⟨[(9, .one (.int .i64 v)), (8, .one (.op 6 0 0)), (7, .one (.int .i64 i)), (6, .one (.int .i64 pl)), (5, .one (.op 3 0 0)), (4, .one (.op 2 0 0)), (3, .one (.op 1 0 0)), (0, .one (.op 0 0 0))], [oR bs (k1 + 1), some ⟨1, [eG s], false, false, true⟩, some ⟨2, [[.fs [], .fs []]], false, false, true⟩, some ⟨2, [[.os 4 0 F.places.length F.places.length, .os 5 0 F.named.length F.named.length]], false, false, true⟩, ownI F.places, ownP F.named, some ⟨4, [eQ p], false, false, true⟩], []⟩) ?_ ?_
      · refine rn rfl ?_
        refine goal_step (step_callE [0] rfl rfl rfl rfl rfl rfl (rfl) (aNumber_ct bs k1 hb (by omega) (by omega))) ?_
        rintro σ2 ⟨r, o', ⟨⟨v, _, _, rfl⟩, rfl⟩, hσ⟩
        obtain rfl := Option.some.inj hσ
        clear hσ
        refine rn rfl ?_
        exact cut_nrm [9, 8, 7, 6, 5, 4, 3, 0] [1, 2, 3, 4, 5, 6] rfl ⟨v, rfl⟩
      rintro _ ⟨v0, rfl⟩
      refine rt 8 rfl ?_
      refine goal_cutR (fun σ' => ∃ v k2 : Int, k1 + 1 ≤ k2 ∧ k2 ≤ k1 + 2 ∧ σ' = ⟨[(9, .one (.int .i64 v)), (8, .one (.op 6 0 0)), (7, .one (.int .i64 i)), (6, .one (.int .i64 pl)), (5, .one (.op 3 0 0)), (4, .one (.op 2 0 0)), (3, .one (.op 1 0 0)), (0, .one (.op 0 0 0))], [oR bs k2, some ⟨1, [eG s], false, false, true⟩, some ⟨2, [[.fs [], .fs []]], false, false, true⟩, some ⟨2, [[.os 4 0 F.places.length F.places.length, .os 5 0 F.named.length F.named.length]], false, false, true⟩, ownI F.places, ownP F.named, some ⟨4, [eQ p], false, false, true⟩], []⟩) ?_ ?_
      · refine rn rfl ?_
        refine goal_guard rfl rfl rfl (fun a1 => ?_) (fun a1 => ?_) <;> (try simp only [gt_iff_lt, ge_iff_le, bne_iff_ne, ne_eq, bne_eq_false_iff_eq, beq_iff_eq, beq_eq_false_iff_ne, Bool.not_eq_true', Bool.not_eq_false', decide_eq_true_eq, decide_eq_false_iff_not, List.length_map] at a1)
        · refine rn rfl ?_
          refine goal_step (step_callE [0] rfl rfl rfl rfl rfl rfl (rfl) (pick_ct bs (k1 + 1) 3 hb (by omega) (by omega) (by omega))) ?_
          rintro σ2 ⟨r, o', ⟨⟨z, rfl, _, _⟩, rfl⟩, hσ⟩
          obtain rfl := Option.some.inj hσ
          clear hσ
          refine rn rfl ?_
          refine goal_cond rfl (fun a2 => ?_) (fun a2 => ?_) <;> (try simp only [gt_iff_lt, ge_iff_le, bne_iff_ne, ne_eq, bne_eq_false_iff_eq, beq_iff_eq, beq_eq_false_iff_ne, Bool.not_eq_true', Bool.not_eq_false', decide_eq_true_eq, decide_eq_false_iff_not, List.length_map] at a2)
          · refine rn rfl ?_
            exact cut_nrm [9, 8, 7, 6, 5, 4, 3, 0] [1, 2, 3, 4, 5, 6] rfl ⟨p.dflt, k1 + 1 + 1, by omega, by omega, rfl⟩
          · refine rn rfl ?_
            exact cut_nrm [9, 8, 7, 6, 5, 4, 3, 0] [1, 2, 3, 4, 5, 6] rfl ⟨v0, k1 + 1 + 1, by omega, by omega, rfl⟩
        · refine rn rfl ?_
          exact cut_nrm [9, 8, 7, 6, 5, 4, 3, 0] [1, 2, 3, 4, 5, 6] rfl ⟨v0, k1 + 1, by omega, by omega, rfl⟩
      rintro _ ⟨v, k2, hk3, hk4, rfl⟩
      refine rt1 10 rfl ?_
      refine goal_cutR (fun σ' => ∃ b : Bool, σ' = ⟨[(48, .one (.bool b)), (9, .one (.int .i64 v)), (8, .one (.op 6 0 0)), (7, .one (.int .i64 i)), (6, .one (.int .i64 pl)), (5, .one (.op 3 0 0)), (4, .one (.op 2 0 0)), (3, .one (.op 1 0 0)), (0, .one (.op 0 0 0))], [oR bs k2, some ⟨1, [eG s], false, false, true⟩, some ⟨2, [[.fs [], .fs []]], false, false, true⟩, some ⟨2, [[.os 4 0 F.places.length F.places.length, .os 5 0 F.named.length F.named.length]], false, false, true⟩, ownI F.places, ownP F.named, some ⟨4, [eQ p], false, false, true⟩], []⟩) ?_ ?_
      · refine rn rfl ?_
        refine goal_step (step_call [] rfl rfl rfl rfl rfl rfl (splaced_ct p)) ?_
        rintro σ2 ⟨r, o', ⟨rfl, rfl⟩, hσ⟩
        obtain rfl := Option.some.inj hσ
        clear hσ
        refine rn rfl ?_
        refine goal_guard rfl rfl rfl (fun a1 => ?_) (fun a1 => ?_) <;> (try simp only [gt_iff_lt, ge_iff_le, bne_iff_ne, ne_eq, bne_eq_false_iff_eq, beq_iff_eq, beq_eq_false_iff_ne, Bool.not_eq_true', Bool.not_eq_false', decide_eq_true_eq, decide_eq_false_iff_not, List.length_map] at a1)
        · refine rn rfl ?_
          refine goal_guard rfl rfl rfl (fun a2 => ?_) (fun a2 => ?_) <;> (try simp only [gt_iff_lt, ge_iff_le, bne_iff_ne, ne_eq, bne_eq_false_iff_eq, beq_iff_eq, beq_eq_false_iff_ne, Bool.not_eq_true', Bool.not_eq_false', decide_eq_true_eq, decide_eq_false_iff_not, List.length_map] at a2)
          · refine rn rfl ?_
            exact cut_nrm [48, 9, 8, 7, 6, 5, 4, 3, 0] [1, 2, 3, 4, 5, 6] rfl ⟨true, rfl⟩
          · refine rn rfl ?_
            refine goal_guard rfl rfl rfl (fun a3 => ?_) (fun a3 => ?_) <;> (try simp only [gt_iff_lt, ge_iff_le, bne_iff_ne, ne_eq, bne_eq_false_iff_eq, beq_iff_eq, beq_eq_false_iff_ne, Bool.not_eq_true', Bool.not_eq_false', decide_eq_true_eq, decide_eq_false_iff_not, List.length_map] at a3)
            · refine rn rfl ?_
              refine goal_guard rfl rfl rfl (fun a4 => ?_) (fun a4 => ?_) <;> (try simp only [gt_iff_lt, ge_iff_le, bne_iff_ne, ne_eq, bne_eq_false_iff_eq, beq_iff_eq, beq_eq_false_iff_ne, Bool.not_eq_true', Bool.not_eq_false', decide_eq_true_eq, decide_eq_false_iff_not, List.length_map] at a4)
              · refine rn rfl ?_
                exact cut_nrm [48, 9, 8, 7, 6, 5, 4, 3, 0] [1, 2, 3, 4, 5, 6] rfl ⟨_, rfl⟩
              · refine rn rfl ?_
                exact cut_nrm [48, 9, 8, 7, 6, 5, 4, 3, 0] [1, 2, 3, 4, 5, 6] rfl ⟨false, rfl⟩
            · refine rn rfl ?_
              exact cut_nrm [48, 9, 8, 7, 6, 5, 4, 3, 0] [1, 2, 3, 4, 5, 6] rfl ⟨false, rfl⟩
        · refine rn rfl ?_
          exact cut_nrm [48, 9, 8, 7, 6, 5, 4, 3, 0] [1, 2, 3, 4, 5, 6] rfl ⟨false, rfl⟩
      rintro _ ⟨b1, rfl⟩
      refine rn rfl ?_
      refine goal_cond rfl (fun c1 => ?_) (fun c1 => ?_) <;> (try simp only [gt_iff_lt, ge_iff_le, bne_iff_ne, ne_eq, bne_eq_false_iff_eq, beq_iff_eq, beq_eq_false_iff_ne, Bool.not_eq_true', Bool.not_eq_false', decide_eq_true_eq, decide_eq_false_iff_not, List.length_map] at c1)
      · refine rn rfl ?_
        refine goal_did rfl rfl (dA_append (old := (F.places).map eI) (rows := ([v] : List Int).map eI) (((F.places) ++ ([v] : List Int)).map eI) (F.places.length + 1) true (Dst.own rfl rfl rfl rfl rfl (by first | (simp; done) | (simp; omega)) (whole (by first | (simp; done) | (simp; omega)))) (Src.os rfl rfl (Nat.le_refl 1) rfl) rfl rfl rfl rfl rfl rfl rfl rfl (rows_len eI_len _) (rows_len eI_len _) (by (try simp only [List.length_map, List.length_append, List.length_cons, List.length_nil, List.length_take, List.length_drop]); show _ * 8 ≤ _; omega) (by first | (simp; done) | (simp; omega)) (by simp) (by first | (simp; done) | (simp; omega)) (fun _ => noOwnR_map _ eI_noOwn _)) ?_
        refine rn rfl ?_
        refine rn rfl ?_
        refine round_keep (s.length - (i + 1)) [7, 6, 5, 4, 3, 0] [1, 2, 3, 8, 5] (by omega) rfl ⟨_, k2, i + 1, _, _, ⟨F.places ++ [v], F.named⟩, wrap64 (by omega) (by omega), by omega, rfl, by simp, rfl, ⟨by simp; omega, by simp; omega, hF.names⟩, by omega, by omega, rfl⟩
      · refine rt1 12 rfl ?_
        refine goal_cutR (fun σ' => ∃ (b : Bool) (k3 : Int), k2 ≤ k3 ∧ k3 ≤ k2 + 1 ∧ σ' = ⟨[(79, .one (.bool b)), (9, .one (.int .i64 v)), (8, .one (.op 6 0 0)), (7, .one (.int .i64 i)), (6, .one (.int .i64 pl)), (5, .one (.op 3 0 0)), (4, .one (.op 2 0 0)), (3, .one (.op 1 0 0)), (0, .one (.op 0 0 0))], [oR bs k3, some ⟨1, [eG s], false, false, true⟩, some ⟨2, [[.fs [], .fs []]], false, false, true⟩, some ⟨2, [[.os 4 0 F.places.length F.places.length, .os 5 0 F.named.length F.named.length]], false, false, true⟩, ownI F.places, ownP F.named, some ⟨4, [eQ p], false, false, true⟩], []⟩) ?_ ?_
        · refine rn rfl ?_
          refine goal_step (step_call [] rfl rfl rfl rfl rfl rfl (snamed_ct p)) ?_
          rintro σ2 ⟨r, o', ⟨rfl, rfl⟩, hσ⟩
          obtain rfl := Option.some.inj hσ
          clear hσ
          refine rn rfl ?_
          refine goal_guard rfl rfl rfl (fun a1 => ?_) (fun a1 => ?_) <;> (try simp only [gt_iff_lt, ge_iff_le, bne_iff_ne, ne_eq, bne_eq_false_iff_eq, beq_iff_eq, beq_eq_false_iff_ne, Bool.not_eq_true', Bool.not_eq_false', decide_eq_true_eq, decide_eq_false_iff_not, List.length_map] at a1)
          · refine rn rfl ?_
            refine goal_step (step_lendE [] rfl rfl rfl rfl rfl rfl rfl (cons_eq (congrArg (fun x => T.one (C.fs x)) (takeAll eP F.named _ rfl)) rfl) (spairAt_ct F.named p.name (by omega)) (by rintro r o ⟨rfl, rfl⟩; exact ⟨rfl, rfl⟩)) ?_
            rintro σ2 ⟨r, o', ⟨rfl, rfl⟩, hσ⟩
            obtain rfl := Option.some.inj hσ
            clear hσ
            refine rn rfl ?_
            refine goal_guard rfl rfl rfl (fun a2 => ?_) (fun a2 => ?_) <;> (try simp only [gt_iff_lt, ge_iff_le, bne_iff_ne, ne_eq, bne_eq_false_iff_eq, beq_iff_eq, beq_eq_false_iff_ne, Bool.not_eq_true', Bool.not_eq_false', decide_eq_true_eq, decide_eq_false_iff_not, List.length_map] at a2)
            · refine rn rfl ?_
              refine goal_guard rfl rfl rfl (fun a3 => ?_) (fun a3 => ?_) <;> (try simp only [gt_iff_lt, ge_iff_le, bne_iff_ne, ne_eq, bne_eq_false_iff_eq, beq_iff_eq, beq_eq_false_iff_ne, Bool.not_eq_true', Bool.not_eq_false', decide_eq_true_eq, decide_eq_false_iff_not, List.length_map] at a3)
              · refine rn rfl ?_
                exact cut_nrm [79, 9, 8, 7, 6, 5, 4, 3, 0] [1, 2, 3, 4, 5, 6] rfl ⟨true, k2, by omega, by omega, rfl⟩
              · refine rn rfl ?_
                refine goal_step (step_callE [0] rfl rfl rfl rfl rfl rfl (rfl) (pick_ct bs k2 2 hb (by omega) (by omega) (by omega))) ?_
                rintro σ2 ⟨r, o', ⟨⟨z, rfl, _, _⟩, rfl⟩, hσ⟩
                obtain rfl := Option.some.inj hσ
                clear hσ
                refine rn rfl ?_
                exact cut_nrm [79, 9, 8, 7, 6, 5, 4, 3, 0] [1, 2, 3, 4, 5, 6] rfl ⟨_, k2 + 1, by omega, by omega, rfl⟩
            · refine rn rfl ?_
              exact cut_nrm [79, 9, 8, 7, 6, 5, 4, 3, 0] [1, 2, 3, 4, 5, 6] rfl ⟨false, k2, by omega, by omega, rfl⟩
          · refine rn rfl ?_
            exact cut_nrm [79, 9, 8, 7, 6, 5, 4, 3, 0] [1, 2, 3, 4, 5, 6] rfl ⟨false, k2, by omega, by omega, rfl⟩
        rintro _ ⟨b2, k3, hk5, hk6, rfl⟩
        refine rn rfl ?_
        refine goal_cond rfl (fun c2 => ?_) (fun c2 => ?_) <;> (try simp only [gt_iff_lt, ge_iff_le, bne_iff_ne, ne_eq, bne_eq_false_iff_eq, beq_iff_eq, beq_eq_false_iff_ne, Bool.not_eq_true', Bool.not_eq_false', decide_eq_true_eq, decide_eq_false_iff_not, List.length_map] at c2)
        · refine rn rfl ?_
          refine goal_did rfl rfl (dA_append (old := (F.named).map eP) (rows := ([⟨p.name, v⟩] : List Pair).map eP) (((F.named) ++ ([⟨p.name, v⟩] : List Pair)).map eP) (F.named.length + 1) true (Dst.own rfl rfl rfl rfl rfl (by first | (simp; done) | (simp; omega)) (whole (by first | (simp; done) | (simp; omega)))) (Src.os rfl rfl (Nat.le_refl 1) rfl) rfl rfl rfl rfl rfl rfl rfl rfl (rows_len eP_len _) (rows_len eP_len _) (by (try simp only [List.length_map, List.length_append, List.length_cons, List.length_nil, List.length_take, List.length_drop]); show _ * 24 ≤ _; omega) (by first | (simp; done) | (simp; omega)) (by simp) (by first | (simp; done) | (simp; omega)) (fun _ => noOwnR_map _ eP_noOwn _)) ?_
          refine rn rfl ?_
          refine rn rfl ?_
          refine round_keep (s.length - (i + 1)) [7, 6, 5, 4, 3, 0] [1, 2, 3, 4, 8] (by omega) rfl ⟨_, k3, i + 1, _, _, ⟨F.places, F.named ++ [⟨p.name, v⟩]⟩, wrap64 (by omega) (by omega), by omega, rfl, rfl, by simp, ⟨by simp; omega, by simp; omega, ?_⟩, by omega, by omega, rfl⟩
          intro r hr
          rcases List.mem_append.1 hr with hr | hr
          · exact hF.names r hr
          · simp only [List.mem_singleton] at hr; rw [hr]; show p.name.length ≤ 7; omega
        · refine rt1 14 rfl ?_
          refine goal_cutR (fun σ' => ∃ b : Bool, σ' = ⟨[(109, .one (.bool b)), (9, .one (.int .i64 v)), (8, .one (.op 6 0 0)), (7, .one (.int .i64 i)), (6, .one (.int .i64 pl)), (5, .one (.op 3 0 0)), (4, .one (.op 2 0 0)), (3, .one (.op 1 0 0)), (0, .one (.op 0 0 0))], [oR bs k3, some ⟨1, [eG s], false, false, true⟩, some ⟨2, [[.fs [], .fs []]], false, false, true⟩, some ⟨2, [[.os 4 0 F.places.length F.places.length, .os 5 0 F.named.length F.named.length]], false, false, true⟩, ownI F.places, ownP F.named, some ⟨4, [eQ p], false, false, true⟩], []⟩) ?_ ?_
          · refine goal_draw' [1, 3, 6] 18 rfl ?_
            refine drn [0, 1, 2, 3] (by kernel_rfl) (by kernel_rfl) rfl rfl ?_
            refine AH_guard (i := 4) rfl rfl rfl (fun d1 => ?_) (fun d1 => ?_) <;> (try simp only [gt_iff_lt, ge_iff_le, bne_iff_ne, ne_eq, bne_eq_false_iff_eq, beq_iff_eq, beq_eq_false_iff_ne, Bool.not_eq_true', Bool.not_eq_false', decide_eq_true_eq, decide_eq_false_iff_not, List.length_map] at d1)
            · refine drn [4, 5, 6, 7] (by kernel_rfl) (by kernel_rfl) rfl rfl ?_
              refine AH_one (i := 8) (by kernel_rfl) (step_call [] rfl rfl rfl rfl rfl rfl (splaces_ct s (by omega))) (by simp) ?_
              rintro σ2 ⟨r, o', ⟨rfl, rfl⟩, hσ⟩
              obtain rfl := Option.some.inj hσ
              clear hσ
              refine drn [9, 10, 11] (by kernel_rfl) (by kernel_rfl) rfl rfl ?_
              refine AH_guard (i := 12) rfl rfl rfl (fun d2 => ?_) (fun d2 => ?_) <;> (try simp only [gt_iff_lt, ge_iff_le, bne_iff_ne, ne_eq, bne_eq_false_iff_eq, beq_iff_eq, beq_eq_false_iff_ne, Bool.not_eq_true', Bool.not_eq_false', decide_eq_true_eq, decide_eq_false_iff_not, List.length_map] at d2)
              · refine drn [12, 13, 14, 15, 16, 17] (by kernel_rfl) (by kernel_rfl) rfl rfl ?_
                refine AH_end (by kernel_rfl) ?_
                refine rn rfl ?_
                exact cut_nrm [109, 9, 8, 7, 6, 5, 4, 3, 0] [1, 2, 3, 4, 5, 6] rfl ⟨_, rfl⟩
              · refine drn [12, 13, 14, 15, 16, 17] (by kernel_rfl) (by kernel_rfl) rfl rfl ?_
                refine AH_end (by kernel_rfl) ?_
                refine rn rfl ?_
                exact cut_nrm [109, 9, 8, 7, 6, 5, 4, 3, 0] [1, 2, 3, 4, 5, 6] rfl ⟨false, rfl⟩
            · refine drn [4, 5, 6, 7, 8, 9, 10, 11, 12, 13, 14, 15, 16, 17] (by kernel_rfl) (by kernel_rfl) rfl rfl ?_
              refine AH_end (by kernel_rfl) ?_
              refine rn rfl ?_
              exact cut_nrm [109, 9, 8, 7, 6, 5, 4, 3, 0] [1, 2, 3, 4, 5, 6] rfl ⟨false, rfl⟩
          rintro _ ⟨b3, rfl⟩
          refine rn rfl ?_
          refine goal_cond rfl (fun c3 => ?_) (fun c3 => ?_) <;> (try simp only [gt_iff_lt, ge_iff_le, bne_iff_ne, ne_eq, bne_eq_false_iff_eq, beq_iff_eq, beq_eq_false_iff_ne, Bool.not_eq_true', Bool.not_eq_false', decide_eq_true_eq, decide_eq_false_iff_not, List.length_map] at c3)
          · refine rn rfl ?_
            refine goal_step (step_callE [0] rfl rfl rfl rfl rfl rfl (rfl) (pick_ct bs k3 3 hb (by omega) (by omega) (by omega))) ?_
            rintro σ2 ⟨r, o', ⟨⟨y, rfl, hy, _⟩, rfl⟩, hσ⟩
            obtain rfl := Option.some.inj hσ
            clear hσ
            refine rn rfl ?_
            have hy' := hy (by omega)
            refine goal_loop_keep (fun m σ => ∃ (q k4 : Int) (l : Nat) (G : List Int), m = q.toNat ∧ 0 ≤ q ∧ q ≤ 2 ∧ l = G.length ∧ (G.length : Int) + q ≤ F.places.length + 2 ∧ k3 + 1 ≤ k4 ∧ k4 + q ≤ k3 + 3 ∧
                σ = ⟨[(10, .one (.int .i64 q)), (7, .one (.int .i64 i)), (6, .one (.int .i64 pl)), (5, .one (.op 3 0 0)), (4, .one (.op 2 0 0)), (3, .one (.op 1 0 0)), (0, .one (.op 0 0 0))],
                  [oR bs k4, some ⟨1, [eG s], false, false, true⟩, some ⟨2, [[.fs [], .fs []]], false, false, true⟩, some ⟨2, [[.os 4 0 l l, .os 5 0 F.named.length F.named.length]], false, false, true⟩, ownI G, ownP F.named], []⟩) y.toNat [10, 7, 6, 5, 4, 3, 0] [1, 2, 3, 4, 5] rfl
              ⟨y, k3 + 1, _, F.places, rfl, by omega, by omega, rfl, by omega, by omega, by omega, rfl⟩ ?_
            rintro m2 σ2 ⟨q, k4, l, G, rfl, hq0, hq2, rfl, hG, hk7, hk8, rfl⟩
            have hwq : IntKind.i64.wrap (q - 1) = q - 1 := wrap64 (by omega) (by omega)
            have fin2 : ∀ {K : KP}, K = K → True := fun _ => trivial
            clear fin2
            refine rn rfl ?_
            refine goal_guard rfl rfl rfl (fun d5 => ?_) (fun d5 => ?_) <;> (try simp only [gt_iff_lt, ge_iff_le, bne_iff_ne, ne_eq, bne_eq_false_iff_eq, beq_iff_eq, beq_eq_false_iff_ne, Bool.not_eq_true', Bool.not_eq_false', decide_eq_true_eq, decide_eq_false_iff_not, List.length_map] at d5)
            · refine rn rfl ?_
              refine goal_cond rfl (fun d6 => ?_) (fun d6 => ?_) <;> (try simp only [gt_iff_lt, ge_iff_le, bne_iff_ne, ne_eq, bne_eq_false_iff_eq, beq_iff_eq, beq_eq_false_iff_ne, Bool.not_eq_true', Bool.not_eq_false', decide_eq_true_eq, decide_eq_false_iff_not, List.length_map] at d6)
              · refine rn rfl ?_
                refine goal_drawL [3] [7] 8 rfl ?_
                refine drnL [0, 1, 2] (by kernel_rfl) (by kernel_rfl) rfl rfl ?_
                refine AHL_one (i := 3) (by kernel_rfl) rfl (step_callE [0] rfl rfl rfl rfl rfl rfl (rfl) (aNumber_ct bs k4 hb (by omega) (by omega))) (by simp) ?_
                rintro σ2 ⟨r, o', ⟨⟨w, _, _, rfl⟩, rfl⟩, hσ⟩
                obtain rfl := Option.some.inj hσ
                clear hσ
                refine AHL_oneDid 4 rfl (by kernel_rfl) rfl rfl (dA_step rfl) (mdOk rfl) ?_
                refine AHL_oneDid 5 rfl (by kernel_rfl) rfl rfl (dA_append (old := (G).map eI) (rows := ([w] : List Int).map eI) (((G) ++ ([w] : List Int)).map eI) (G.length + 1) true (Dst.own rfl rfl rfl rfl rfl (by first | (simp; done) | (simp; omega)) (whole (by first | (simp; done) | (simp; omega)))) (Src.os rfl rfl (Nat.le_refl 1) rfl) rfl rfl rfl rfl rfl rfl rfl rfl (rows_len eI_len _) (rows_len eI_len _) (by (try simp only [List.length_map, List.length_append, List.length_cons, List.length_nil, List.length_take, List.length_drop]); show _ * 8 ≤ _; omega) (by first | (simp; done) | (simp; omega)) (by simp) (by first | (simp; done) | (simp; omega)) (fun _ => noOwnR_map _ eI_noOwn _)) (mdOk rfl) ?_
                refine drnL [6] (by kernel_rfl) (by kernel_rfl) rfl rfl ?_
                refine AHL_lateDid 7 rfl (by kernel_rfl) rfl rfl (dA_step rfl) ?_
                refine AH_end (by kernel_rfl) ?_
                refine rn rfl ?_
                refine rn rfl ?_
                rw [hwq]
                refine round_keep (q - 1).toNat [10, 7, 6, 5, 4, 3, 0] [1, 2, 3, 7, 5] (by omega) rfl ⟨q - 1, k4 + 1, _, G ++ [w], rfl, by omega, by omega, (by simp : G.length + 1 = _), by simp; omega, by omega, by omega, rfl⟩
              · refine rn rfl (round_ext ?_)
                refine rn rfl ?_
                refine round_keep (s.length - (i + 1)) [7, 6, 5, 4, 3, 0] [1, 2, 3, 4, 5] (by omega) rfl ⟨_, k4, i + 1, _, _, ⟨G, F.named⟩, wrap64 (by omega) (by omega), by omega, rfl, rfl, rfl, ⟨by show G.length ≤ _; omega, by show F.named.length ≤ _; omega, hF.names⟩, by omega, by omega, rfl⟩
            · refine rn rfl (round_ext ?_)
              refine rn rfl ?_
              refine round_keep (s.length - (i + 1)) [7, 6, 5, 4, 3, 0] [1, 2, 3, 4, 5] (by omega) rfl ⟨_, k4, i + 1, _, _, ⟨G, F.named⟩, wrap64 (by omega) (by omega), by omega, rfl, rfl, rfl, ⟨by show G.length ≤ _; omega, by show F.named.length ≤ _; omega, hF.names⟩, by omega, by omega, rfl⟩
          · refine rt1 19 rfl ?_
            refine goal_cutR (fun σ' => ∃ (b : Bool) (k4 : Int), k3 ≤ k4 ∧ k4 ≤ k3 + 1 ∧ σ' = ⟨[(146, .one (.bool b)), (9, .one (.int .i64 v)), (8, .one (.op 6 0 0)), (7, .one (.int .i64 i)), (6, .one (.int .i64 pl)), (5, .one (.op 3 0 0)), (4, .one (.op 2 0 0)), (3, .one (.op 1 0 0)), (0, .one (.op 0 0 0))], [oR bs k4, some ⟨1, [eG s], false, false, true⟩, some ⟨2, [[.fs [], .fs []]], false, false, true⟩, some ⟨2, [[.os 4 0 F.places.length F.places.length, .os 5 0 F.named.length F.named.length]], false, false, true⟩, ownI F.places, ownP F.named, some ⟨4, [eQ p], false, false, true⟩], []⟩) ?_ ?_
            · refine rn rfl ?_
              refine goal_guard rfl rfl rfl (fun d1 => ?_) (fun d1 => ?_) <;> (try simp only [gt_iff_lt, ge_iff_le, bne_iff_ne, ne_eq, bne_eq_false_iff_eq, beq_iff_eq, beq_eq_false_iff_ne, Bool.not_eq_true', Bool.not_eq_false', decide_eq_true_eq, decide_eq_false_iff_not, List.length_map] at d1)
              · refine rn rfl ?_
                refine goal_step (step_callE [0] rfl rfl rfl rfl rfl rfl (rfl) (pick_ct bs k3 2 hb (by omega) (by omega) (by omega))) ?_
                rintro σ2 ⟨r, o', ⟨⟨z, rfl, _, _⟩, rfl⟩, hσ⟩
                obtain rfl := Option.some.inj hσ
                clear hσ
                refine rn rfl ?_
                exact cut_nrm [146, 9, 8, 7, 6, 5, 4, 3, 0] [1, 2, 3, 4, 5, 6] rfl ⟨_, k3 + 1, by omega, by omega, rfl⟩
              · refine rn rfl ?_
                exact cut_nrm [146, 9, 8, 7, 6, 5, 4, 3, 0] [1, 2, 3, 4, 5, 6] rfl ⟨false, k3, by omega, by omega, rfl⟩
            rintro _ ⟨b4, k4, hk7, hk8, rfl⟩
            refine rn rfl ?_
            refine goal_cond rfl (fun c4 => ?_) (fun c4 => ?_) <;> (try simp only [gt_iff_lt, ge_iff_le, bne_iff_ne, ne_eq, bne_eq_false_iff_eq, beq_iff_eq, beq_eq_false_iff_ne, Bool.not_eq_true', Bool.not_eq_false', decide_eq_true_eq, decide_eq_false_iff_not, List.length_map] at c4)
            · refine rn rfl ?_
              refine goal_drawL [3] [10] 11 rfl ?_
              refine drnL [0, 1, 2, 5] (by kernel_rfl) (by kernel_rfl) rfl rfl ?_
              refine AHL_oneDid 3 rfl (by kernel_rfl) rfl rfl (dA_step rfl) (mdOk rfl) ?_
              refine AHL_one (i := 4) (by kernel_rfl) rfl (step_callE [0] rfl rfl rfl rfl rfl rfl (rfl) (of_ct bs k4 [[109], [110], [111]] hb (by omega) (by omega) (by decide) (by decide))) (by simp) ?_
              rintro σ2 ⟨r, o', ⟨⟨nm, hnm, rfl⟩, rfl⟩, hσ⟩
              obtain rfl := Option.some.inj hσ
              clear hσ
              refine AHL_one (i := 6) (by kernel_rfl) rfl (step_callE [0] rfl rfl rfl rfl rfl rfl (rfl) (aNumber_ct bs (k4 + 1) hb (by omega) (by omega))) (by simp) ?_
              rintro σ2 ⟨r, o', ⟨⟨w, _, _, rfl⟩, rfl⟩, hσ⟩
              obtain rfl := Option.some.inj hσ
              clear hσ
              refine drnL [7] (by kernel_rfl) (by kernel_rfl) rfl rfl ?_
              refine AHL_one (i := 8) (by kernel_rfl) rfl (step_callE [] rfl rfl rfl rfl rfl rfl (cons_eq (congrArg (fun x => T.one (C.fs x)) (takeAll eP F.named _ rfl)) rfl) (putPair_ct F.named ⟨nm, w⟩ (by omega))) (by simp) ?_
              rintro σ2 ⟨r, o', ⟨rfl, rfl⟩, hσ⟩
              obtain rfl := Option.some.inj hσ
              clear hσ
              refine drnL [9] (by kernel_rfl) (by kernel_rfl) rfl rfl ?_
              refine AHL_lateDid 10 rfl (by kernel_rfl) rfl rfl (dA_step rfl) ?_
              refine AH_end (by kernel_rfl) ?_
              refine rn rfl ?_
              have hnl : nm.length ≤ 7 := by
                simp only [List.mem_cons, List.not_mem_nil, or_false] at hnm
                rcases hnm with h | h | h <;> (rw [h]; decide)
              refine rn rfl ?_
              have hpl : (spPair F.named ⟨nm, w⟩).length ≤ F.named.length + 1 := by rw [spPair_eq]; exact putP_length _ _ _
              refine round_keep (s.length - (i + 1)) [7, 6, 5, 4, 3, 0] [1, 2, 3, 4, 8] (by omega) rfl ⟨_, k4 + 1 + 1, i + 1, _, _, ⟨F.places, spPair F.named ⟨nm, w⟩⟩, wrap64 (by omega) (by omega), by omega, rfl, rfl, rfl, ⟨by show F.places.length ≤ _; omega, by show (spPair F.named ⟨nm, w⟩).length ≤ _; omega, ?_⟩, by omega, by omega, rfl⟩
              intro r hr
              rw [spPair_eq] at hr
              rcases putP_mem hr with h | ⟨q, hq, h⟩
              · rw [h]; exact hnl
              · rw [h]; exact hF.names q hq
            · refine rn rfl ?_
              refine round_keep (s.length - (i + 1)) [7, 6, 5, 4, 3, 0] [1, 2, 3, 4, 5] (by omega) rfl ⟨_, k4, i + 1, _, _, F, wrap64 (by omega) (by omega), by omega, rfl, rfl, rfl, ⟨by omega, by omega, hF.names⟩, by omega, by omega, rfl⟩
    · refine rn rfl (round_ext ?_)
      refine rn rfl (fin_is [] rfl ⟨F, k1, ⟨by omega, by omega, hF.names⟩, by omega, by omega, ?_, rfl⟩)
      exact asFl F
  · refine rn rfl (round_ext ?_)
    refine rn rfl (fin_is [] rfl ⟨F, k1, ⟨by omega, by omega, hF.names⟩, by omega, by omega, ?_, rfl⟩)
    exact asFl F

/-- Given by its place. -/
def byPl (pl : List Int) (i : Nat) (p : Param) : Bool := placedQ p && decide (i < pl.length)

def giveQ (s : Sig) (pl : List Int) (qs : List Pair) (i : Nat) (p : Param) : Slot :=
  if p.kind = 4 then ⟨false, [], qs.filter fun q => takesQ s q.name == (i : Int)⟩
  else if namedQ p && !byPl pl i p then (match qs.find? (nameIs p.name) with
    | some q => ⟨true, [q.value], []⟩
    | none => zL)
  else place1 (placesQ s) pl i p

def wrongQ (s : Sig) (pl : List Int) (q : Pair) : Option Problem :=
  if takesQ s q.name < 0 then some ⟨1, q.name⟩ else
  match s[(takesQ s q.name).toNat]? with
  | some p => if p.kind = 4 then none else if byPl pl (takesQ s q.name).toNat p then some ⟨2, q.name⟩ else none
  | none => none

def closedQ (s : Sig) (pl : List Int) (qs : List Pair) : Bnds × List Problem := (s.mapIdx (giveQ s pl qs), manyQ s pl ++ qs.filterMap (wrongQ s pl))

theorem giveQ_nil {s : Sig} (pl : List Int) (i : Nat) (p : Param) : giveQ s pl [] i p = place1 (placesQ s) pl i p := by
  unfold giveQ
  by_cases h4 : p.kind = 4
  · rw [if_pos h4]
    have : placedQ p = false := by
      cases h : placedQ p with
      | false => rfl
      | true => rw [placed_kind] at h; omega
    unfold place1
    simp [this, h4, zL]
  · rw [if_neg h4]
    split
    · rename_i h
      simp only [Bool.and_eq_true, Bool.not_eq_true'] at h
      have hk := named_kind.1 h.1
      unfold place1
      unfold byPl at h
      rw [h.2]
      have : (p.kind == 2) = false := by simp; omega
      simp [this]
    · rfl

theorem closed_nil (s : Sig) (pl : List Int) : closedQ s pl [] = (phase1 s pl, manyQ s pl) := by
  simp only [closedQ, phase1, List.filterMap_nil, List.append_nil]
  congr 1
  apply List.ext_getElem?
  intro i
  rw [List.getElem?_mapIdx, List.getElem?_mapIdx]
  cases s[i]? with
  | none => rfl
  | some p => simp only [Option.map_some, giveQ_nil]

theorem takes_named {s : Sig} (hs : OkS s) {i : Nat} {p : Param} (hp : s[i]? = some p) (hn : namedQ p = true) : takesQ s p.name = (i : Int) := by
  have hq : ∀ j q, s[j]? = some q → q.name = p.name → j = i := fun j q hj hqn => by
    have hnd := hs.nodup
    rw [List.nodup_iff_pairwise_ne, List.pairwise_iff_getElem] at hnd
    have hi := lt_of_some hp
    have hjl := lt_of_some hj
    rw [List.getElem?_eq_getElem hi] at hp
    rw [List.getElem?_eq_getElem hjl] at hj
    simp only [Option.some.injEq] at hp hj
    rcases Nat.lt_trichotomy j i with h | h | h
    · exact absurd (by rw [List.getElem_map, List.getElem_map, hp, hj, hqn]) (hnd j i (by simpa using hjl) (by simpa using hi) h)
    · exact h
    · exact absurd (by rw [List.getElem_map, List.getElem_map, hp, hj, hqn]) (hnd i j (by simpa using hi) (by simpa using hjl) h)
  have hany : s.any (qIs p.name) = true := by rw [List.any_eq_true]; exact ⟨p, List.mem_of_getElem? hp, by simp [qIs]⟩
  obtain ⟨q, hf, hqi, hqn, hlt⟩ := idxI_find (idxI_ge (i := 0).2 hany)
  have hqn' : q.name = p.name := by simpa [qIs] using hqn
  have hix := hq _ q hqi hqn'
  have hpq : q = p := by rw [hix, hp] at hqi; exact (Option.some.inj hqi).symm
  have h0 := idxI_ge (i := 0).2 hany
  unfold takesQ
  rw [hf]
  simp only [hpq, hn, if_true]
  omega

theorem find_snoc {qs : List Pair} {q : Pair} {n : Str} : (qs ++ [q]).find? (nameIs n) = (match qs.find? (nameIs n) with
    | some x => some x
    | none => if q.name = n then some q else none) := by
  rw [List.find?_append]
  cases qs.find? (nameIs n) with
  | some x => rfl
  | none =>
    simp only [Option.none_or, List.find?_cons, List.find?_nil, nameIs]
    by_cases h : q.name = n
    · simp [h]
    · have : (q.name == n) = false := by simpa using h
      simp [h, this]

theorem find_none {qs : List Pair} {n : Str} (h : n ∉ namesOf qs) : qs.find? (nameIs n) = none := by
  rw [List.find?_eq_none]
  intro x hx hxn
  exact h (by simp only [nameIs, beq_iff_eq] at hxn; rw [← hxn]; exact List.mem_map_of_mem hx)

theorem closed_step {s : Sig} (hs : OkS s) {pl : List Int} {qs : List Pair} {q : Pair} (hq : q.name ∉ namesOf qs) : stepB s (closedQ s pl qs) q = closedQ s pl (qs ++ [q]) := by
  by_cases hneg : takesQ s q.name < 0
  · rw [stepB_neg hneg]
    simp only [closedQ, List.filterMap_append, List.filterMap_cons, List.filterMap_nil, wrongQ, hneg, if_true, List.append_assoc]
    congr 1
    apply List.ext_getElem?
    intro i
    simp only [List.getElem?_mapIdx]
    cases hp : s[i]? with
    | none => rfl
    | some p =>
      simp only [Option.map_some, Option.some.injEq, giveQ]
      split
      · have : (takesQ s q.name == (i : Int)) = false := by simp; omega
        simp [this]
      · split
        · rename_i h4 hn
          simp only [Bool.and_eq_true] at hn
          have ht := takes_named hs hp hn.1
          rw [find_snoc]
          have hne : q.name ≠ p.name := fun h0 => by rw [h0, ht] at hneg; omega
          rw [if_neg hne]
          cases qs.find? (nameIs p.name) <;> rfl
        · rfl
  · obtain ⟨p, hp, hlt, hk⟩ := takesQ_some hneg
    have hat : takesQ s q.name = ((takesQ s q.name).toNat : Nat) := by omega
    generalize hj : (takesQ s q.name).toNat = j at hp hat
    have hx : (closedQ s pl qs).1[j]? = some (giveQ s pl qs j p) := by simp [closedQ, hp]
    have hother : ∀ (i : Nat) (r : Param), s[i]? = some r → i ≠ j → giveQ s pl (qs ++ [q]) i r = giveQ s pl qs i r := fun i r hr hij => by
      simp only [giveQ]
      split
      · have : (takesQ s q.name == (i : Int)) = false := by rw [hat]; simp; omega
        simp [this]
      · split
        · rename_i h4 hn
          simp only [Bool.and_eq_true] at hn
          have ht := takes_named hs hr hn.1
          rw [find_snoc]
          have hne : q.name ≠ r.name := fun h0 => by rw [h0, ht] at hat; omega
          rw [if_neg hne]
          cases qs.find? (nameIs r.name) <;> rfl
        · rfl
    have hset : ∀ y : Slot, giveQ s pl (qs ++ [q]) j p = y → (closedQ s pl qs).1.set j y = (closedQ s pl (qs ++ [q])).1 := fun y hy => by
      apply List.ext_getElem?
      intro i
      simp only [closedQ, List.getElem?_set, List.getElem?_mapIdx, List.length_mapIdx]
      by_cases hij : j = i
      · subst hij; rw [if_pos rfl, if_pos (lt_of_some hp), hp]; simp [hy]
      · rw [if_neg hij]
        cases hr : s[i]? with
        | none => rfl
        | some r => simp [hother i r hr (fun h => hij h.symm)]
    have hwr : ∀ w : Option Problem, wrongQ s pl q = w → (closedQ s pl (qs ++ [q])).2 = (closedQ s pl qs).2 ++ w.toList := fun w hw => by
      simp only [closedQ, List.filterMap_append, List.append_assoc]
      congr 1
      congr 1
      cases w <;> simp [List.filterMap_cons, hw]
    by_cases h4 : p.kind = 4
    · rw [stepB_map hat hp hx h4]
      have hw : wrongQ s pl q = none := by simp [wrongQ, hneg, hj, hp, h4]
      have h1 := hwr none hw
      refine Prod.ext (hset _ ?_) (by rw [h1]; simp)
      simp [giveQ, h4, hat]
    · have hn : namedQ p = true ∧ p.name = q.name := by
        rcases hk with h | h
        · exact h
        · exact absurd h h4
      have hnf : qs.find? (nameIs p.name) = none := by rw [hn.2]; exact find_none hq
      by_cases hb : byPl pl j p = true
      · have hg : (giveQ s pl qs j p).given = true := by
          unfold byPl at hb
          simp only [giveQ, h4, if_false, hn.1, byPl, hb, Bool.not_true, Bool.and_false, Bool.false_eq_true, place1, if_true]
        rw [stepB_twice hat hp hx h4 hg]
        have hw : wrongQ s pl q = some ⟨2, q.name⟩ := by simp [wrongQ, hneg, hj, hp, h4, hb]
        have h1 := hwr _ hw
        refine Prod.ext ?_ (by rw [h1]; rfl)
        have h2 := hset (giveQ s pl qs j p) (by simp only [giveQ, h4, if_false, hn.1, hb, Bool.not_true, Bool.and_false, Bool.false_eq_true])
        rw [set_same hx] at h2
        exact h2
      · have hb' : byPl pl j p = false := by simpa using hb
        have hg : (giveQ s pl qs j p).given = false := by
          simp only [giveQ, h4, if_false, hn.1, hb', Bool.not_false, Bool.and_self, if_true, hnf, zL]
        rw [stepB_set hat hp hx h4 hg]
        have hw : wrongQ s pl q = none := by simp [wrongQ, hneg, hj, hp, h4, hb']
        have h1 := hwr none hw
        refine Prod.ext (hset _ ?_) (by rw [h1]; simp)
        rw [hn.2] at hnf
        simp only [giveQ, h4, if_false, hn.1, hb', Bool.not_false, Bool.and_self, if_true, find_snoc, hnf, hn.2]

theorem closed_fold {s : Sig} (hs : OkS s) {pl : List Int} : ∀ (rs qs : List Pair), (namesOf (qs ++ rs)).Nodup → rs.foldl (stepB s) (closedQ s pl qs) = closedQ s pl (qs ++ rs)
  | [], qs, _ => by simp
  | r :: rs, qs, h => by
    have hr : r.name ∉ namesOf qs := by
      intro h0
      simp only [namesOf, List.map_append, List.map_cons] at h h0
      exact (List.nodup_append.1 h).2.2 _ h0 _ (List.mem_cons_self ..) rfl
    rw [List.foldl_cons, closed_step hs hr, closed_fold hs rs (qs ++ [r]) (by simpa using h)]
    simp

/-- What a call gives. -/
theorem bound_closed {s : Sig} (hs : OkS s) {f : Flat} (hf : (namesOf f.named).Nodup) : boundQ s f = closedQ s f.places f.named := by
  rw [boundQ, ← closed_nil, closed_fold hs f.named [] (by simpa using hf)]
  simp

structure LenPa (p : Part) : Prop where
  sig : LenS p.sig
  flat : LenF p.flat

def atP (f : Flat) (q : Param) : Bool := q.kind == 1 && f.named.any (nameIs q.name)

def atQ (s : Sig) (f : Flat) : Int := idxI (atP f) s 0

def giveP (f : Flat) (q : Param) : Param := if namedQ q then (match f.named.find? (nameIs q.name) with
  | some r => ⟨q.name, q.kind, true, r.value⟩
  | none => q) else q

def kindP (b : Bool) (q : Param) : Param := if q.kind == 1 && b then ⟨q.name, 3, q.hasD, q.dflt⟩ else q

def skipP (at' : Int) (f : Flat) (i : Nat) (q : Param) : Bool := (placedQ q && decide (i < f.places.length)) || (q.kind == 2 && decide (0 ≤ at'))

def partParam (at' : Int) (f : Flat) (i : Nat) (q : Param) : Option Param :=
  if skipP at' f i q then none else some (giveP f (kindP (decide (0 ≤ at') && decide (at' ≤ i)) q))

def psL (at' : Int) (f : Flat) (s : Sig) : Sig := s.zipIdx.filterMap fun x => partParam at' f x.2 x.1

theorem psL_succ {at' : Int} {f : Flat} {s : Sig} {i : Nat} {q : Param} (hq : s[i]? = some q) : psL at' f (s.take (i + 1)) = psL at' f (s.take i) ++ (partParam at' f i q).toList := by
  have hl : (s.take i).length = i := by have := lt_of_some hq; simp; omega
  unfold psL
  rw [← take_snoc hq, List.zipIdx_append, List.filterMap_append, hl]
  simp [List.filterMap_cons]
  cases partParam at' f i q <;> rfl

theorem psL_len (at' : Int) (f : Flat) (s : Sig) : (psL at' f s).length ≤ s.length := by
  unfold psL
  have := List.length_filterMap_le (fun x : Param × Nat => partParam at' f x.2 x.1) s.zipIdx
  simpa using this

theorem partParam_name {at' : Int} {f : Flat} {i : Nat} {q r : Param} (h : partParam at' f i q = some r) : r.name = q.name := by
  unfold partParam at h
  split at h
  · cases h
  · simp only [Option.some.injEq] at h
    rw [← h]
    unfold giveP kindP
    split <;> split <;> (try split) <;> rfl

theorem psL_names {at' : Int} {f : Flat} {s : Sig} (hs : ∀ p ∈ s, p.name.length ≤ 9223372036854775807) : ∀ p ∈ psL at' f s, p.name.length ≤ 9223372036854775807 := by
  intro p hp
  unfold psL at hp
  rw [List.mem_filterMap] at hp
  obtain ⟨⟨q, i⟩, hq, hr⟩ := hp
  rw [partParam_name hr]
  exact hs q (List.fst_mem_of_mem_zipIdx hq)

theorem pair_at {f : Flat} {n : Str} (h : 0 ≤ pairIx f.named n) : ∃ r, f.named.find? (nameIs n) = some r ∧ f.named[(pairIx f.named n).toNat]? = some r ∧ pairIx f.named n < f.named.length := by
  obtain ⟨r, h1, h2, _, h3⟩ := idxI_find h
  exact ⟨r, h1, h2, h3⟩

theorem pair_none {f : Flat} {n : Str} (h : ¬ 0 ≤ pairIx f.named n) : f.named.find? (nameIs n) = none := idxI_none' h

theorem pair_any {f : Flat} {n : Str} : f.named.any (nameIs n) = decide (0 ≤ pairIx f.named n) := by
  have := idxI_ge (pred := nameIs n) (xs := f.named) (i := 0)
  cases h : f.named.any (nameIs n) with
  | true => simp [pairIx, this.2 h]
  | false =>
    have h0 : ¬ 0 ≤ idxI (nameIs n) f.named 0 := fun h1 => by rw [this.1 h1] at h; cases h
    simp [pairIx, h0]

theorem snamedAt_ct (p : Part) (hp : LenPa p) : ACalls pk 210 [.agg (ePa p)] [] (fun r o => r = .one (.int .i64 (atQ p.sig p.flat)) ∧ o = []) := by
  obtain ⟨s1, s2⟩ := hp.sig
  have f2 := hp.flat.named
  obtain ⟨s, f⟩ := p
  simp only at s1 f2
  refine acalls_of_body Tryz.func210 rfl (by kernel_rfl) rfl ?_
  refine rn rfl ?_
  refine goal_loop_keep (fun m σ => ∃ (q : Int) (i : Nat), q = i ∧ i ≤ s.length ∧ m = s.length - i ∧ atQ s f = idxI (atP f) (s.drop i) i ∧
      σ = ⟨[(3, .one (.int .i64 q)), (1, .one (.op 0 0 0))], [some ⟨3, [ePa ⟨s, f⟩], false, false, true⟩], []⟩) s.length [3, 1] [0] rfl ⟨_, 0, rfl, by omega, by omega, by simp [atQ], rfl⟩ ?_
  rintro m σ ⟨q, i, rfl, hi, rfl, hidx, rfl⟩
  refine rn rfl ?_
  refine goal_cond rfl (fun h => ?_) (fun h => ?_) <;> (try simp only [gt_iff_lt, ge_iff_le, bne_iff_ne, ne_eq, bne_eq_false_iff_eq, beq_iff_eq, beq_eq_false_iff_ne, Bool.not_eq_true', Bool.not_eq_false', decide_eq_true_eq, decide_eq_false_iff_not, List.length_map] at h)
  · obtain ⟨x, hx⟩ := at_some (xs := s) (i := i) (by omega)
    refine rn rfl ?_
    refine goal_draw' [0] 22 rfl ?_
    refine drn [0, 1, 2, 3] (by kernel_rfl) (by kernel_rfl) rfl rfl ?_
    refine AH_did 4 rfl (by kernel_rfl) (by kernel_rfl) (by kernel_rfl) rfl rfl (dA_index (eQ x) rfl rfl rfl rfl rfl rfl rfl (by omega) (by (try simp); omega) (map_at (by simpa using hx)) rfl) ?_
    refine drn [5, 6, 7, 8] (by kernel_rfl) (by kernel_rfl) rfl rfl ?_
    refine AH_guard (i := 9) rfl rfl rfl (fun h1 => ?_) (fun h1 => ?_) <;> (try simp only [gt_iff_lt, ge_iff_le, bne_iff_ne, ne_eq, bne_eq_false_iff_eq, beq_iff_eq, beq_eq_false_iff_ne, Bool.not_eq_true', Bool.not_eq_false', decide_eq_true_eq, decide_eq_false_iff_not, List.length_map] at h1)
    · refine drn [9, 10, 11, 12, 13, 14, 15] (by kernel_rfl) (by kernel_rfl) rfl rfl ?_
      refine AH_did 16 rfl (by kernel_rfl) (by kernel_rfl) (by kernel_rfl) rfl rfl (dA_index (eQ x) rfl rfl rfl rfl rfl rfl rfl (by omega) (by (try simp); omega) (map_at (by simpa using hx)) rfl) ?_
      refine drn [17, 18] (by kernel_rfl) (by kernel_rfl) rfl rfl ?_
      refine AH_one (i := 19) (by kernel_rfl) (step_call [] rfl rfl rfl rfl rfl rfl (spairAt_ct f.named x.name (by omega))) (by simp) ?_
      rintro σ2 ⟨r, o', ⟨rfl, rfl⟩, hσ⟩
      obtain rfl := Option.some.inj hσ
      clear hσ
      refine drn [20, 21] (by kernel_rfl) (by kernel_rfl) rfl rfl ?_
      refine AH_end (by kernel_rfl) ?_
      refine rn rfl ?_
      refine goal_cond rfl (fun h2 => ?_) (fun h2 => ?_) <;> simp only [decide_eq_true_eq, decide_eq_false_iff_not] at h2
      · refine rn rfl (round_ret (fin_is [] rfl ⟨?_, rfl⟩))
        have ha : atP f x = true := by simp [atP, h1, pair_any, h2]
        rw [hidx, drop_at hx]; simp [idxI, ha]
      · refine rn rfl ?_
        have ha : atP f x = false := by simp [atP, h1, pair_any, h2]
        refine round_keep (s.length - (i + 1)) [3, 1] [0] (by omega) rfl ⟨_, i + 1, wrap64 (by omega) (by omega), by omega, rfl, ?_, rfl⟩
        rw [hidx, drop_at hx]; simp [idxI, ha]
    · refine drn [9, 10, 11, 12, 13, 14, 15, 16, 17, 18, 19, 20, 21] (by kernel_rfl) (by kernel_rfl) rfl rfl ?_
      refine AH_end (by kernel_rfl) ?_
      refine rn rfl ?_
      refine rn rfl ?_
      have ha : atP f x = false := by simp [atP, h1]
      refine round_keep (s.length - (i + 1)) [3, 1] [0] (by omega) rfl ⟨_, i + 1, wrap64 (by omega) (by omega), by omega, rfl, ?_, rfl⟩
      rw [hidx, drop_at hx]; simp [idxI, ha]
  · refine rn rfl (round_ext ?_)
    refine rn rfl (fin_is [] rfl ⟨?_, rfl⟩)
    rw [hidx, List.drop_eq_nil_of_le (by omega)]; rfl

theorem placed_not2 {x : Param} (h : placedQ x = true) : (x.kind == 2) = false := by
  rw [placed_kind] at h; simp; omega

theorem partialParams_ct (s : Sig) (f : Flat) (hp : LenPa ⟨s, f⟩) (hl : s.length ≤ 1000) : ACalls pk 176 [.agg (ePa ⟨s, f⟩)] [] (fun r o => r = .one (.fs ((psL (atQ s f) f s).map eQ)) ∧ o = []) := by
  obtain ⟨s1, s2⟩ := hp.sig
  have f1 := hp.flat.places
  have f2 := hp.flat.named
  have hat : ACalls pk 210 [.agg (ePa ⟨s, f⟩)] [] (fun r o => r = .one (.int .i64 (atQ s f)) ∧ o = []) := snamedAt_ct ⟨s, f⟩ hp
  simp only at s1 f1 f2 s2
  refine acalls_of_body Tryz.func176 rfl (by kernel_rfl) rfl ?_
  refine rn rfl ?_
  refine goal_step (step_call [] rfl rfl rfl rfl rfl rfl (hat)) ?_
  rintro σ2 ⟨r, o', ⟨rfl, rfl⟩, hσ⟩
  obtain rfl := Option.some.inj hσ
  clear hσ
  refine rn rfl ?_
  generalize atQ s f = A
  refine rn rfl ?_
  refine goal_loop_keep (fun m σ => ∃ (q : Int) (i l : Nat) (acc : List Param), q = i ∧ i ≤ s.length ∧ m = s.length - i ∧ l = acc.length ∧ acc = psL A f (s.take i) ∧
      σ = ⟨[(5, .one (.int .i64 q)), (4, .one (.int .i64 A)), (3, .one (.os 1 0 l l)), (1, .one (.op 0 0 0))], [some ⟨3, [ePa ⟨s, f⟩], false, false, true⟩, ownQ acc], []⟩) s.length [5, 4, 3, 1] [0, 1] rfl
    ⟨_, 0, 0, [], rfl, by omega, by omega, rfl, rfl, rfl⟩ ?_
  rintro m σ ⟨q, i, l, acc, rfl, hi, rfl, rfl, hacc, rfl⟩
  have hal := psL_len A f (s.take i)
  rw [← hacc, List.length_take] at hal
  refine rn rfl ?_
  refine goal_cond rfl (fun h => ?_) (fun h => ?_) <;> (try simp only [gt_iff_lt, ge_iff_le, bne_iff_ne, ne_eq, bne_eq_false_iff_eq, beq_iff_eq, beq_eq_false_iff_ne, Bool.not_eq_true', Bool.not_eq_false', decide_eq_true_eq, decide_eq_false_iff_not, List.length_map] at h)
  · obtain ⟨x, hx⟩ := at_some (xs := s) (i := i) (by omega)
    have hst := psL_succ (at' := A) (f := f) hx
    rw [← hacc] at hst
    have hskip : skipP A f i x = true → psL A f (s.take (i + 1)) = acc := fun h0 => by rw [hst]; simp [partParam, h0]
    refine rn rfl ?_
    refine goal_did rfl rfl (dA_index (eQ x) rfl rfl rfl rfl rfl rfl rfl (by omega) (by (try simp); omega) (map_at (by simpa using hx)) rfl) ?_
    refine rt 7 rfl ?_
    refine goal_cutR (fun σ' => skipP A f i x = false ∧ σ' = ⟨[(6, .one (.op 2 0 0)), (5, .one (.int .i64 i)), (4, .one (.int .i64 A)), (3, .one (.os 1 0 acc.length acc.length)), (1, .one (.op 0 0 0))],
        [some ⟨3, [ePa ⟨s, f⟩], false, false, true⟩, ownQ acc, some ⟨4, [eQ x], false, false, true⟩], []⟩) ?_ ?_
    · refine rn rfl ?_
      refine goal_step (step_call [] rfl rfl rfl rfl rfl rfl (splaced_ct x)) ?_
      rintro σ2 ⟨r, o', ⟨rfl, rfl⟩, hσ⟩
      obtain rfl := Option.some.inj hσ
      clear hσ
      refine rn rfl ?_
      refine goal_guard rfl rfl rfl (fun h1 => ?_) (fun h1 => ?_) <;> (try simp only [gt_iff_lt, ge_iff_le, bne_iff_ne, ne_eq, bne_eq_false_iff_eq, beq_iff_eq, beq_eq_false_iff_ne, Bool.not_eq_true', Bool.not_eq_false', decide_eq_true_eq, decide_eq_false_iff_not, List.length_map] at h1)
      · refine rn rfl ?_
        refine goal_guard rfl rfl rfl (fun h2 => ?_) (fun h2 => ?_) <;> (try simp only [gt_iff_lt, ge_iff_le, bne_iff_ne, ne_eq, bne_eq_false_iff_eq, beq_iff_eq, beq_eq_false_iff_ne, Bool.not_eq_true', Bool.not_eq_false', decide_eq_true_eq, decide_eq_false_iff_not, List.length_map] at h2)
        · refine rn rfl ?_
          refine cut_ext ?_
          refine rn rfl ?_
          refine round_keep (s.length - (i + 1)) [5, 4, 3, 1] [0, 1] (by omega) rfl ⟨_, i + 1, acc.length, acc, wrap64 (by omega) (by omega), by omega, rfl, rfl, (hskip (by simp [skipP, h1]; left; omega)).symm, rfl⟩
        · have h3 := placed_not2 h1
          refine rn rfl ?_
          refine goal_guard rfl rfl rfl (fun h4 => by rw [h3] at h4; cases h4) (fun h4 => ?_)
          refine rn rfl ?_
          exact cut_nrm [6, 5, 4, 3, 1] [0, 1, 2] rfl ⟨by simp [skipP, h1, h3]; omega, rfl⟩
      · refine rn rfl ?_
        refine goal_guard rfl rfl rfl (fun h3 => ?_) (fun h3 => ?_) <;> (try simp only [gt_iff_lt, ge_iff_le, bne_iff_ne, ne_eq, bne_eq_false_iff_eq, beq_iff_eq, beq_eq_false_iff_ne, Bool.not_eq_true', Bool.not_eq_false', decide_eq_true_eq, decide_eq_false_iff_not, List.length_map] at h3)
        · refine rn rfl ?_
          refine goal_cond rfl (fun h4 => ?_) (fun h4 => ?_) <;> (try simp only [gt_iff_lt, ge_iff_le, bne_iff_ne, ne_eq, bne_eq_false_iff_eq, beq_iff_eq, beq_eq_false_iff_ne, Bool.not_eq_true', Bool.not_eq_false', decide_eq_true_eq, decide_eq_false_iff_not, List.length_map] at h4)
          · refine rn rfl ?_
            refine cut_ext ?_
            refine rn rfl ?_
            refine round_keep (s.length - (i + 1)) [5, 4, 3, 1] [0, 1] (by omega) rfl ⟨_, i + 1, acc.length, acc, wrap64 (by omega) (by omega), by omega, rfl, rfl, (hskip (by simp [skipP, h3]; right; omega)).symm, rfl⟩
          · refine rn rfl ?_
            exact cut_nrm [6, 5, 4, 3, 1] [0, 1, 2] rfl ⟨by simp [skipP, h1, h3]; omega, rfl⟩
        · refine rn rfl ?_
          exact cut_nrm [6, 5, 4, 3, 1] [0, 1, 2] rfl ⟨by simp [skipP, h1, h3], rfl⟩
    rintro _ ⟨hns, rfl⟩
    refine rt 8 rfl ?_
    refine goal_cutR (fun σ' => σ' = ⟨[(6, .one (.op 2 0 0)), (5, .one (.int .i64 i)), (4, .one (.int .i64 A)), (3, .one (.os 1 0 acc.length acc.length)), (1, .one (.op 0 0 0))],
        [some ⟨3, [ePa ⟨s, f⟩], false, false, true⟩, ownQ acc, some ⟨4, [eQ (kindP (decide (0 ≤ A) && decide (A ≤ i)) x)], false, false, true⟩], []⟩) ?_ ?_
    · have keep : (x.kind == 1 && (decide (0 ≤ A) && decide (A ≤ i))) = false → kindP (decide (0 ≤ A) && decide (A ≤ i)) x = x := fun h0 => by unfold kindP; rw [h0]; rfl
      refine rn rfl ?_
      refine goal_guard rfl rfl rfl (fun h1 => ?_) (fun h1 => ?_) <;> (try simp only [gt_iff_lt, ge_iff_le, bne_iff_ne, ne_eq, bne_eq_false_iff_eq, beq_iff_eq, beq_eq_false_iff_ne, Bool.not_eq_true', Bool.not_eq_false', decide_eq_true_eq, decide_eq_false_iff_not, List.length_map] at h1)
      · refine rn rfl ?_
        refine goal_guard rfl rfl rfl (fun h2 => ?_) (fun h2 => ?_) <;> (try simp only [gt_iff_lt, ge_iff_le, bne_iff_ne, ne_eq, bne_eq_false_iff_eq, beq_iff_eq, beq_eq_false_iff_ne, Bool.not_eq_true', Bool.not_eq_false', decide_eq_true_eq, decide_eq_false_iff_not, List.length_map] at h2)
        · refine rn rfl ?_
          refine goal_cond rfl (fun h3 => ?_) (fun h3 => ?_) <;> (try simp only [gt_iff_lt, ge_iff_le, bne_iff_ne, ne_eq, bne_eq_false_iff_eq, beq_iff_eq, beq_eq_false_iff_ne, Bool.not_eq_true', Bool.not_eq_false', decide_eq_true_eq, decide_eq_false_iff_not, List.length_map] at h3)
          · have hk : kindP (decide (0 ≤ A) && decide (A ≤ i)) x = ⟨x.name, 3, x.hasD, x.dflt⟩ := by unfold kindP; rw [if_pos]; simp [h1]; omega
            rw [hk]
            refine rn rfl ?_
            exact cut_nrm [6, 5, 4, 3, 1] [0, 1, 2] rfl rfl
          · rw [keep (by simp; intros; omega)]
            refine rn rfl ?_
            exact cut_nrm [6, 5, 4, 3, 1] [0, 1, 2] rfl rfl
        · rw [keep (by simp; intros; omega)]
          refine rn rfl ?_
          exact cut_nrm [6, 5, 4, 3, 1] [0, 1, 2] rfl rfl
      · rw [keep (by simp [h1])]
        refine rn rfl ?_
        exact cut_nrm [6, 5, 4, 3, 1] [0, 1, 2] rfl rfl
    rintro _ rfl
    have hpp : partParam A f i x = some (giveP f (kindP (decide (0 ≤ A) && decide (A ≤ i)) x)) := by simp [partParam, hns]
    rw [hpp] at hst
    generalize kindP (decide (0 ≤ A) && decide (A ≤ i)) x = y at hst ⊢
    refine rn rfl ?_
    refine goal_step (step_call [] rfl rfl rfl rfl rfl rfl (spairAt_ct f.named y.name (by omega))) ?_
    rintro σ2 ⟨r, o', ⟨rfl, rfl⟩, hσ⟩
    obtain rfl := Option.some.inj hσ
    clear hσ
    refine rt 11 rfl ?_
    refine goal_cutR (fun σ' => σ' = ⟨[(6, .one (.op 2 0 0)), (5, .one (.int .i64 i)), (4, .one (.int .i64 A)), (3, .one (.os 1 0 acc.length acc.length)), (1, .one (.op 0 0 0))],
        [some ⟨3, [ePa ⟨s, f⟩], false, false, true⟩, ownQ acc, some ⟨4, [eQ (giveP f y)], false, false, true⟩], []⟩) ?_ ?_
    · refine rn rfl ?_
      refine goal_guard rfl rfl rfl (fun h1 => ?_) (fun h1 => ?_) <;> (try simp only [gt_iff_lt, ge_iff_le, bne_iff_ne, ne_eq, bne_eq_false_iff_eq, beq_iff_eq, beq_eq_false_iff_ne, Bool.not_eq_true', Bool.not_eq_false', decide_eq_true_eq, decide_eq_false_iff_not, List.length_map] at h1)
      · obtain ⟨r, hr1, hr2, hr3⟩ := pair_at h1
        refine rn rfl ?_
        refine goal_step (step_call [] rfl rfl rfl rfl rfl rfl (snamed_ct y)) ?_
        rintro σ2 ⟨r, o', ⟨rfl, rfl⟩, hσ⟩
        obtain rfl := Option.some.inj hσ
        clear hσ
        refine rn rfl ?_
        refine goal_cond rfl (fun h2 => ?_) (fun h2 => ?_) <;> (try simp only [gt_iff_lt, ge_iff_le, bne_iff_ne, ne_eq, bne_eq_false_iff_eq, beq_iff_eq, beq_eq_false_iff_ne, Bool.not_eq_true', Bool.not_eq_false', decide_eq_true_eq, decide_eq_false_iff_not, List.length_map] at h2)
        · have hg : giveP f y = ⟨y.name, y.kind, true, r.value⟩ := by unfold giveP; rw [if_pos h2, hr1]
          rw [hg]
          refine rn rfl ?_
          refine goal_did rfl rfl (dA_index (eP r) rfl rfl rfl rfl rfl rfl rfl (by omega) (by (try simp); omega) (map_at (by simpa using hr2)) rfl) ?_
          refine rn rfl ?_
          exact cut_nrm [6, 5, 4, 3, 1] [0, 1, 2] rfl rfl
        · have hg : giveP f y = y := by unfold giveP; rw [if_neg (by simp [h2])]
          rw [hg]
          refine rn rfl ?_
          exact cut_nrm [6, 5, 4, 3, 1] [0, 1, 2] rfl rfl
      · have hg : giveP f y = y := by unfold giveP; rw [pair_none (by omega)]; split <;> rfl
        rw [hg]
        refine rn rfl ?_
        exact cut_nrm [6, 5, 4, 3, 1] [0, 1, 2] rfl rfl
    rintro _ rfl
    generalize giveP f y = z at hst ⊢
    refine rn rfl ?_
    refine goal_did rfl rfl (dA_append (old := (acc).map eQ) (rows := ([z] : List Param).map eQ) (((acc) ++ ([z] : List Param)).map eQ) (acc.length + 1) true (Dst.own rfl rfl rfl rfl rfl (by first | (simp; done) | (simp; omega)) (whole (by first | (simp; done) | (simp; omega)))) (Src.os rfl rfl (Nat.le_refl 1) rfl) rfl rfl rfl rfl rfl rfl rfl rfl (rows_len eQ_len _) (rows_len eQ_len _) (by (try simp only [List.length_map, List.length_append, List.length_cons, List.length_nil, List.length_take, List.length_drop]); show _ * 40 ≤ _; omega) (by first | (simp; done) | (simp; omega)) (by simp) (by first | (simp; done) | (simp; omega)) (fun _ => noOwnR_map _ eQ_noOwn _)) ?_
    refine rn rfl ?_
    refine round_keep (s.length - (i + 1)) [5, 4, 3, 1] [0, 4] (by omega) rfl ⟨_, i + 1, acc.length + 1, acc ++ [z], wrap64 (by omega) (by omega), by omega, rfl, by simp, by rw [hst]; rfl, rfl⟩
  · refine rn rfl (round_ext ?_)
    refine rn rfl (fin_is [] rfl ⟨?_, rfl⟩)
    rw [takeAll eQ _ _ rfl, hacc, show i = s.length by omega, List.take_length]

def psQ (s : Sig) (f : Flat) : Sig := psL (atQ s f) f s

def PsF (s : Sig) (f : Flat) : Sig × Bool := if partQ s f && okSig (psQ s f) then (psQ s f, true) else ([], false)

theorem spartialSig_ct (s : Sig) (f : Flat) (hp : LenPa ⟨s, f⟩) : ACalls pk 108 [.agg (ePa ⟨s, f⟩)] [] (fun r o => r = .tup [.agg (eG (PsF s f).1), .one (.bool (PsF s f).2)] ∧ o = []) := by
  obtain ⟨s1, s2⟩ := hp.sig
  have hv : ACalls pk 115 [.agg (ePa ⟨s, f⟩)] [] (fun r o => r = .one (.bool (partQ s f)) ∧ o = []) := svalidPartial_ct s f hp.sig hp.flat
  simp only at s1 s2
  refine acalls_of_body Tryz.func108 rfl (by kernel_rfl) rfl ?_
  refine rn rfl ?_
  refine goal_step (step_call [] rfl rfl rfl rfl rfl rfl (hv)) ?_
  rintro σ2 ⟨r, o', ⟨rfl, rfl⟩, hσ⟩
  obtain rfl := Option.some.inj hσ
  clear hσ
  refine rn rfl ?_
  refine goal_cond rfl (fun h => ?_) (fun h => ?_) <;> (try simp only [gt_iff_lt, ge_iff_le, bne_iff_ne, ne_eq, bne_eq_false_iff_eq, beq_iff_eq, beq_eq_false_iff_ne, Bool.not_eq_true', Bool.not_eq_false', decide_eq_true_eq, decide_eq_false_iff_not, List.length_map] at h)
  · refine rn rfl (fin_is [] rfl ⟨?_, rfl⟩)
    simp [PsF, h]; rfl
  have hq := h
  simp only [partQ, Bool.and_eq_true, decide_eq_true_eq] at hq
  obtain ⟨hs, hf⟩ := fitQ_iff.1 hq.1
  have hlen := hs.len
  have hl := psL_len (atQ s f) f s
  refine rn rfl ?_
  refine goal_step (step_call [] rfl rfl rfl rfl rfl rfl (partialParams_ct s f hp (by omega))) ?_
  rintro σ2 ⟨r, o', ⟨rfl, rfl⟩, hσ⟩
  obtain rfl := Option.some.inj hσ
  clear hσ
  refine rn rfl ?_
  refine goal_step (step_call [] rfl rfl rfl rfl rfl rfl (checkedSig_ct (psQ s f) (by show (psL _ _ _).length ≤ _; omega) (psL_names s2))) ?_
  rintro σ2 ⟨r, o', ⟨rfl, rfl⟩, hσ⟩
  obtain rfl := Option.some.inj hσ
  clear hσ
  refine rn rfl ?_
  refine rn rfl (fin_is [] rfl ⟨?_, rfl⟩)
  have e : PsF s f = checkG (psQ s f) := by unfold PsF checkG; simp [h]
  rw [e]; rfl

theorem partFlat_ct (bs : Str) (k : Int) (s : Sig) (hs : SmallS s) (hb : bs.length ≤ 2000) (hk : 0 ≤ k) (hk' : k ≤ 1073600000) :
    ACalls pk 174 [.one (.op 0 0 0), .agg (eG s)] [oR bs k] (fun r o => ∃ f k', MidF f 24 8 ∧ k ≤ k' ∧ k' ≤ k + 210 ∧ r = .agg (eF f) ∧ o = [oR bs k']) := by
  have hsl := hs.len
  have hsn : ∀ p ∈ s, p.name.length ≤ 9223372036854775807 := fun p hp => by have := hs.names p hp; omega
  refine acalls_of_body Tryz.func174 rfl (by kernel_rfl) rfl ?_
  refine rt 2 rfl ?_
  refine goal_cutR (fun σ' => ∃ (f : Flat) (k1 : Int), MidF f 24 8 ∧ k ≤ k1 ∧ k1 ≤ k + 200 ∧ σ' = ⟨[(5, .one (.op 3 0 0)), (4, .one (.op 2 0 0)), (0, .one (.op 0 0 0))], [oR bs k1, some ⟨1, [eG s], false, false, true⟩, some ⟨2, [[.fs [], .fs []]], false, false, true⟩, some ⟨2, [eF f], false, false, true⟩], []⟩) ?_ ?_
  · refine rn rfl ?_
    refine goal_step (step_call [] rfl rfl rfl rfl rfl rfl (svalidSig_ct s (by omega) hsn)) ?_
    rintro σ2 ⟨r, o', ⟨rfl, rfl⟩, hσ⟩
    obtain rfl := Option.some.inj hσ
    clear hσ
    refine rn rfl ?_
    refine goal_cond rfl (fun h1 => ?_) (fun h1 => ?_) <;> (try simp only [gt_iff_lt, ge_iff_le, bne_iff_ne, ne_eq, bne_eq_false_iff_eq, beq_iff_eq, beq_eq_false_iff_ne, Bool.not_eq_true', Bool.not_eq_false', decide_eq_true_eq, decide_eq_false_iff_not, List.length_map] at h1)
    · refine rn rfl ?_
      refine goal_step (step_callE [0] rfl rfl rfl rfl rfl rfl rfl (callFor_ct bs k s (okSig_iff.1 h1) hb hk (by omega))) ?_
      rintro σ2 ⟨r, o', ⟨f, k1, hf, hk1, hk2, rfl, rfl⟩, hσ⟩
      obtain rfl := Option.some.inj hσ
      clear hσ
      refine rn rfl ?_
      exact cut_nrm [5, 4, 0] [1, 2, 3] rfl ⟨f, k1, hf, hk1, hk2, rfl⟩
    · refine rn rfl ?_
      exact cut_nrm [5, 4, 0] [1, 2, 3] rfl ⟨zF, k, ⟨by simp [zF], by simp [zF], by simp [zF]⟩, by omega, by omega, rfl⟩
  rintro _ ⟨f, k1, hf, hk1, hk2, rfl⟩
  have hf1 := hf.places
  have hf2 := hf.named
  refine rt 4 rfl ?_
  refine goal_cutR (fun σ' => ∃ (g : Flat) (k2 : Int), MidF g 24 8 ∧ k1 ≤ k2 ∧ k2 ≤ k1 + 2 ∧ σ' = ⟨[(5, .one (.op 3 0 0)), (4, .one (.op 2 0 0)), (0, .one (.op 0 0 0))], [oR bs k2, some ⟨1, [eG s], false, false, true⟩, some ⟨2, [[.fs [], .fs []]], false, false, true⟩, some ⟨2, [eF g], false, false, true⟩], []⟩) ?_ ?_
  · refine rn rfl ?_
    refine goal_guard rfl rfl rfl (fun h1 => ?_) (fun h1 => ?_) <;> (try simp only [gt_iff_lt, ge_iff_le, bne_iff_ne, ne_eq, bne_eq_false_iff_eq, beq_iff_eq, beq_eq_false_iff_ne, Bool.not_eq_true', Bool.not_eq_false', decide_eq_true_eq, decide_eq_false_iff_not, List.length_map] at h1)
    · refine rn rfl ?_
      refine goal_step (step_callE [0] rfl rfl rfl rfl rfl rfl (rfl) (pick_ct bs k1 2 hb (by omega) (by omega) (by omega))) ?_
      rintro σ2 ⟨r, o', ⟨⟨z, rfl, _, _⟩, rfl⟩, hσ⟩
      obtain rfl := Option.some.inj hσ
      clear hσ
      refine rn rfl ?_
      refine goal_cond rfl (fun h2 => ?_) (fun h2 => ?_) <;> (try simp only [gt_iff_lt, ge_iff_le, bne_iff_ne, ne_eq, bne_eq_false_iff_eq, beq_iff_eq, beq_eq_false_iff_ne, Bool.not_eq_true', Bool.not_eq_false', decide_eq_true_eq, decide_eq_false_iff_not, List.length_map] at h2)
      · refine rn rfl ?_
        refine goal_drawL [3] [9] 10 rfl ?_
        refine drnL [0, 1, 2, 3, 4, 5] (by kernel_rfl) (by kernel_rfl) rfl rfl ?_
        refine AHL_one (i := 6) (by kernel_rfl) rfl (step_callE [0] rfl rfl rfl rfl rfl rfl (rfl) (pick_ct bs (k1 + 1) (f.places.map eI).length hb (by omega) (by omega) (by simp; omega))) (by simp) ?_
        rintro σ2 ⟨r, o', ⟨⟨y, rfl, hy, _⟩, rfl⟩, hσ⟩
        obtain rfl := Option.some.inj hσ
        clear hσ
        have hy' := hy (by simp; omega)
        simp only [List.length_map] at hy'
        obtain ⟨j, rfl⟩ : ∃ j : Nat, y = j := ⟨y.toNat, by omega⟩
        refine AHL_did 7 rfl (by kernel_rfl) (by kernel_rfl) (by kernel_rfl) (by kernel_rfl) rfl rfl (dA_slice 0 j ((f.places.take j).map eI) rfl rfl rfl rfl rfl Bnd.none_ (Bnd.some_ rfl rfl) (rows_len eI_len _) (by omega) (by simp; omega) rfl (by simp)) ?_
        refine drnL [8] (by kernel_rfl) (by kernel_rfl) rfl rfl ?_
        refine AHL_lateDid 9 rfl (by kernel_rfl) rfl rfl (dA_step rfl) ?_
        refine AH_end (by kernel_rfl) ?_
        refine rn rfl ?_
        exact cut_nrm [5, 4, 0] [1, 2, 3] rfl ⟨⟨f.places.take j, f.named⟩, k1 + 1 + 1, ⟨by simp; omega, hf2, hf.names⟩, by omega, by omega, rfl⟩
      · refine rn rfl ?_
        exact cut_nrm [5, 4, 0] [1, 2, 3] rfl ⟨f, k1 + 1, hf, by omega, by omega, rfl⟩
    · refine rn rfl ?_
      exact cut_nrm [5, 4, 0] [1, 2, 3] rfl ⟨f, k1, hf, by omega, by omega, rfl⟩
  rintro _ ⟨g, k2, hg, hk3, hk4, rfl⟩
  have hg1 := hg.places
  have hg2 := hg.named
  refine rt 6 rfl ?_
  refine goal_cutR (fun σ' => ∃ (f' : Flat) (k3 : Int), MidF f' 24 8 ∧ k2 ≤ k3 ∧ k3 ≤ k2 + 1 ∧ σ' = ⟨[(5, .one (.op 3 0 0)), (4, .one (.op 2 0 0)), (0, .one (.op 0 0 0))], [oR bs k3, some ⟨1, [eG s], false, false, true⟩, some ⟨2, [[.fs [], .fs []]], false, false, true⟩, some ⟨2, [eF f'], false, false, true⟩], []⟩) ?_ ?_
  · refine rn rfl ?_
    refine goal_guard rfl rfl rfl (fun h1 => ?_) (fun h1 => ?_) <;> (try simp only [gt_iff_lt, ge_iff_le, bne_iff_ne, ne_eq, bne_eq_false_iff_eq, beq_iff_eq, beq_eq_false_iff_ne, Bool.not_eq_true', Bool.not_eq_false', decide_eq_true_eq, decide_eq_false_iff_not, List.length_map] at h1)
    · refine rn rfl ?_
      refine goal_step (step_callE [0] rfl rfl rfl rfl rfl rfl (rfl) (pick_ct bs k2 2 hb (by omega) (by omega) (by omega))) ?_
      rintro σ2 ⟨r, o', ⟨⟨z, rfl, _, _⟩, rfl⟩, hσ⟩
      obtain rfl := Option.some.inj hσ
      clear hσ
      refine rn rfl ?_
      refine goal_cond rfl (fun h2 => ?_) (fun h2 => ?_) <;> (try simp only [gt_iff_lt, ge_iff_le, bne_iff_ne, ne_eq, bne_eq_false_iff_eq, beq_iff_eq, beq_eq_false_iff_ne, Bool.not_eq_true', Bool.not_eq_false', decide_eq_true_eq, decide_eq_false_iff_not, List.length_map] at h2)
      · refine rn rfl ?_
        refine goal_did rfl rfl (dA_slice 1 g.named.length ((g.named.drop 1).map eP) rfl rfl rfl rfl rfl (Bnd.some_ rfl rfl) (by simp [Bnd]) (rows_len eP_len _) (by omega) (by simp) rfl (by simp [List.take_of_length_le])) ?_
        refine rn rfl ?_
        exact cut_nrm [5, 4, 0] [1, 2, 3] rfl ⟨⟨g.places, g.named.drop 1⟩, k2 + 1, ⟨hg1, by simp; omega, fun p hp => hg.names p (List.mem_of_mem_drop hp)⟩, by omega, by omega, rfl⟩
      · refine rn rfl ?_
        exact cut_nrm [5, 4, 0] [1, 2, 3] rfl ⟨g, k2 + 1, hg, by omega, by omega, rfl⟩
    · refine rn rfl ?_
      exact cut_nrm [5, 4, 0] [1, 2, 3] rfl ⟨g, k2, hg, by omega, by omega, rfl⟩
  rintro _ ⟨f', k3, hf', hk5, hk6, rfl⟩
  exact rn rfl (fin_is [] rfl ⟨f', k3, hf', by omega, by omega, rfl, rfl⟩)

theorem somePartial_ct (bs : Str) (k : Int) (hb : bs.length ≤ 2000) (hk : 0 ≤ k) (hk' : k ≤ 1073500000) :
    ACalls pk 107 [.one (.op 0 0 0)] [oR bs k] (fun r o => ∃ p k', SmallS p.sig ∧ MidF p.flat 24 8 ∧ k ≤ k' ∧ k' ≤ k + 400 ∧ r = .agg (ePa p) ∧ o = [oR bs k']) := by
  refine acalls_of_body Tryz.func107 rfl (by kernel_rfl) rfl ?_
  refine rn rfl ?_
  refine goal_step (step_callE [0] rfl rfl rfl rfl rfl rfl rfl (someSignature_ct bs k hb hk (by omega))) ?_
  rintro σ2 ⟨r, o', ⟨s, k1, hs, hk1, hk2, rfl, rfl⟩, hσ⟩
  obtain rfl := Option.some.inj hσ
  clear hσ
  refine rn rfl ?_
  refine goal_step (step_callE [0] rfl rfl rfl rfl rfl rfl (rfl) (pick_ct bs k1 10 hb (by omega) (by omega) (by omega))) ?_
  rintro σ2 ⟨r, o', ⟨⟨z, rfl, _, _⟩, rfl⟩, hσ⟩
  obtain rfl := Option.some.inj hσ
  clear hσ
  refine rn rfl ?_
  refine goal_cond rfl (fun h1 => ?_) (fun h1 => ?_) <;> (try simp only [gt_iff_lt, ge_iff_le, bne_iff_ne, ne_eq, bne_eq_false_iff_eq, beq_iff_eq, beq_eq_false_iff_ne, Bool.not_eq_true', Bool.not_eq_false', decide_eq_true_eq, decide_eq_false_iff_not, List.length_map] at h1)
  · refine rn rfl ?_
    refine goal_draw' [2] 5 rfl ?_
    refine drn [0, 1] (by kernel_rfl) (by kernel_rfl) rfl rfl ?_
    refine AH_one (i := 2) (by kernel_rfl) (step_callE [0] rfl rfl rfl rfl rfl rfl (rfl) (someFlat_ct bs (k1 + 1) hb (by omega) (by omega))) (by simp) ?_
    rintro σ2 ⟨r, o', ⟨f, k2, hf, hk3, hk4, rfl, rfl⟩, hσ⟩
    obtain rfl := Option.some.inj hσ
    clear hσ
    refine drn [3] (by kernel_rfl) (by kernel_rfl) rfl rfl ?_
    refine AH_oneDid 4 rfl (by kernel_rfl) rfl (dA_step rfl) (mdOk rfl) ?_
    refine AH_end (by kernel_rfl) ?_
    refine rn rfl ?_
    exact rn rfl (fin_is [] rfl ⟨⟨s, f⟩, k2, hs, ⟨Nat.le_trans hf.places (by omega), Nat.le_trans hf.named (by omega), hf.names⟩, by omega, by omega, rfl, rfl⟩)
  · refine rn rfl ?_
    refine goal_draw' [2] 6 rfl ?_
    refine drn [0, 1, 2] (by kernel_rfl) (by kernel_rfl) rfl rfl ?_
    refine AH_one (i := 3) (by kernel_rfl) (step_callE [0] rfl rfl rfl rfl rfl rfl (rfl) (partFlat_ct bs (k1 + 1) s hs hb (by omega) (by omega))) (by simp) ?_
    rintro σ2 ⟨r, o', ⟨f, k2, hf, hk3, hk4, rfl, rfl⟩, hσ⟩
    obtain rfl := Option.some.inj hσ
    clear hσ
    refine drn [4] (by kernel_rfl) (by kernel_rfl) rfl rfl ?_
    refine AH_oneDid 5 rfl (by kernel_rfl) rfl (dA_step rfl) (mdOk rfl) ?_
    refine AH_end (by kernel_rfl) ?_
    refine rn rfl ?_
    exact rn rfl (fin_is [] rfl ⟨⟨s, f⟩, k2, hs, hf, by omega, by omega, rfl, rfl⟩)

theorem SmallS.lenS {s : Sig} (h : SmallS s) : LenS s := ⟨by have := h.len; omega, fun p hp => by have := h.names p hp; omega⟩

theorem MidF.lenF {f : Flat} {a b : Nat} (h : MidF f a b) (ha : a ≤ 1000) (hb : b ≤ 1000) : LenF f := ⟨by have := h.places; omega, by have := h.named; omega, fun p hp => by have := h.names p hp; omega⟩

theorem putPairD_ct (ps : List Pair) (p : Pair) (h : ps.length ≤ 1000) : ACalls pk 111 [.one (.fs (ps.map eP)), .agg (eP p)] [] (fun r o => r = .one (.fs ((spPair ps p).map eP)) ∧ o = []) :=
  (putPair_ct ps p h).told [] (by rintro r o ⟨rfl, rfl⟩; exact ⟨_, _, rfl, congrArg (fun x => T.one (C.fs x)) (takeAll eP _ _ rfl), rfl⟩)

theorem partialCall_ct (bs : Str) (k : Int) (hb : bs.length ≤ 2000) (hk : 0 ≤ k) (hk' : k ≤ 1073400000) :
    ACalls pk 47 [.one (.op 0 0 0)] [oR bs k] (fun r o => ∃ p f k', SmallS p.sig ∧ MidF p.flat 24 8 ∧ MidF f 24 9 ∧ k ≤ k' ∧ k' ≤ k + 700 ∧ r = .tup [.agg (ePa p), .agg (eF f)] ∧ o = [oR bs k']) := by
  refine acalls_of_body Tryz.func47 rfl (by kernel_rfl) rfl ?_
  refine rn rfl ?_
  refine goal_step (step_callE [0] rfl rfl rfl rfl rfl rfl rfl (somePartial_ct bs k hb hk (by omega))) ?_
  rintro σ2 ⟨r, o', ⟨p, k1, hs, hpf, hk1, hk2, rfl, rfl⟩, hσ⟩
  obtain rfl := Option.some.inj hσ
  clear hσ
  have lp : LenPa ⟨p.sig, p.flat⟩ := ⟨hs.lenS, hpf.lenF (by omega) (by omega)⟩
  refine rn rfl ?_
  refine goal_step (step_call [] rfl rfl rfl rfl rfl rfl (spartialSig_ct p.sig p.flat lp)) ?_
  rintro σ2 ⟨r, o', ⟨rfl, rfl⟩, hσ⟩
  obtain rfl := Option.some.inj hσ
  clear hσ
  have hT : (PsF p.sig p.flat).2 = true → OkS (PsF p.sig p.flat).1 := fun h => by
    unfold PsF at h ⊢
    split at h
    · rename_i h1
      rw [if_pos h1]
      simp only [Bool.and_eq_true] at h1
      exact okSig_iff.1 h1.2
    · cases h
  generalize (PsF p.sig p.flat).1 = S at hT ⊢
  generalize (PsF p.sig p.flat).2 = ok at hT ⊢
  refine rt 3 rfl ?_
  refine goal_cutR (fun σ' => ∃ k2 : Int, OkS S ∧ k1 ≤ k2 ∧ k2 ≤ k1 + 1 ∧ σ' = ⟨[(5, .one (.op 4 0 0)), (4, .one (.op 3 0 0)), (3, .one (.op 2 0 0)), (2, .one (.op 1 0 0)), (0, .one (.op 0 0 0))],
    [oR bs k2, some ⟨3, [[.fs [], .fs [], .fs []]], false, false, true⟩, some ⟨2, [[.fs [], .fs []]], false, false, true⟩, some ⟨3, [ePa p], false, false, true⟩, some ⟨1, [eG S], false, false, true⟩], []⟩) ?_ ?_
  · refine rn rfl ?_
    refine goal_guard rfl rfl rfl (fun h1 => ?_) (fun h1 => ?_) <;> (try simp only [gt_iff_lt, ge_iff_le, bne_iff_ne, ne_eq, bne_eq_false_iff_eq, beq_iff_eq, beq_eq_false_iff_ne, Bool.not_eq_true', Bool.not_eq_false', decide_eq_true_eq, decide_eq_false_iff_not, List.length_map] at h1)
    · refine rn rfl ?_
      refine goal_draw' [3] 5 rfl ?_
      refine drn [0, 1] (by kernel_rfl) (by kernel_rfl) rfl rfl ?_
      refine AH_one (i := 2) (by kernel_rfl) (step_callE [0] rfl rfl rfl rfl rfl rfl (rfl) (someFlat_ct bs k1 hb (by omega) (by omega))) (by simp) ?_
      rintro σ2 ⟨r, o', ⟨f, k2, hf, hk3, hk4, rfl, rfl⟩, hσ⟩
      obtain rfl := Option.some.inj hσ
      clear hσ
      refine AH_oneDid 3 rfl (by kernel_rfl) rfl (dA_step rfl) (mdOk rfl) ?_
      refine AH_oneDid 4 rfl (by kernel_rfl) rfl (dA_step rfl) (mdOk rfl) ?_
      refine AH_end (by kernel_rfl) ?_
      refine rn rfl ?_
      refine cut_ret ?_
      exact fin_is [] rfl ⟨p, f, k2, hs, hpf, ⟨Nat.le_trans hf.places (by omega), Nat.le_trans hf.named (by omega), hf.names⟩, by omega, by omega, rfl, rfl⟩
    · refine rn rfl ?_
      refine goal_step (step_callE [0] rfl rfl rfl rfl rfl rfl (rfl) (pick_ct bs k1 6 hb (by omega) (by omega) (by omega))) ?_
      rintro σ2 ⟨r, o', ⟨⟨z, rfl, _, _⟩, rfl⟩, hσ⟩
      obtain rfl := Option.some.inj hσ
      clear hσ
      refine rn rfl ?_
      refine goal_cond rfl (fun h2 => ?_) (fun h2 => ?_) <;> (try simp only [gt_iff_lt, ge_iff_le, bne_iff_ne, ne_eq, bne_eq_false_iff_eq, beq_iff_eq, beq_eq_false_iff_ne, Bool.not_eq_true', Bool.not_eq_false', decide_eq_true_eq, decide_eq_false_iff_not, List.length_map] at h2)
      · refine rn rfl ?_
        refine goal_draw' [3] 5 rfl ?_
        refine drn [0, 1] (by kernel_rfl) (by kernel_rfl) rfl rfl ?_
        refine AH_one (i := 2) (by kernel_rfl) (step_callE [0] rfl rfl rfl rfl rfl rfl (rfl) (someFlat_ct bs (k1 + 1) hb (by omega) (by omega))) (by simp) ?_
        rintro σ2 ⟨r, o', ⟨f, k2, hf, hk3, hk4, rfl, rfl⟩, hσ⟩
        obtain rfl := Option.some.inj hσ
        clear hσ
        refine AH_oneDid 3 rfl (by kernel_rfl) rfl (dA_step rfl) (mdOk rfl) ?_
        refine AH_oneDid 4 rfl (by kernel_rfl) rfl (dA_step rfl) (mdOk rfl) ?_
        refine AH_end (by kernel_rfl) ?_
        refine rn rfl ?_
        refine cut_ret ?_
        exact fin_is [] rfl ⟨p, f, k2, hs, hpf, ⟨Nat.le_trans hf.places (by omega), Nat.le_trans hf.named (by omega), hf.names⟩, by omega, by omega, rfl, rfl⟩
      · refine rn rfl ?_
        exact cut_nrm [5, 4, 3, 2, 0] [1, 2, 3, 4] rfl ⟨k1 + 1, hT (by simpa using h1), by omega, by omega, rfl⟩
  rintro _ ⟨k2, hS, hk3, hk4, rfl⟩
  refine rn rfl ?_
  refine goal_step (step_callE [0] rfl rfl rfl rfl rfl rfl rfl (callFor_ct bs k2 S hS hb (by omega) (by omega))) ?_
  rintro σ2 ⟨r, o', ⟨f, k3, hf, hk5, hk6, rfl, rfl⟩, hσ⟩
  obtain rfl := Option.some.inj hσ
  clear hσ
  have hf2 := hf.named
  refine rn rfl ?_
  refine goal_step (step_callE [0] rfl rfl rfl rfl rfl rfl (rfl) (pick_ct bs k3 5 hb (by omega) (by omega) (by omega))) ?_
  rintro σ2 ⟨r, o', ⟨⟨z, rfl, _, _⟩, rfl⟩, hσ⟩
  obtain rfl := Option.some.inj hσ
  clear hσ
  refine rn rfl ?_
  refine goal_cond rfl (fun h3 => ?_) (fun h3 => ?_) <;> (try simp only [gt_iff_lt, ge_iff_le, bne_iff_ne, ne_eq, bne_eq_false_iff_eq, beq_iff_eq, beq_eq_false_iff_ne, Bool.not_eq_true', Bool.not_eq_false', decide_eq_true_eq, decide_eq_false_iff_not, List.length_map] at h3)
  · refine rn rfl ?_
    refine goal_drawL [3, 5] [9] 10 rfl ?_
    refine drnL [0, 1, 2, 4] (by kernel_rfl) (by kernel_rfl) rfl rfl ?_
    refine AHL_one (i := 3) (by kernel_rfl) rfl (step_callE [0] rfl rfl rfl rfl rfl rfl (rfl) (aName_ct bs (k3 + 1) hb (by omega) (by omega))) (by simp) ?_
    rintro σ2 ⟨r, o', ⟨⟨nm, hnm, rfl⟩, rfl⟩, hσ⟩
    obtain rfl := Option.some.inj hσ
    clear hσ
    refine AHL_one (i := 5) (by kernel_rfl) rfl (step_callE [0] rfl rfl rfl rfl rfl rfl (rfl) (aNumber_ct bs (k3 + 1 + 1) hb (by omega) (by omega))) (by simp) ?_
    rintro σ2 ⟨r, o', ⟨⟨w, _, _, rfl⟩, rfl⟩, hσ⟩
    obtain rfl := Option.some.inj hσ
    clear hσ
    refine drnL [6] (by kernel_rfl) (by kernel_rfl) rfl rfl ?_
    refine AHL_one (i := 7) (by kernel_rfl) rfl (step_call [] rfl rfl rfl rfl rfl rfl (putPairD_ct f.named ⟨nm, w⟩ (by omega))) (by simp) ?_
    rintro σ2 ⟨r, o', ⟨rfl, rfl⟩, hσ⟩
    obtain rfl := Option.some.inj hσ
    clear hσ
    refine drnL [8] (by kernel_rfl) (by kernel_rfl) rfl rfl ?_
    refine AHL_lateDid 9 rfl (by kernel_rfl) rfl rfl (dA_step rfl) ?_
    refine AH_end (by kernel_rfl) ?_
    refine rn rfl ?_
    refine rn rfl ?_
    refine goal_draw' [3, 5] 4 rfl ?_
    refine drn [0, 1] (by kernel_rfl) (by kernel_rfl) rfl rfl ?_
    refine AH_oneDid 2 rfl (by kernel_rfl) rfl (dA_step rfl) (mdOk rfl) ?_
    refine AH_oneDid 3 rfl (by kernel_rfl) rfl (dA_step rfl) (mdOk rfl) ?_
    refine AH_end (by kernel_rfl) ?_
    refine rn rfl ?_
    have hpl : (spPair f.named ⟨nm, w⟩).length ≤ f.named.length + 1 := by rw [spPair_eq]; exact putP_length _ _ _
    refine rn rfl (fin_is [] rfl ⟨p, ⟨f.places, spPair f.named ⟨nm, w⟩⟩, k3 + 1 + 1 + 1, hs, hpf, ⟨hf.places, Nat.le_trans hpl (by omega), fun r hr => ?_⟩, by omega, by omega, rfl, rfl⟩)
    rw [spPair_eq] at hr
    rcases putP_mem hr with h | ⟨q, hq, h⟩
    · rw [h]; exact hnm
    · rw [h]; exact hf.names q hq
  · refine rn rfl ?_
    refine goal_draw' [3, 5] 4 rfl ?_
    refine drn [0, 1] (by kernel_rfl) (by kernel_rfl) rfl rfl ?_
    refine AH_oneDid 2 rfl (by kernel_rfl) rfl (dA_step rfl) (mdOk rfl) ?_
    refine AH_oneDid 3 rfl (by kernel_rfl) rfl (dA_step rfl) (mdOk rfl) ?_
    refine AH_end (by kernel_rfl) ?_
    refine rn rfl ?_
    exact rn rfl (fin_is [] rfl ⟨p, f, k3 + 1, hs, hpf, ⟨hf.places, by omega, hf.names⟩, by omega, by omega, rfl, rfl⟩)

theorem eqParam_b (x : Param) : eqCells (eQ x) (eQ x) = some true := by
  simp [eqCells, eQ, eqCell, eqKind]

theorem equalSigSelf_ct (s : Sig) (h : s.length ≤ 2097152) : ACalls pk 53 [.agg (eG s), .agg (eG s)] [] (fun r o => r = .one (.bool true) ∧ o = []) := by
  refine acalls_of_body Tryz.func53 rfl (by kernel_rfl) rfl ?_
  refine rn rfl ?_
  refine goal_cond rfl (fun h0 => by simp at h0) (fun _ => ?_)
  refine rn rfl ?_
  refine goal_loop_keep (fun m σ => ∃ (n : Int) (i : Nat), n = i ∧ i ≤ s.length ∧ m = s.length - i ∧
      σ = ⟨[(5, .one (.int .i64 n)), (3, .one (.op 1 0 0)), (2, .one (.op 0 0 0))], [some ⟨1, [eG s], false, false, true⟩, some ⟨1, [eG s], false, false, true⟩], []⟩) s.length [5, 3, 2] [0, 1] rfl
    ⟨_, 0, rfl, by omega, by omega, rfl⟩ ?_
  rintro m σ ⟨n, i, rfl, hi, rfl, rfl⟩
  refine rn rfl ?_
  refine goal_cond rfl (fun hc => ?_) (fun hc => ?_) <;> (try simp only [gt_iff_lt, ge_iff_le, bne_iff_ne, ne_eq, bne_eq_false_iff_eq, beq_iff_eq, beq_eq_false_iff_ne, Bool.not_eq_true', Bool.not_eq_false', decide_eq_true_eq, decide_eq_false_iff_not, List.length_map] at hc)
  · obtain ⟨x, hx⟩ := at_some (xs := s) (i := i) (by omega)
    refine rn rfl ?_
    refine goal_draw' [0, 1] 11 rfl ?_
    refine drn [0, 1, 2, 5, 6, 7] (by kernel_rfl) (by kernel_rfl) rfl rfl ?_
    refine AH_did 3 rfl (by kernel_rfl) (by kernel_rfl) (by kernel_rfl) rfl rfl (dA_index (eQ x) rfl rfl rfl rfl rfl rfl rfl (by omega) (by (try simp); omega) (map_at (by simpa using hx)) rfl) ?_
    refine drn [4] (by kernel_rfl) (by kernel_rfl) rfl rfl ?_
    refine AH_did 8 rfl (by kernel_rfl) (by kernel_rfl) (by kernel_rfl) rfl rfl (dA_index (eQ x) rfl rfl rfl rfl rfl rfl rfl (by omega) (by (try simp); omega) (map_at (by simpa using hx)) rfl) ?_
    refine drn [9] (by kernel_rfl) (by kernel_rfl) rfl rfl ?_
    refine AH_did 10 rfl (by kernel_rfl) (by kernel_rfl) (by kernel_rfl) rfl rfl (dA_eqStruct (b := true) false (.inr ⟨rfl, rfl⟩) rfl rfl rfl rfl rfl rfl (eqParam_b x) (by kernel_rfl) (by kernel_rfl) (by kernel_rfl) rfl) ?_
    refine AH_end (by kernel_rfl) ?_
    refine rn rfl ?_
    refine goal_cond rfl (fun h0 => by cases h0) (fun _ => ?_)
    refine rn rfl ?_
    refine round_keep (s.length - (i + 1)) [5, 3, 2] [0, 1] (by omega) rfl ⟨_, i + 1, wrap64 (by omega) (by omega), by omega, rfl, rfl⟩
  · refine rn rfl (round_ext ?_)
    exact rn rfl (fin_is [] rfl ⟨rfl, rfl⟩)

def FullF (p : Part) (f : Flat) : Flat × Bool := if partQ p.sig p.flat then OverF p.flat f else (zF, false)

structure LenP (p : Part) : Prop where
  sig : LenS p.sig
  flat : LenF p.flat

theorem partQ_flat {s : Sig} {f : Flat} (h : partQ s f = true) : okFlat f = true := by
  simp only [partQ, Bool.and_eq_true] at h
  exact okFlat_iff.2 (fitQ_iff.1 h.1).2

theorem iover_o (f g : Flat) (hf : LenF f) (hg : LenF g) : ACalls pk 12 [.agg (eF f), .agg (eF g)] [] (fun r o => r = .tup [rF (OverF f g).1, .one (.bool (OverF f g).2)] ∧ o = oF (OverF f g).1) := iover_ct f g hf hg

theorem ifull_ct (p : Part) (f : Flat) (hp : LenP p) (hf : LenF f) : ACalls pk 49 [.agg (ePa p), .agg (eF f)] [] (fun r o => r = .tup [rF (FullF p f).1, .one (.bool (FullF p f).2)] ∧ o = oF (FullF p f).1) := by
  refine acalls_of_body Tryz.func49 rfl (by kernel_rfl) rfl ?_
  refine rn rfl ?_
  refine goal_step (step_call [] rfl rfl rfl rfl rfl rfl (ivalidPartial_ct p.sig p.flat hp.sig hp.flat)) ?_
  rintro σ2 ⟨r, o', ⟨rfl, rfl⟩, hσ⟩
  obtain rfl := Option.some.inj hσ
  clear hσ
  refine rn rfl ?_
  refine goal_cond rfl (fun h => ?_) (fun h => ?_) <;> (try simp only [gt_iff_lt, ge_iff_le, bne_iff_ne, ne_eq, bne_eq_false_iff_eq, beq_iff_eq, beq_eq_false_iff_ne, Bool.not_eq_true', Bool.not_eq_false', decide_eq_true_eq, decide_eq_false_iff_not, List.length_map] at h)
  · refine rn rfl ?_
    refine fin_weak (Weak.adoptO 2 0 1) (fin_weak (Weak.adoptO 2 1 2) (fin_is [3, 4] rfl ⟨?_, ?_⟩))
    · simp [FullF, h]; rfl
    · simp [FullF, h]; rfl
  · refine rn rfl ?_
    refine goal_step (step_call [] rfl rfl rfl rfl rfl rfl (iover_o p.flat f hp.flat hf)) ?_
    rintro σ2 ⟨r, o', ⟨rfl, rfl⟩, hσ⟩
    obtain rfl := Option.some.inj hσ
    clear hσ
    refine rn rfl ?_
    refine rn rfl (fin_is [3, 4] rfl ⟨?_, ?_⟩)
    · simp only [FullF, h, if_true]; rfl
    · simp only [FullF, h, if_true]; rfl

theorem ifullD_ct (p : Part) (f : Flat) (hp : LenP p) (hf : LenF f) : ACalls pk 49 [.agg (ePa p), .agg (eF f)] [] (fun r o => r = .tup [.agg (eF (FullF p f).1), .one (.bool (FullF p f).2)] ∧ o = []) :=
  (ifull_ct p f hp hf).told [] (by rintro r o ⟨rfl, rfl⟩; exact ⟨_, _, rfl, tellF _ _, rfl⟩)

theorem sfull_ct (p : Part) (f : Flat) (hp : LenP p) (hf : LenF f) : ACalls pk 51 [.agg (ePa p), .agg (eF f)] [] (fun r o => r = .tup [.agg (eF (FullF p f).1), .one (.bool (FullF p f).2)] ∧ o = []) := by
  have b1 := hf.places
  have b2 := hf.named
  refine acalls_of_body Tryz.func51 rfl (by kernel_rfl) rfl ?_
  refine rn rfl ?_
  refine goal_step (step_call [] rfl rfl rfl rfl rfl rfl (svalidPartial_ct p.sig p.flat hp.sig hp.flat)) ?_
  rintro σ2 ⟨r, o', ⟨rfl, rfl⟩, hσ⟩
  obtain rfl := Option.some.inj hσ
  clear hσ
  refine rn rfl ?_
  refine goal_guard rfl rfl rfl (fun h => ?_) (fun h => ?_) <;> (try simp only [gt_iff_lt, ge_iff_le, bne_iff_ne, ne_eq, bne_eq_false_iff_eq, beq_iff_eq, beq_eq_false_iff_ne, Bool.not_eq_true', Bool.not_eq_false', decide_eq_true_eq, decide_eq_false_iff_not, List.length_map] at h)
  · refine rn rfl (fin_is [] rfl ⟨?_, rfl⟩)
    simp [FullF, h]; rfl
  refine rn rfl ?_
  refine goal_step (step_call [] rfl rfl rfl rfl rfl rfl (svalidFlat_ct f (by omega) (by omega) hf.names)) ?_
  rintro σ2 ⟨r, o', ⟨rfl, rfl⟩, hσ⟩
  obtain rfl := Option.some.inj hσ
  clear hσ
  refine rn rfl ?_
  refine goal_cond rfl (fun h2 => ?_) (fun h2 => ?_) <;> (try simp only [gt_iff_lt, ge_iff_le, bne_iff_ne, ne_eq, bne_eq_false_iff_eq, beq_iff_eq, beq_eq_false_iff_ne, Bool.not_eq_true', Bool.not_eq_false', decide_eq_true_eq, decide_eq_false_iff_not, List.length_map] at h2)
  · refine rn rfl (fin_is [] rfl ⟨?_, rfl⟩)
    simp [FullF, h, OverF, h2]; rfl
  have hq := partQ_flat h
  have hF := okFlat_iff.1 hq
  have hG := okFlat_iff.1 h2
  have ho : FullF p f = checkF (overQ p.flat f) true := by unfold FullF; rw [if_pos h]; unfold OverF; rw [if_pos (by simp [hq, h2, okFlat_iff.2 hF, okFlat_iff.2 hG])]
  obtain ⟨l1, l2, l3⟩ := hp.flat.over hf
  rw [ho]
  refine rn rfl ?_
  refine goal_step (step_call [] rfl rfl rfl rfl rfl rfl (sover_ct p.flat f hp.flat hf (by have := hF.named; omega) (by have := hG.named; omega))) ?_
  rintro σ2 ⟨r, o', ⟨rfl, rfl⟩, hσ⟩
  obtain rfl := Option.some.inj hσ
  clear hσ
  refine rn rfl ?_
  refine goal_step (step_call [] rfl rfl rfl rfl rfl rfl (checkedFlat_ct (overQ p.flat f) l1 l2 l3)) ?_
  rintro σ2 ⟨r, o', ⟨rfl, rfl⟩, hσ⟩
  obtain rfl := Option.some.inj hσ
  clear hσ
  refine rn rfl ?_
  exact rn rfl (fin_is [] rfl ⟨rfl, rfl⟩)

theorem full_names {p : Part} {f : Flat} : LenF (FullF p f).1 := by
  unfold FullF OverF checkF
  split
  · split
    · split
      · rename_i h
        simp only [Bool.true_and] at h
        exact (okFlat_iff.1 h).len
      · exact ⟨by simp [zF], by simp [zF], by simp [zF]⟩
    · exact ⟨by simp [zF], by simp [zF], by simp [zF]⟩
  · exact ⟨by simp [zF], by simp [zF], by simp [zF]⟩

def putR : List Pair → Str → Int → List Pair
  | [], n, v => [⟨n, v⟩]
  | p :: ps, n, v => if p.name = n then ⟨p.name, v⟩ :: ps else p :: putR ps n v

theorem putR_pos {p : Pair} {ps : List Pair} {n : Str} {v : Int} (h : p.name = n) : putR (p :: ps) n v = ⟨p.name, v⟩ :: ps := if_pos h

theorem putR_neg {p : Pair} {ps : List Pair} {n : Str} {v : Int} (h : ¬ p.name = n) : putR (p :: ps) n v = p :: putR ps n v := if_neg h

theorem putP_eq : ∀ (ps : List Pair) (n : Str) (v : Int), putP ps n v = putR ps n v
  | [], n, v => rfl
  | p :: ps, n, v => by
    have ih := putP_eq ps n v
    unfold putP at ih ⊢
    unfold putR
    by_cases h : p.name = n
    · have h1 : nameIs n p = true := by simp [nameIs, h]
      rw [if_pos h]
      simp [List.any_cons, h1, List.findIdx_cons]
    · have h1 : nameIs n p = false := by simp [nameIs, h]
      rw [if_neg h, ← ih]
      simp only [List.any_cons, h1, Bool.false_or, List.findIdx_cons, cond_false]
      split
      · rfl
      · rfl

theorem putR_twice : ∀ (ps : List Pair) (n : Str) (v w : Int), putR (putR ps n w) n v = putR ps n v
  | [], n, v, w => by simp [putR]
  | p :: ps, n, v, w => by
    by_cases h : p.name = n
    · simp [putR, h]
    · simp only [putR, h, if_false, putR_twice ps n v w]

theorem putR_comm : ∀ (ps : List Pair) (n m : Str) (v w : Int), n ≠ m → n ∈ namesOf ps → putR (putR ps m w) n v = putR (putR ps n v) m w
  | [], n, m, v, w, hne, hm => by simp [namesOf] at hm
  | p :: ps, n, m, v, w, hne, hm => by
    by_cases h : p.name = n
    · have h2 : ¬ p.name = m := fun h0 => hne (h.symm.trans h0)
      simp only [putR, h, if_true, hne, if_false]
    · by_cases h2 : p.name = m
      · rw [putR_pos h2, putR_neg (p := ⟨p.name, w⟩) h, putR_neg h, putR_pos h2]
      · have hm' : n ∈ namesOf ps := by
          simp only [namesOf, List.map_cons, List.mem_cons] at hm
          rcases hm with hm | hm
          · exact absurd hm.symm h
          · exact hm
        simp only [putR, h, h2, if_false, putR_comm ps n m v w hne hm']

theorem putR_names (n : Str) (v : Int) (x : Str) : ∀ ps : List Pair, x ∈ namesOf (putR ps n v) ↔ x ∈ namesOf ps ∨ x = n
  | [] => by simp [putR, namesOf]
  | p :: ps => by
    by_cases h : p.name = n
    · simp only [putR, h, if_true, namesOf, List.map_cons, List.mem_cons]
      constructor
      · rintro (h1 | h1)
        · exact .inr h1
        · exact .inl (.inr h1)
      · rintro ((h1 | h1) | h1)
        · exact .inl h1
        · exact .inr h1
        · exact .inl h1
    · have ih := putR_names n v x ps
      simp only [putR, h, if_false, namesOf, List.map_cons, List.mem_cons] at ih ⊢
      rw [ih]; simp only [or_assoc]

theorem putR_nodup (n : Str) (v : Int) : ∀ ps : List Pair, (namesOf ps).Nodup → (namesOf (putR ps n v)).Nodup
  | [], _ => by simp [putR, namesOf]
  | p :: ps, hd => by
    by_cases h : p.name = n
    · have : namesOf (putR (p :: ps) n v) = namesOf (p :: ps) := by simp [putR, h, namesOf]
      rw [this]; exact hd
    · have h1 : namesOf (putR (p :: ps) n v) = p.name :: namesOf (putR ps n v) := by simp [putR, h, namesOf]
      have h2 : namesOf (p :: ps) = p.name :: namesOf ps := rfl
      rw [h2, List.nodup_cons] at hd
      rw [h1, List.nodup_cons]
      refine ⟨fun h0 => ?_, putR_nodup n v ps hd.2⟩
      rcases (putR_names n v p.name ps).1 h0 with h3 | h3
      · exact hd.1 h3
      · exact h h3

theorem overN_cons (a : List Pair) (q : Pair) (b : List Pair) : overN a (q :: b) = overN (putR a q.name q.value) b := by
  unfold overN; rw [List.foldl_cons, putP_eq]

theorem putR_over (n : Str) (v : Int) : ∀ (b X : List Pair), n ∈ namesOf X → n ∉ namesOf b → putR (overN X b) n v = overN (putR X n v) b
  | [], X, _, _ => rfl
  | q :: b, X, hX, hb => by
    have hb' : n ≠ q.name ∧ n ∉ namesOf b := by simpa [namesOf] using hb
    rw [overN_cons, overN_cons, putR_over n v b _ ((putR_names ..).2 (.inl hX)) hb'.2, putR_comm X n q.name v q.value hb'.1 hX]

theorem over_put (n : Str) (v : Int) : ∀ (b a : List Pair), (namesOf b).Nodup → putR (overN a b) n v = overN a (putR b n v)
  | [], a, _ => by rw [show putR [] n v = [⟨n, v⟩] from rfl, overN_cons]; rfl
  | q :: b, a, hd => by
    have h2 : namesOf (q :: b) = q.name :: namesOf b := rfl
    rw [h2, List.nodup_cons] at hd
    by_cases h : q.name = n
    · subst h
      have h1 : putR (q :: b) q.name v = ⟨q.name, v⟩ :: b := by simp [putR]
      rw [h1, overN_cons, overN_cons, putR_over _ _ b _ ((putR_names ..).2 (.inr rfl)) hd.1, putR_twice]
    · have h1 : putR (q :: b) n v = q :: putR b n v := by simp [putR, h]
      rw [h1, overN_cons, overN_cons, over_put n v b _ hd.2]

theorem overN_assoc : ∀ (c a b : List Pair), (namesOf b).Nodup → overN (overN a b) c = overN a (overN b c)
  | [], a, b, _ => rfl
  | q :: c, a, b, hd => by
    rw [overN_cons, overN_cons, over_put _ _ b a hd, overN_assoc c a _ (putR_nodup _ _ b hd)]

theorem over_assoc (f g h : Flat) (hg : (namesOf g.named).Nodup) : overQ (overQ f g) h = overQ f (overQ g h) := by
  simp only [overQ, List.append_assoc, overN_assoc h.named f.named g.named hg]

def zPa : Part := ⟨[], zF⟩

def PofF (s : Sig) (f : Flat) : Part × Bool := if partQ s f then (⟨s, f⟩, true) else (zPa, false)

def ExtF (p : Part) (f : Flat) : Part × Bool := if (FullF p f).2 then PofF p.sig (FullF p f).1 else (zPa, false)

def CallF (p : Part) (f : Flat) : Bnds × Bool := if (FullF p f).2 then BindQ p.sig (FullF p f).1 else ([], false)

theorem PofF_ok {s : Sig} {f : Flat} (h : (PofF s f).2 = true) : partQ s f = true ∧ PofF s f = (⟨s, f⟩, true) := by
  unfold PofF at h ⊢
  split at h
  · rename_i h1; exact ⟨h1, by rw [if_pos h1]⟩
  · cases h

theorem ipartialOf_ct (s : Sig) (f : Flat) (hs : LenS s) (hf : LenF f) : ACalls pk 50 [.agg (eG s), .agg (eF f)] [] (fun r o => r = .tup [rPa (PofF s f).1, .one (.bool (PofF s f).2)] ∧ o = oPa (PofF s f).1) := by
  obtain ⟨s1, s2⟩ := hs
  have f1 := hf.places
  have f2 := hf.named
  refine acalls_of_body Tryz.func50 rfl (by kernel_rfl) rfl ?_
  refine rn rfl ?_
  refine goal_step (step_call [] rfl rfl rfl rfl rfl rfl (ivalidPartial_ct s f ⟨s1, s2⟩ hf)) ?_
  rintro σ2 ⟨r, o', ⟨rfl, rfl⟩, hσ⟩
  obtain rfl := Option.some.inj hσ
  clear hσ
  refine rn rfl ?_
  refine goal_cond rfl (fun h => ?_) (fun h => ?_) <;> (try simp only [gt_iff_lt, ge_iff_le, bne_iff_ne, ne_eq, bne_eq_false_iff_eq, beq_iff_eq, beq_eq_false_iff_ne, Bool.not_eq_true', Bool.not_eq_false', decide_eq_true_eq, decide_eq_false_iff_not, List.length_map] at h)
  · have hz : PofF s f = (zPa, false) := by simp [PofF, h]
    rw [hz]
    refine rn rfl ?_
    exact fin_weak (Weak.adoptO 2 0 4) (fin_weak (Weak.adoptO 2 1 1) (fin_weak (Weak.adoptO 2 2 2) (fin_is [3, 4, 5] rfl ⟨rfl, rfl⟩)))
  · have hz : PofF s f = (⟨s, f⟩, true) := by simp [PofF, h]
    rw [hz]
    refine rn rfl ?_
    refine goal_draw' [0, 1] 7 rfl ?_
    refine drn [0, 2] (by kernel_rfl) (by kernel_rfl) rfl rfl ?_
    refine AH_one (i := 1) (by kernel_rfl) (step_call [] rfl rfl rfl rfl rfl rfl (icopySig_ct s (by omega))) (by simp) ?_
    rintro σ2 ⟨r, o', ⟨rfl, rfl⟩, hσ⟩
    obtain rfl := Option.some.inj hσ
    clear hσ
    refine AH_one (i := 3) (by kernel_rfl) (step_call [] rfl rfl rfl rfl rfl rfl (copyOf_ct f (by omega) (by omega))) (by simp) ?_
    rintro σ2 ⟨r, o', ⟨rfl, rfl⟩, hσ⟩
    obtain rfl := Option.some.inj hσ
    clear hσ
    refine drn [4] (by kernel_rfl) (by kernel_rfl) rfl rfl ?_
    refine AH_oneDid 5 rfl (by kernel_rfl) rfl (dA_step rfl) (mdOk rfl) ?_
    refine drn [6] (by kernel_rfl) (by kernel_rfl) rfl rfl ?_
    refine AH_end (by kernel_rfl) ?_
    refine rn rfl ?_
    exact rn rfl (fin_is [3, 4, 5] rfl ⟨rfl, rfl⟩)

theorem spartialOf_ct (s : Sig) (f : Flat) (hs : LenS s) (hf : LenF f) : ACalls pk 52 [.agg (eG s), .agg (eF f)] [] (fun r o => r = .tup [rPa (PofF s f).1, .one (.bool (PofF s f).2)] ∧ o = oPa (PofF s f).1) := by
  obtain ⟨s1, s2⟩ := hs
  have f1 := hf.places
  have f2 := hf.named
  refine acalls_of_body Tryz.func52 rfl (by kernel_rfl) rfl ?_
  refine rn rfl ?_
  refine goal_step (step_call [] rfl rfl rfl rfl rfl rfl (svalidPartial_ct s f ⟨s1, s2⟩ hf)) ?_
  rintro σ2 ⟨r, o', ⟨rfl, rfl⟩, hσ⟩
  obtain rfl := Option.some.inj hσ
  clear hσ
  refine rn rfl ?_
  refine goal_cond rfl (fun h => ?_) (fun h => ?_) <;> (try simp only [gt_iff_lt, ge_iff_le, bne_iff_ne, ne_eq, bne_eq_false_iff_eq, beq_iff_eq, beq_eq_false_iff_ne, Bool.not_eq_true', Bool.not_eq_false', decide_eq_true_eq, decide_eq_false_iff_not, List.length_map] at h)
  · have hz : PofF s f = (zPa, false) := by simp [PofF, h]
    rw [hz]
    refine rn rfl ?_
    exact fin_weak (Weak.adoptO 2 0 4) (fin_weak (Weak.adoptO 2 1 1) (fin_weak (Weak.adoptO 2 2 2) (fin_is [4, 5, 6] rfl ⟨rfl, rfl⟩)))
  · have hz : PofF s f = (⟨s, f⟩, true) := by simp [PofF, h]
    rw [hz]
    refine rn rfl ?_
    refine goal_draw' [0, 1] 9 rfl ?_
    refine drn [0, 1, 4] (by kernel_rfl) (by kernel_rfl) rfl rfl ?_
    refine AH_one (i := 2) (by kernel_rfl) (step_call [] rfl rfl rfl rfl rfl rfl (copyParams_ct s (by omega))) (by simp) ?_
    rintro σ2 ⟨r, o', ⟨rfl, rfl⟩, hσ⟩
    obtain rfl := Option.some.inj hσ
    clear hσ
    refine drn [3] (by kernel_rfl) (by kernel_rfl) rfl rfl ?_
    refine AH_one (i := 5) (by kernel_rfl) (step_call [] rfl rfl rfl rfl rfl rfl (copyFlat_ct f (by omega) (by omega))) (by simp) ?_
    rintro σ2 ⟨r, o', ⟨rfl, rfl⟩, hσ⟩
    obtain rfl := Option.some.inj hσ
    clear hσ
    refine drn [6] (by kernel_rfl) (by kernel_rfl) rfl rfl ?_
    refine AH_oneDid 7 rfl (by kernel_rfl) rfl (dA_step rfl) (mdOk rfl) ?_
    refine drn [8] (by kernel_rfl) (by kernel_rfl) rfl rfl ?_
    refine AH_end (by kernel_rfl) ?_
    refine rn rfl ?_
    exact rn rfl (fin_is [4, 5, 6] rfl ⟨rfl, rfl⟩)

theorem tellPa (p : Part) (b : Bool) : T.tup [T.agg [C.fs (List.take p.sig.length (List.drop 0 (p.sig.map eQ))), C.fs (List.take p.flat.places.length (List.drop 0 (p.flat.places.map eI))), C.fs (List.take p.flat.named.length (List.drop 0 (p.flat.named.map eP)))], .one (.bool b)] = .tup [.agg (ePa p), .one (.bool b)] := by
  rw [asPa]

theorem iext_ct (p : Part) (f : Flat) (hp : LenP p) (hf : LenF f) : ACalls pk 9 [.agg (ePa p), .agg (eF f)] [] (fun r o => r = .tup [rPa (ExtF p f).1, .one (.bool (ExtF p f).2)] ∧ o = oPa (ExtF p f).1) := by
  have lg := full_names (p := p) (f := f)
  have hE : ExtF p f = if (FullF p f).2 then PofF p.sig (FullF p f).1 else (zPa, false) := rfl
  have hI := ifullD_ct p f hp hf
  rw [hE]
  generalize (FullF p f).1 = G at *
  generalize (FullF p f).2 = b at *
  refine acalls_of_body Tryz.func9 rfl (by kernel_rfl) rfl ?_
  refine rn rfl ?_
  refine goal_step (step_call [] rfl rfl rfl rfl rfl rfl (hI)) ?_
  rintro σ2 ⟨r, o', ⟨rfl, rfl⟩, hσ⟩
  obtain rfl := Option.some.inj hσ
  clear hσ
  refine rn rfl ?_
  refine goal_cond rfl (fun h => ?_) (fun h => ?_) <;> (try simp only [gt_iff_lt, ge_iff_le, bne_iff_ne, ne_eq, bne_eq_false_iff_eq, beq_iff_eq, beq_eq_false_iff_ne, Bool.not_eq_true', Bool.not_eq_false', decide_eq_true_eq, decide_eq_false_iff_not, List.length_map] at h)
  · subst h
    refine rn rfl ?_
    exact fin_weak (Weak.adoptO 2 0 4) (fin_weak (Weak.adoptO 2 1 1) (fin_weak (Weak.adoptO 2 2 2) (fin_is [4, 5, 6] rfl ⟨rfl, rfl⟩)))
  · subst h
    refine rn rfl ?_
    refine goal_step (step_call [] rfl rfl rfl rfl rfl rfl (ipartialOf_ct p.sig G hp.sig lg)) ?_
    rintro σ2 ⟨r, o', ⟨rfl, rfl⟩, hσ⟩
    obtain rfl := Option.some.inj hσ
    clear hσ
    refine rn rfl ?_
    exact rn rfl (fin_is [4, 5, 6] rfl ⟨rfl, rfl⟩)

theorem iextD_ct (p : Part) (f : Flat) (hp : LenP p) (hf : LenF f) : ACalls pk 9 [.agg (ePa p), .agg (eF f)] [] (fun r o => r = .tup [.agg (ePa (ExtF p f).1), .one (.bool (ExtF p f).2)] ∧ o = []) :=
  (iext_ct p f hp hf).told [] (by rintro r o ⟨rfl, rfl⟩; exact ⟨_, _, rfl, tellPa _ _, rfl⟩)

theorem spartialOfD_ct (s : Sig) (f : Flat) (hs : LenS s) (hf : LenF f) : ACalls pk 52 [.agg (eG s), .agg (eF f)] [] (fun r o => r = .tup [.agg (ePa (PofF s f).1), .one (.bool (PofF s f).2)] ∧ o = []) :=
  (spartialOf_ct s f hs hf).told [] (by rintro r o ⟨rfl, rfl⟩; exact ⟨_, _, rfl, tellPa _ _, rfl⟩)

theorem sext_ct (p : Part) (f : Flat) (hp : LenP p) (hf : LenF f) : ACalls pk 10 [.agg (ePa p), .agg (eF f)] [] (fun r o => r = .tup [.agg (ePa (ExtF p f).1), .one (.bool (ExtF p f).2)] ∧ o = []) := by
  have lg := full_names (p := p) (f := f)
  have hE : ExtF p f = if (FullF p f).2 then PofF p.sig (FullF p f).1 else (zPa, false) := rfl
  have hI := sfull_ct p f hp hf
  rw [hE]
  generalize (FullF p f).1 = G at *
  generalize (FullF p f).2 = b at *
  refine acalls_of_body Tryz.func10 rfl (by kernel_rfl) rfl ?_
  refine rn rfl ?_
  refine goal_step (step_call [] rfl rfl rfl rfl rfl rfl (hI)) ?_
  rintro σ2 ⟨r, o', ⟨rfl, rfl⟩, hσ⟩
  obtain rfl := Option.some.inj hσ
  clear hσ
  refine rn rfl ?_
  refine goal_cond rfl (fun h => ?_) (fun h => ?_) <;> (try simp only [gt_iff_lt, ge_iff_le, bne_iff_ne, ne_eq, bne_eq_false_iff_eq, beq_iff_eq, beq_eq_false_iff_ne, Bool.not_eq_true', Bool.not_eq_false', decide_eq_true_eq, decide_eq_false_iff_not, List.length_map] at h)
  · subst h
    exact rn rfl (fin_is [] rfl ⟨rfl, rfl⟩)
  · subst h
    refine rn rfl ?_
    refine goal_step (step_call [] rfl rfl rfl rfl rfl rfl (spartialOfD_ct p.sig G hp.sig lg)) ?_
    rintro σ2 ⟨r, o', ⟨rfl, rfl⟩, hσ⟩
    obtain rfl := Option.some.inj hσ
    clear hσ
    refine rn rfl ?_
    exact rn rfl (fin_is [] rfl ⟨rfl, rfl⟩)

theorem icallPart_ct (p : Part) (f : Flat) (hp : LenP p) (hf : LenF f) : ACalls pk 13 [.agg (ePa p), .agg (eF f)] [] (fun r o => r = .tup [.agg (eBi (CallF p f).1), .one (.bool (CallF p f).2)] ∧ o = []) := by
  have lg := full_names (p := p) (f := f)
  have hE : CallF p f = if (FullF p f).2 then BindQ p.sig (FullF p f).1 else ([], false) := rfl
  have hI := ifullD_ct p f hp hf
  rw [hE]
  generalize (FullF p f).1 = G at *
  generalize (FullF p f).2 = b at *
  refine acalls_of_body Tryz.func13 rfl (by kernel_rfl) rfl ?_
  refine rn rfl ?_
  refine goal_step (step_call [] rfl rfl rfl rfl rfl rfl (hI)) ?_
  rintro σ2 ⟨r, o', ⟨rfl, rfl⟩, hσ⟩
  obtain rfl := Option.some.inj hσ
  clear hσ
  refine rn rfl ?_
  refine goal_cond rfl (fun h => ?_) (fun h => ?_) <;> (try simp only [gt_iff_lt, ge_iff_le, bne_iff_ne, ne_eq, bne_eq_false_iff_eq, beq_iff_eq, beq_eq_false_iff_ne, Bool.not_eq_true', Bool.not_eq_false', decide_eq_true_eq, decide_eq_false_iff_not, List.length_map] at h)
  · subst h
    exact rn rfl (fin_is [] rfl ⟨rfl, rfl⟩)
  · subst h
    refine rn rfl ?_
    refine goal_step (step_call [] rfl rfl rfl rfl rfl rfl (iBindD_ct p.sig G hp.sig lg)) ?_
    rintro σ2 ⟨r, o', ⟨rfl, rfl⟩, hσ⟩
    obtain rfl := Option.some.inj hσ
    clear hσ
    refine rn rfl ?_
    exact rn rfl (fin_is [] rfl ⟨rfl, rfl⟩)

theorem equalPart_ct (p : Part) (h0 : p.sig.length ≤ 2097152) (h1 : p.flat.places.length ≤ 2097152) (h2 : p.flat.named.length ≤ 2097152) : ACalls pk 11 [.agg (ePa p), .agg (ePa p)] [] (fun r o => r = .one (.bool true) ∧ o = []) := by
  refine acalls_of_body Tryz.func11 rfl (by kernel_rfl) rfl ?_
  refine rn rfl ?_
  refine goal_step (step_call [] rfl rfl rfl rfl rfl rfl (equalSigSelf_ct p.sig h0)) ?_
  rintro σ2 ⟨r, o', ⟨rfl, rfl⟩, hσ⟩
  obtain rfl := Option.some.inj hσ
  clear hσ
  refine rn rfl ?_
  refine goal_guard rfl rfl rfl (fun _ => ?_) (fun h => by cases h)
  refine rn rfl ?_
  refine goal_step (step_call [] rfl rfl rfl rfl rfl rfl (equalFlat_ct p.flat p.flat (by omega) (by omega))) ?_
  rintro σ2 ⟨r, o', ⟨rfl, rfl⟩, hσ⟩
  obtain rfl := Option.some.inj hσ
  clear hσ
  refine rn rfl ?_
  refine rn rfl (fin_is [] rfl ⟨?_, rfl⟩)
  simp

theorem equalBi_ct (b : Bnds) (hb : b.length ≤ 1048576) (hl : ∀ x ∈ b, x.list.length ≤ 1048576 ∧ x.pairs.length ≤ 1048576) : ACalls pk 14 [.agg (eBi b), .agg (eBi b)] [] (fun r o => r = .one (.bool true) ∧ o = []) := by
  refine acalls_of_body Tryz.func14 rfl (by kernel_rfl) rfl ?_
  refine rn rfl ?_
  refine goal_cond rfl (fun h => by simp at h) (fun _ => ?_)
  refine rn rfl ?_
  refine goal_loop_keep (fun m σ => ∃ (n : Int) (i : Nat), n = i ∧ i ≤ b.length ∧ m = b.length - i ∧
      σ = ⟨[(5, .one (.int .i64 n)), (3, .one (.op 1 0 0)), (2, .one (.op 0 0 0))], [some ⟨1, [eBi b], false, false, true⟩, some ⟨1, [eBi b], false, false, true⟩], []⟩) b.length [5, 3, 2] [0, 1] rfl
    ⟨_, 0, rfl, by omega, by omega, rfl⟩ ?_
  rintro m σ ⟨n, i, rfl, hi, rfl, rfl⟩
  refine rn rfl ?_
  refine goal_cond rfl (fun hc => ?_) (fun hc => ?_) <;> (try simp only [gt_iff_lt, ge_iff_le, bne_iff_ne, ne_eq, bne_eq_false_iff_eq, beq_iff_eq, beq_eq_false_iff_ne, Bool.not_eq_true', Bool.not_eq_false', decide_eq_true_eq, decide_eq_false_iff_not, List.length_map] at hc)
  · obtain ⟨x, hx⟩ := at_some (xs := b) (i := i) (by omega)
    obtain ⟨l1, l2⟩ := hl x (List.mem_of_getElem? hx)
    refine rn rfl ?_
    refine goal_did rfl rfl (dA_index (eL x) rfl rfl rfl rfl rfl rfl rfl (by omega) (by (try simp); omega) (map_at (by simpa using hx)) rfl) ?_
    refine rn rfl ?_
    refine goal_did rfl rfl (dA_index (eL x) rfl rfl rfl rfl rfl rfl rfl (by omega) (by (try simp); omega) (map_at (by simpa using hx)) rfl) ?_
    refine rn rfl ?_
    refine goal_guard rfl rfl rfl (fun h => by simp at h) (fun _ => ?_)
    refine rn rfl ?_
    refine goal_step (step_call [] rfl rfl rfl rfl rfl rfl (equalInts_ct x.list x.list (by omega))) ?_
    rintro σ2 ⟨r, o', ⟨rfl, rfl⟩, hσ⟩
    obtain rfl := Option.some.inj hσ
    clear hσ
    refine rn rfl ?_
    refine goal_guard rfl rfl rfl (fun h => by simp at h) (fun _ => ?_)
    refine rn rfl ?_
    refine goal_step (step_call [] rfl rfl rfl rfl rfl rfl (equalPairs_ct x.pairs x.pairs (by omega))) ?_
    rintro σ2 ⟨r, o', ⟨rfl, rfl⟩, hσ⟩
    obtain rfl := Option.some.inj hσ
    clear hσ
    refine rn rfl ?_
    refine goal_cond rfl (fun h => by simp at h) (fun _ => ?_)
    refine rn rfl ?_
    refine round_keep (b.length - (i + 1)) [5, 3, 2] [0, 1] (by omega) rfl ⟨_, i + 1, wrap64 (by omega) (by omega), by omega, rfl, rfl⟩
  · refine rn rfl (round_ext ?_)
    exact rn rfl (fin_is [] rfl ⟨rfl, rfl⟩)

theorem place1_small (np : Nat) (pl : List Int) (i : Nat) (p : Param) (h : pl.length ≤ 8) : (place1 np pl i p).list.length ≤ 8 ∧ (place1 np pl i p).pairs.length ≤ 8 := by
  unfold place1
  split
  · simp
  · split
    · simp; omega
    · simp [zL]

theorem bind_small (s : Sig) (f : Flat) : (BindQ s f).1.length ≤ 8 ∧ ∀ x ∈ (BindQ s f).1, x.list.length ≤ 8 ∧ x.pairs.length ≤ 8 := by
  unfold BindQ
  split
  · rename_i h
    simp only [Bool.and_eq_true] at h
    obtain ⟨hs, hf⟩ := fitQ_iff.1 h.1
    have h1 := hf.places
    have h2 := hf.named
    rw [bound_closed hs hf.nodup]
    refine ⟨by simp only [closedQ, List.length_mapIdx]; exact hs.len, fun x hx => ?_⟩
    simp only [closedQ, List.mem_mapIdx] at hx
    obtain ⟨i, hi, rfl⟩ := hx
    unfold giveQ
    split
    · have := List.length_filter_le (fun q : Pair => takesQ s q.name == (i : Int)) f.named
      simp; omega
    · split
      · split <;> simp [zL]
      · exact place1_small _ _ _ _ h1
  · simp

theorem full_ok {p : Part} {f : Flat} (h : (FullF p f).2 = true) : partQ p.sig p.flat = true ∧ okFlat p.flat = true ∧ okFlat f = true ∧ okFlat (overQ p.flat f) = true ∧ (FullF p f).1 = overQ p.flat f := by
  unfold FullF at h ⊢
  split at h
  · rename_i hp
    unfold OverF at h ⊢
    split at h
    · rename_i hff
      simp only [Bool.and_eq_true] at hff
      unfold checkF at h ⊢
      split at h
      · rename_i ho
        simp only [Bool.true_and] at ho
        refine ⟨hp, hff.1, hff.2, ho, ?_⟩
        rw [if_pos hp, if_pos (by simp [hff]), if_pos (by simp [ho])]
      · cases h
    · cases h
  · cases h

theorem over_ok {f g : Flat} (h : (OverF f g).2 = true) : okFlat f = true ∧ okFlat g = true ∧ okFlat (overQ f g) = true ∧ (OverF f g).1 = overQ f g := by
  unfold OverF at h ⊢
  split at h
  · rename_i hff
    simp only [Bool.and_eq_true] at hff
    unfold checkF at h ⊢
    split at h
    · rename_i ho
      simp only [Bool.true_and] at ho
      refine ⟨hff.1, hff.2, ho, ?_⟩
      rw [if_pos (by simp [hff]), if_pos (by simp [ho])]
    · cases h
  · cases h

theorem ext_law {p : Part} {f g : Flat} (h : (ExtF p f).2 = true) (hg : (OverF f g).2 = true) :
    CallF (ExtF p f).1 g = CallF p (OverF f g).1 ∧ partQ (ExtF p f).1.sig (ExtF p f).1.flat = true := by
  unfold ExtF at h ⊢
  split at h
  · rename_i hf
    obtain ⟨h1, h2, h3, h4, h5⟩ := full_ok hf
    obtain ⟨h6, h7⟩ := PofF_ok h
    rw [if_pos hf, h7]
    obtain ⟨g1, g2, g3, g4⟩ := over_ok hg
    refine ⟨?_, h6⟩
    rw [h5] at h6 ⊢
    rw [g4]
    have e1 : FullF ⟨p.sig, overQ p.flat f⟩ g = checkF (overQ (overQ p.flat f) g) true := by
      unfold FullF; rw [if_pos h6]; unfold OverF; rw [if_pos (by simp [h4, g2])]
    have e2 : FullF p (overQ f g) = checkF (overQ (overQ p.flat f) g) true := by
      unfold FullF; rw [if_pos h1]; unfold OverF; rw [if_pos (by simp [h2, g3]), over_assoc _ _ _ (okFlat_iff.1 g1).nodup]
    unfold CallF
    rw [e1, e2]
  · cases h

theorem drawExtendPartial_ct (bs : Str) : ACalls pk 8 [.one (.fs (bs.map rowB))] [] (fun r o => ∃ p f, SmallS p.sig ∧ MidF p.flat 24 8 ∧ MidF f 24 9 ∧ r = .tup [.agg (ePa p), .agg (eF f)] ∧ o = []) := by
  have hb : (bs.take 2000).length ≤ 2000 := by simp; omega
  refine acalls_of_body Tryz.func8 rfl (by kernel_rfl) rfl ?_
  refine rn rfl ?_
  refine goal_step (step_call [] rfl rfl rfl rfl rfl rfl (newReader_ct bs)) ?_
  rintro σ2 ⟨r, o', ⟨rfl, rfl⟩, hσ⟩
  obtain rfl := Option.some.inj hσ
  clear hσ
  refine rn rfl ?_
  refine goal_step (step_callE [2] rfl rfl rfl rfl rfl rfl rfl (partialCall_ct (bs.take 2000) 0 hb (by omega) (by omega))) ?_
  rintro σ2 ⟨r, o', ⟨p, f, k1, hs, hp, hf, hk1, hk2, rfl, rfl⟩, hσ⟩
  obtain rfl := Option.some.inj hσ
  clear hσ
  have hf2 := hf.named
  refine rn rfl ?_
  refine goal_guard rfl rfl rfl (fun h1 => ?_) (fun h1 => ?_) <;> (try simp only [gt_iff_lt, ge_iff_le, bne_iff_ne, ne_eq, bne_eq_false_iff_eq, beq_iff_eq, beq_eq_false_iff_ne, Bool.not_eq_true', Bool.not_eq_false', decide_eq_true_eq, decide_eq_false_iff_not, List.length_map] at h1)
  · refine rn rfl ?_
    refine goal_step (step_callE [2] rfl rfl rfl rfl rfl rfl (rfl) (pick_ct (bs.take 2000) k1 2 hb (by omega) (by omega) (by omega))) ?_
    rintro σ2 ⟨r, o', ⟨⟨z, rfl, _, _⟩, rfl⟩, hσ⟩
    obtain rfl := Option.some.inj hσ
    clear hσ
    refine rn rfl ?_
    refine goal_cond rfl (fun h2 => ?_) (fun h2 => ?_) <;> (try simp only [gt_iff_lt, ge_iff_le, bne_iff_ne, ne_eq, bne_eq_false_iff_eq, beq_iff_eq, beq_eq_false_iff_ne, Bool.not_eq_true', Bool.not_eq_false', decide_eq_true_eq, decide_eq_false_iff_not, List.length_map] at h2)
    · refine rn rfl ?_
      refine goal_did rfl rfl (dA_slice 1 f.named.length ((f.named.drop 1).map eP) rfl rfl rfl rfl rfl (Bnd.some_ rfl rfl) (by simp [Bnd]) (rows_len eP_len _) (by omega) (by simp) rfl (by simp [List.take_of_length_le])) ?_
      refine rn rfl ?_
      refine goal_draw' [3, 4] 4 rfl ?_
      refine drn [0, 1] (by kernel_rfl) (by kernel_rfl) rfl rfl ?_
      refine AH_oneDid 2 rfl (by kernel_rfl) rfl (dA_step rfl) (mdOk rfl) ?_
      refine AH_oneDid 3 rfl (by kernel_rfl) rfl (dA_step rfl) (mdOk rfl) ?_
      refine AH_end (by kernel_rfl) ?_
      refine rn rfl ?_
      exact rn rfl (fin_is [] rfl ⟨p, ⟨f.places, f.named.drop 1⟩, hs, hp, ⟨hf.places, by simp; omega, fun q hq => hf.names q (List.mem_of_mem_drop hq)⟩, rfl, rfl⟩)
    · refine rn rfl ?_
      refine goal_draw' [3, 4] 4 rfl ?_
      refine drn [0, 1] (by kernel_rfl) (by kernel_rfl) rfl rfl ?_
      refine AH_oneDid 2 rfl (by kernel_rfl) rfl (dA_step rfl) (mdOk rfl) ?_
      refine AH_oneDid 3 rfl (by kernel_rfl) rfl (dA_step rfl) (mdOk rfl) ?_
      refine AH_end (by kernel_rfl) ?_
      refine rn rfl ?_
      exact rn rfl (fin_is [] rfl ⟨p, f, hs, hp, hf, rfl, rfl⟩)
  · refine rn rfl ?_
    refine goal_draw' [3, 4] 4 rfl ?_
    refine drn [0, 1] (by kernel_rfl) (by kernel_rfl) rfl rfl ?_
    refine AH_oneDid 2 rfl (by kernel_rfl) rfl (dA_step rfl) (mdOk rfl) ?_
    refine AH_oneDid 3 rfl (by kernel_rfl) rfl (dA_step rfl) (mdOk rfl) ?_
    refine AH_end (by kernel_rfl) ?_
    refine rn rfl ?_
    exact rn rfl (fin_is [] rfl ⟨p, f, hs, hp, hf, rfl, rfl⟩)

def gB : Flat := ⟨[4], [⟨[98], 6⟩]⟩

theorem ext_len (p : Part) (f : Flat) (hp : LenP p) : LenP (ExtF p f).1 ∧ (ExtF p f).1.sig.length ≤ 1048576 ∧ (ExtF p f).1.flat.places.length ≤ 1048576 ∧ (ExtF p f).1.flat.named.length ≤ 1048576 := by
  have hz : LenP zPa ∧ zPa.sig.length ≤ 1048576 ∧ zPa.flat.places.length ≤ 1048576 ∧ zPa.flat.named.length ≤ 1048576 := by
    refine ⟨⟨⟨by simp [zPa], by simp [zPa]⟩, ⟨by simp [zPa, zF], by simp [zPa, zF], by simp [zPa, zF]⟩⟩, by simp [zPa], by simp [zPa, zF], by simp [zPa, zF]⟩
  have lg := full_names (p := p) (f := f)
  have ls := hp.sig
  unfold ExtF
  split
  · unfold PofF
    split
    · obtain ⟨s1, s2⟩ := ls
      have g1 := lg.places
      have g2 := lg.named
      exact ⟨⟨⟨s1, s2⟩, lg⟩, s1, by show (FullF p f).1.places.length ≤ _; omega, by show (FullF p f).1.named.length ≤ _; omega⟩
    · exact hz
  · exact hz

theorem fnExtendPartial_ct (bs : Str) (hl : bs.length ≤ 9223372036854775807) : ACalls pk 3 [.one (.fs (bs.map rowB))] [] (fun r o => r = .one (.bool true) ∧ o = []) := by
  refine acalls_of_body Tryz.func3 rfl (by kernel_rfl) rfl ?_
  refine rn rfl ?_
  refine goal_cond rfl (fun h => ?_) (fun h => ?_) <;> (try simp only [gt_iff_lt, ge_iff_le, bne_iff_ne, ne_eq, bne_eq_false_iff_eq, beq_iff_eq, beq_eq_false_iff_ne, Bool.not_eq_true', Bool.not_eq_false', decide_eq_true_eq, decide_eq_false_iff_not, List.length_map] at h)
  · exact rn rfl (fin_is [] rfl ⟨rfl, rfl⟩)
  · refine rn rfl ?_
    refine goal_step (step_call [] rfl rfl rfl rfl rfl rfl (drawExtendPartial_ct bs)) ?_
    rintro σ2 ⟨r, o', ⟨p, f, hs, hpf, hf, rfl, rfl⟩, hσ⟩
    obtain rfl := Option.some.inj hσ
    clear hσ
    have lp : LenP p := ⟨hs.lenS, hpf.lenF (by omega) (by omega)⟩
    have lf : LenF f := hf.lenF (by omega) (by omega)
    obtain ⟨lE, e1, e2, e3⟩ := ext_len p f lp
    have hI := iextD_ct p f lp lf
    have hS := sext_ct p f lp lf
    have hlaw := fun h => ext_law (p := p) (f := f) (g := gB) h
    generalize (ExtF p f).1 = E at *
    generalize (ExtF p f).2 = ok at *
    refine rn rfl ?_
    refine goal_step (step_call [] rfl rfl rfl rfl rfl rfl (hI)) ?_
    rintro σ2 ⟨r, o', ⟨rfl, rfl⟩, hσ⟩
    obtain rfl := Option.some.inj hσ
    clear hσ
    refine rn rfl ?_
    refine rn rfl ?_
    refine goal_step (step_call [] rfl rfl rfl rfl rfl rfl (hS)) ?_
    rintro σ2 ⟨r, o', ⟨rfl, rfl⟩, hσ⟩
    obtain rfl := Option.some.inj hσ
    clear hσ
    refine rn rfl ?_
    refine rn rfl ?_
    refine goal_step (step_call [] rfl rfl rfl rfl rfl rfl (equalPart_ct E (by omega) (by omega) (by omega))) ?_
    rintro σ2 ⟨r, o', ⟨rfl, rfl⟩, hσ⟩
    obtain rfl := Option.some.inj hσ
    clear hσ
    refine rn rfl ?_
    refine goal_guard rfl rfl rfl (fun h1 => by cases h1) (fun _ => ?_)
    refine rn rfl ?_
    refine goal_guard rfl rfl rfl (fun h2 => by simp at h2) (fun _ => ?_)
    refine rn rfl ?_
    refine goal_cond rfl (fun h3 => ?_) (fun h3 => ?_)
    · refine rn rfl ?_
      refine goal_step (step_call [] rfl rfl rfl rfl rfl rfl (equalPart_ct E (by omega) (by omega) (by omega))) ?_
      rintro σ2 ⟨r, o', ⟨rfl, rfl⟩, hσ⟩
      obtain rfl := Option.some.inj hσ
      clear hσ
      refine rn rfl ?_
      refine goal_guard rfl rfl rfl (fun _ => ?_) (fun h4 => by cases h4)
      refine rn rfl (fin_is [] rfl ⟨?_, rfl⟩)
      simp
    · have hok : ok = true := by simpa using h3
      have lgB : LenF gB := ⟨by simp [gB], by simp [gB], by simp [gB]⟩
      have hO := iover_d f gB lf lgB
      have lO : (OverF f gB).2 = true → LenF (OverF f gB).1 := fun h => by
        obtain ⟨_, _, h3, h4⟩ := over_ok h
        rw [h4]
        exact (okFlat_iff.1 h3).len
      have hlaw' := hlaw hok
      generalize (OverF f gB).1 = both at *
      generalize (OverF f gB).2 = fine at *
      refine rn rfl ?_
      refine goal_step (step_call [] rfl rfl rfl rfl rfl rfl (hO)) ?_
      rintro σ2 ⟨r, o', ⟨rfl, rfl⟩, hσ⟩
      obtain rfl := Option.some.inj hσ
      clear hσ
      refine rn rfl ?_
      refine goal_cond rfl (fun h5 => ?_) (fun h5 => ?_) <;> (try simp only [gt_iff_lt, ge_iff_le, bne_iff_ne, ne_eq, bne_eq_false_iff_eq, beq_iff_eq, beq_eq_false_iff_ne, Bool.not_eq_true', Bool.not_eq_false', decide_eq_true_eq, decide_eq_false_iff_not, List.length_map] at h5)
      · exact rn rfl (fin_is [] rfl ⟨rfl, rfl⟩)
      · have hfine : fine = true := by simpa using h5
        obtain ⟨hEq, hP⟩ := hlaw' hfine
        have hC1 := icallPart_ct E gB lE lgB
        have hC2 := icallPart_ct p both lp (lO hfine)
        rw [hEq] at hC1
        have hB : (CallF p both).1.length ≤ 8 ∧ ∀ x ∈ (CallF p both).1, x.list.length ≤ 8 ∧ x.pairs.length ≤ 8 := by
          unfold CallF
          split
          · exact bind_small _ _
          · simp
        generalize (CallF p both).1 = B at *
        generalize (CallF p both).2 = b at *
        refine rn rfl ?_
        refine goal_step (step_call [] rfl rfl rfl rfl rfl rfl (hC1)) ?_
        rintro σ2 ⟨r, o', ⟨rfl, rfl⟩, hσ⟩
        obtain rfl := Option.some.inj hσ
        clear hσ
        refine rn rfl ?_
        refine rn rfl ?_
        refine goal_step (step_call [] rfl rfl rfl rfl rfl rfl (hC2)) ?_
        rintro σ2 ⟨r, o', ⟨rfl, rfl⟩, hσ⟩
        obtain rfl := Option.some.inj hσ
        clear hσ
        refine rn rfl ?_
        refine rn rfl ?_
        refine goal_guard rfl rfl rfl (fun _ => ?_) (fun h6 => by simp at h6)
        refine rn rfl ?_
        refine goal_step (step_call [] rfl rfl rfl rfl rfl rfl (equalBi_ct B (by omega) (fun x hx => ⟨by have := (hB.2 x hx).1; omega, by have := (hB.2 x hx).2; omega⟩))) ?_
        rintro σ2 ⟨r, o', ⟨rfl, rfl⟩, hσ⟩
        obtain rfl := Option.some.inj hσ
        clear hσ
        refine rn rfl ?_
        refine goal_guard rfl rfl rfl (fun _ => ?_) (fun h6 => by cases h6)
        refine rn rfl ?_
        refine goal_step (step_call [] rfl rfl rfl rfl rfl rfl (ivalidPartial_ct E.sig E.flat lE.sig lE.flat)) ?_
        rintro σ2 ⟨r, o', ⟨rfl, rfl⟩, hσ⟩
        obtain rfl := Option.some.inj hσ
        clear hσ
        refine rn rfl ?_
        rw [hP]
        exact rn rfl (fin_is [] rfl ⟨rfl, rfl⟩)

end Go.Proofs.YtekdhmddibfidaaGreat
