/- Part 4 of the proof: an abstract machine over the model; contracts of the functions that the law reaches. -/
import Derived.Test.YtekdhmddibfidabGreatKVPart3
set_option linter.unusedVariables false
set_option linter.unusedSimpArgs false
namespace Go.Proofs.YtekdhmddibfidabGreat
open Go
set_option maxRecDepth 100000
set_option maxHeartbeats 1000000

/-- A flat of a draw: not long, its names short. -/
structure MidF (f : Flat) (a b : Nat) : Prop where
  places : f.places.length ≤ a
  named : f.named.length ≤ b
  names : ∀ p ∈ f.named, p.name.length ≤ 7

theorem callFor_ct (bs : Str) (k : Int) (s : Sig) (hs : OkS s) (hb : bs.length ≤ 2000) (hk : 0 ≤ k) (hk' : k ≤ 1073700000) :
    ACalls pk 62 [.one (.op 0 0 0), .agg (eG s)] [oR bs k] (fun r o => ∃ f k', MidF f 24 8 ∧ k ≤ k' ∧ k' ≤ k + 200 ∧ r = .agg (eF f) ∧ o = [oR bs k']) := by
  have hsl := hs.len
  have hP := placesQ_le s
  have hw0 : IntKind.i64.wrap ((placesQ s : Int) + 1) = (placesQ s : Int) + 1 := wrap64 (by omega) (by omega)
  refine acalls_of_body Tryz.func62 rfl (by kernel_rfl) rfl ?_
  refine rn rfl ?_
  refine goal_step (step_call [] rfl rfl rfl rfl rfl rfl (splaces_ct s (by omega))) ?_
  rintro σ2 ⟨r, o', ⟨rfl, rfl⟩, hσ⟩
  obtain rfl := Option.some.inj hσ
  clear hσ
  refine rn rfl ?_
  rw [hw0]
  refine goal_step (step_callE [0] rfl rfl rfl rfl rfl rfl (rfl) (pick_ct bs k ((placesQ s : Int) + 1) hb (by omega) (by omega) (by omega))) ?_
  rintro σ2 ⟨r, o', ⟨⟨pl, rfl, _, _⟩, rfl⟩, hσ⟩
  obtain rfl := Option.some.inj hσ
  clear hσ
  refine rn rfl ?_
  refine goal_loop_keep (fun m σ => ∃ (q k1 : Int) (i l1 l2 : Nat) (F : Flat), q = i ∧ i ≤ s.length ∧ m = s.length - i ∧ l1 = F.places.length ∧ l2 = F.named.length ∧ MidF F (3 * i) i ∧ k + 1 ≤ k1 ∧ k1 ≤ k + 1 + 20 * i ∧
      σ = ⟨[(7, .one (.int .i64 q)), (6, .one (.int .i64 pl)), (5, .one (.op 3 0 0)), (4, .one (.op 2 0 0)), (3, .one (.op 1 0 0)), (0, .one (.op 0 0 0))],
        [oR bs k1, some ⟨1, [eG s], false, false, true⟩, some ⟨2, [[.fs [], .fs []]], false, false, true⟩, some ⟨2, [[.os 4 0 l1 l1, .os 5 0 l2 l2]], false, false, true⟩, ownI F.places, ownP F.named], []⟩) s.length [7, 6, 5, 4, 3, 0] [1, 2, 5, 3, 4] rfl
    ⟨_, k + 1, 0, 0, 0, zF, rfl, by omega, by omega, rfl, rfl, ⟨by simp [zF], by simp [zF], by simp [zF]⟩, by omega, by omega, rfl⟩ ?_
  rintro m σ ⟨q, k1, i, l1, l2, F, rfl, hi, rfl, rfl, rfl, hF, hk1, hk2, rfl⟩
  have hF1 := hF.places
  have hF2 := hF.named
  have fin : goal pk Tryz.f62.ntmps 1 (fun _ _ => False) (.nrm []) ⟨[], [], []⟩ → True := fun _ => trivial
  clear fin
  refine rn rfl ?_
  refine goal_guard rfl rfl rfl (fun hc => ?_) (fun hc => ?_) <;> (try simp only [gt_iff_lt, ge_iff_le, bne_iff_ne, ne_eq, bne_eq_false_iff_eq, beq_iff_eq, beq_eq_false_iff_ne, Bool.not_eq_true', Bool.not_eq_false', decide_eq_true_eq, decide_eq_false_iff_not, List.length_map] at hc)
  · refine rn rfl ?_
    refine goal_cond rfl (fun hc2 => ?_) (fun hc2 => ?_) <;> (try simp only [gt_iff_lt, ge_iff_le, bne_iff_ne, ne_eq, bne_eq_false_iff_eq, beq_iff_eq, beq_eq_false_iff_ne, Bool.not_eq_true', Bool.not_eq_false', decide_eq_true_eq, decide_eq_false_iff_not, List.length_map] at hc2)
    · obtain ⟨p, hp⟩ := at_some (xs := s) (i := i) (by omega)
      have hpn := hs.nameLen (List.mem_of_getElem? hp)
      refine rn rfl ?_
      refine goal_did rfl rfl (dA_index (eQ p) rfl rfl rfl rfl rfl rfl rfl (by omega) (by (try simp); omega) (map_at (by simpa using hp)) rfl) ?_
      refine rt1 7 rfl ?_
      refine goal_cutR (fun σ' => ∃ v : Int, σ' = ⟨[(9, .one (.int .i64 v)), (8, .one (.op 6 0 0)), (7, .one (.int .i64 i)), (6, .one (.int .i64 pl)), (5, .one (.op 3 0 0)), (4, .one (.op 2 0 0)), (3, .one (.op 1 0 0)), (0, .one (.op 0 0 0))], [oR bs (k1 + 1), some ⟨1, [eG s], false, false, true⟩, some ⟨2, [[.fs [], .fs []]], false, false, true⟩, some ⟨2, [[.os 4 0 F.places.length F.places.length, .os 5 0 F.named.length F.named.length]], false, false, true⟩, ownI F.places, ownP F.named, some ⟨4, [eQ p], false, false, true⟩], []⟩) ?_ ?_
      · refine rn rfl ?_
        refine goal_step (step_callE [0] rfl rfl rfl rfl rfl rfl (rfl) (aNumber_ct bs k1 hb (by omega) (by omega))) ?_
        rintro σ2 ⟨r, o', ⟨⟨v, _, _, rfl⟩, rfl⟩, hσ⟩
        obtain rfl := Option.some.inj hσ
        clear hσ
        refine rn rfl ?_
        exact cut_nrm [9, 8, 7, 6, 5, 4, 3, 0] [1, 2, 3, 4, 5, 6] rfl ⟨v, rfl⟩
      rintro _ ⟨v0, rfl⟩
      refine rt 8 rfl ?_
      refine goal_cutR (fun σ' => ∃ v k2 : Int, k1 + 1 ≤ k2 ∧ k2 ≤ k1 + 2 ∧ σ' = ⟨[(9, .one (.int .i64 v)), (8, .one (.op 6 0 0)), (7, .one (.int .i64 i)), (6, .one (.int .i64 pl)), (5, .one (.op 3 0 0)), (4, .one (.op 2 0 0)), (3, .one (.op 1 0 0)), (0, .one (.op 0 0 0))], [oR bs k2, some ⟨1, [eG s], false, false, true⟩, some ⟨2, [[.fs [], .fs []]], false, false, true⟩, some ⟨2, [[.os 4 0 F.places.length F.places.length, .os 5 0 F.named.length F.named.length]], false, false, true⟩, ownI F.places, ownP F.named, some ⟨4, [eQ p], false, false, true⟩], []⟩) ?_ ?_
      · refine rn rfl ?_
        refine goal_guard rfl rfl rfl (fun a1 => ?_) (fun a1 => ?_) <;> (try simp only [gt_iff_lt, ge_iff_le, bne_iff_ne, ne_eq, bne_eq_false_iff_eq, beq_iff_eq, beq_eq_false_iff_ne, Bool.not_eq_true', Bool.not_eq_false', decide_eq_true_eq, decide_eq_false_iff_not, List.length_map] at a1)
        · refine rn rfl ?_
          refine goal_step (step_callE [0] rfl rfl rfl rfl rfl rfl (rfl) (pick_ct bs (k1 + 1) 3 hb (by omega) (by omega) (by omega))) ?_
          rintro σ2 ⟨r, o', ⟨⟨z, rfl, _, _⟩, rfl⟩, hσ⟩
          obtain rfl := Option.some.inj hσ
          clear hσ
          refine rn rfl ?_
          refine goal_cond rfl (fun a2 => ?_) (fun a2 => ?_) <;> (try simp only [gt_iff_lt, ge_iff_le, bne_iff_ne, ne_eq, bne_eq_false_iff_eq, beq_iff_eq, beq_eq_false_iff_ne, Bool.not_eq_true', Bool.not_eq_false', decide_eq_true_eq, decide_eq_false_iff_not, List.length_map] at a2)
          · refine rn rfl ?_
            exact cut_nrm [9, 8, 7, 6, 5, 4, 3, 0] [1, 2, 3, 4, 5, 6] rfl ⟨p.dflt, k1 + 1 + 1, by omega, by omega, rfl⟩
          · refine rn rfl ?_
            exact cut_nrm [9, 8, 7, 6, 5, 4, 3, 0] [1, 2, 3, 4, 5, 6] rfl ⟨v0, k1 + 1 + 1, by omega, by omega, rfl⟩
        · refine rn rfl ?_
          exact cut_nrm [9, 8, 7, 6, 5, 4, 3, 0] [1, 2, 3, 4, 5, 6] rfl ⟨v0, k1 + 1, by omega, by omega, rfl⟩
      rintro _ ⟨v, k2, hk3, hk4, rfl⟩
      refine rt1 10 rfl ?_
      refine goal_cutR (fun σ' => ∃ b : Bool, σ' = ⟨[(48, .one (.bool b)), (9, .one (.int .i64 v)), (8, .one (.op 6 0 0)), (7, .one (.int .i64 i)), (6, .one (.int .i64 pl)), (5, .one (.op 3 0 0)), (4, .one (.op 2 0 0)), (3, .one (.op 1 0 0)), (0, .one (.op 0 0 0))], [oR bs k2, some ⟨1, [eG s], false, false, true⟩, some ⟨2, [[.fs [], .fs []]], false, false, true⟩, some ⟨2, [[.os 4 0 F.places.length F.places.length, .os 5 0 F.named.length F.named.length]], false, false, true⟩, ownI F.places, ownP F.named, some ⟨4, [eQ p], false, false, true⟩], []⟩) ?_ ?_
      · refine rn rfl ?_
        refine goal_step (step_call [] rfl rfl rfl rfl rfl rfl (splaced_ct p)) ?_
        rintro σ2 ⟨r, o', ⟨rfl, rfl⟩, hσ⟩
        obtain rfl := Option.some.inj hσ
        clear hσ
        refine rn rfl ?_
        refine goal_guard rfl rfl rfl (fun a1 => ?_) (fun a1 => ?_) <;> (try simp only [gt_iff_lt, ge_iff_le, bne_iff_ne, ne_eq, bne_eq_false_iff_eq, beq_iff_eq, beq_eq_false_iff_ne, Bool.not_eq_true', Bool.not_eq_false', decide_eq_true_eq, decide_eq_false_iff_not, List.length_map] at a1)
        · refine rn rfl ?_
          refine goal_guard rfl rfl rfl (fun a2 => ?_) (fun a2 => ?_) <;> (try simp only [gt_iff_lt, ge_iff_le, bne_iff_ne, ne_eq, bne_eq_false_iff_eq, beq_iff_eq, beq_eq_false_iff_ne, Bool.not_eq_true', Bool.not_eq_false', decide_eq_true_eq, decide_eq_false_iff_not, List.length_map] at a2)
          · refine rn rfl ?_
            exact cut_nrm [48, 9, 8, 7, 6, 5, 4, 3, 0] [1, 2, 3, 4, 5, 6] rfl ⟨true, rfl⟩
          · refine rn rfl ?_
            refine goal_guard rfl rfl rfl (fun a3 => ?_) (fun a3 => ?_) <;> (try simp only [gt_iff_lt, ge_iff_le, bne_iff_ne, ne_eq, bne_eq_false_iff_eq, beq_iff_eq, beq_eq_false_iff_ne, Bool.not_eq_true', Bool.not_eq_false', decide_eq_true_eq, decide_eq_false_iff_not, List.length_map] at a3)
            · refine rn rfl ?_
              refine goal_guard rfl rfl rfl (fun a4 => ?_) (fun a4 => ?_) <;> (try simp only [gt_iff_lt, ge_iff_le, bne_iff_ne, ne_eq, bne_eq_false_iff_eq, beq_iff_eq, beq_eq_false_iff_ne, Bool.not_eq_true', Bool.not_eq_false', decide_eq_true_eq, decide_eq_false_iff_not, List.length_map] at a4)
              · refine rn rfl ?_
                exact cut_nrm [48, 9, 8, 7, 6, 5, 4, 3, 0] [1, 2, 3, 4, 5, 6] rfl ⟨_, rfl⟩
              · refine rn rfl ?_
                exact cut_nrm [48, 9, 8, 7, 6, 5, 4, 3, 0] [1, 2, 3, 4, 5, 6] rfl ⟨false, rfl⟩
            · refine rn rfl ?_
              exact cut_nrm [48, 9, 8, 7, 6, 5, 4, 3, 0] [1, 2, 3, 4, 5, 6] rfl ⟨false, rfl⟩
        · refine rn rfl ?_
          exact cut_nrm [48, 9, 8, 7, 6, 5, 4, 3, 0] [1, 2, 3, 4, 5, 6] rfl ⟨false, rfl⟩
      rintro _ ⟨b1, rfl⟩
      refine rn rfl ?_
      refine goal_cond rfl (fun c1 => ?_) (fun c1 => ?_) <;> (try simp only [gt_iff_lt, ge_iff_le, bne_iff_ne, ne_eq, bne_eq_false_iff_eq, beq_iff_eq, beq_eq_false_iff_ne, Bool.not_eq_true', Bool.not_eq_false', decide_eq_true_eq, decide_eq_false_iff_not, List.length_map] at c1)
      · refine rn rfl ?_
        refine goal_did rfl rfl (dA_append (old := (F.places).map eI) (rows := ([v] : List Int).map eI) (((F.places) ++ ([v] : List Int)).map eI) (F.places.length + 1) true (Dst.own rfl rfl rfl rfl rfl (by first | (simp; done) | (simp; omega)) (whole (by first | (simp; done) | (simp; omega)))) (Src.os rfl rfl (Nat.le_refl 1) rfl) rfl rfl rfl rfl rfl rfl rfl rfl (rows_len eI_len _) (rows_len eI_len _) (by (try simp only [List.length_map, List.length_append, List.length_cons, List.length_nil, List.length_take, List.length_drop]); show _ * 8 ≤ _; omega) (by first | (simp; done) | (simp; omega)) (by simp) (by first | (simp; done) | (simp; omega)) (fun _ => noOwnR_map _ eI_noOwn _)) ?_
        refine rn rfl ?_
        refine rn rfl ?_
        refine round_keep (s.length - (i + 1)) [7, 6, 5, 4, 3, 0] [1, 2, 3, 8, 5] (by omega) rfl ⟨_, k2, i + 1, _, _, ⟨F.places ++ [v], F.named⟩, wrap64 (by omega) (by omega), by omega, rfl, by simp, rfl, ⟨by simp; omega, by simp; omega, hF.names⟩, by omega, by omega, rfl⟩
      · refine rt1 12 rfl ?_
        refine goal_cutR (fun σ' => ∃ (b : Bool) (k3 : Int), k2 ≤ k3 ∧ k3 ≤ k2 + 1 ∧ σ' = ⟨[(79, .one (.bool b)), (9, .one (.int .i64 v)), (8, .one (.op 6 0 0)), (7, .one (.int .i64 i)), (6, .one (.int .i64 pl)), (5, .one (.op 3 0 0)), (4, .one (.op 2 0 0)), (3, .one (.op 1 0 0)), (0, .one (.op 0 0 0))], [oR bs k3, some ⟨1, [eG s], false, false, true⟩, some ⟨2, [[.fs [], .fs []]], false, false, true⟩, some ⟨2, [[.os 4 0 F.places.length F.places.length, .os 5 0 F.named.length F.named.length]], false, false, true⟩, ownI F.places, ownP F.named, some ⟨4, [eQ p], false, false, true⟩], []⟩) ?_ ?_
        · refine rn rfl ?_
          refine goal_step (step_call [] rfl rfl rfl rfl rfl rfl (snamed_ct p)) ?_
          rintro σ2 ⟨r, o', ⟨rfl, rfl⟩, hσ⟩
          obtain rfl := Option.some.inj hσ
          clear hσ
          refine rn rfl ?_
          refine goal_guard rfl rfl rfl (fun a1 => ?_) (fun a1 => ?_) <;> (try simp only [gt_iff_lt, ge_iff_le, bne_iff_ne, ne_eq, bne_eq_false_iff_eq, beq_iff_eq, beq_eq_false_iff_ne, Bool.not_eq_true', Bool.not_eq_false', decide_eq_true_eq, decide_eq_false_iff_not, List.length_map] at a1)
          · refine rn rfl ?_
            refine goal_step (step_lendE [] rfl rfl rfl rfl rfl rfl rfl (cons_eq (congrArg (fun x => T.one (C.fs x)) (takeAll eP F.named _ rfl)) rfl) (spairAt_ct F.named p.name (by omega)) (by rintro r o ⟨rfl, rfl⟩; exact ⟨rfl, rfl⟩)) ?_
            rintro σ2 ⟨r, o', ⟨rfl, rfl⟩, hσ⟩
            obtain rfl := Option.some.inj hσ
            clear hσ
            refine rn rfl ?_
            refine goal_guard rfl rfl rfl (fun a2 => ?_) (fun a2 => ?_) <;> (try simp only [gt_iff_lt, ge_iff_le, bne_iff_ne, ne_eq, bne_eq_false_iff_eq, beq_iff_eq, beq_eq_false_iff_ne, Bool.not_eq_true', Bool.not_eq_false', decide_eq_true_eq, decide_eq_false_iff_not, List.length_map] at a2)
            · refine rn rfl ?_
              refine goal_guard rfl rfl rfl (fun a3 => ?_) (fun a3 => ?_) <;> (try simp only [gt_iff_lt, ge_iff_le, bne_iff_ne, ne_eq, bne_eq_false_iff_eq, beq_iff_eq, beq_eq_false_iff_ne, Bool.not_eq_true', Bool.not_eq_false', decide_eq_true_eq, decide_eq_false_iff_not, List.length_map] at a3)
              · refine rn rfl ?_
                exact cut_nrm [79, 9, 8, 7, 6, 5, 4, 3, 0] [1, 2, 3, 4, 5, 6] rfl ⟨true, k2, by omega, by omega, rfl⟩
              · refine rn rfl ?_
                refine goal_step (step_callE [0] rfl rfl rfl rfl rfl rfl (rfl) (pick_ct bs k2 2 hb (by omega) (by omega) (by omega))) ?_
                rintro σ2 ⟨r, o', ⟨⟨z, rfl, _, _⟩, rfl⟩, hσ⟩
                obtain rfl := Option.some.inj hσ
                clear hσ
                refine rn rfl ?_
                exact cut_nrm [79, 9, 8, 7, 6, 5, 4, 3, 0] [1, 2, 3, 4, 5, 6] rfl ⟨_, k2 + 1, by omega, by omega, rfl⟩
            · refine rn rfl ?_
              exact cut_nrm [79, 9, 8, 7, 6, 5, 4, 3, 0] [1, 2, 3, 4, 5, 6] rfl ⟨false, k2, by omega, by omega, rfl⟩
          · refine rn rfl ?_
            exact cut_nrm [79, 9, 8, 7, 6, 5, 4, 3, 0] [1, 2, 3, 4, 5, 6] rfl ⟨false, k2, by omega, by omega, rfl⟩
        rintro _ ⟨b2, k3, hk5, hk6, rfl⟩
        refine rn rfl ?_
        refine goal_cond rfl (fun c2 => ?_) (fun c2 => ?_) <;> (try simp only [gt_iff_lt, ge_iff_le, bne_iff_ne, ne_eq, bne_eq_false_iff_eq, beq_iff_eq, beq_eq_false_iff_ne, Bool.not_eq_true', Bool.not_eq_false', decide_eq_true_eq, decide_eq_false_iff_not, List.length_map] at c2)
        · refine rn rfl ?_
          refine goal_did rfl rfl (dA_append (old := (F.named).map eP) (rows := ([⟨p.name, v⟩] : List Pair).map eP) (((F.named) ++ ([⟨p.name, v⟩] : List Pair)).map eP) (F.named.length + 1) true (Dst.own rfl rfl rfl rfl rfl (by first | (simp; done) | (simp; omega)) (whole (by first | (simp; done) | (simp; omega)))) (Src.os rfl rfl (Nat.le_refl 1) rfl) rfl rfl rfl rfl rfl rfl rfl rfl (rows_len eP_len _) (rows_len eP_len _) (by (try simp only [List.length_map, List.length_append, List.length_cons, List.length_nil, List.length_take, List.length_drop]); show _ * 24 ≤ _; omega) (by first | (simp; done) | (simp; omega)) (by simp) (by first | (simp; done) | (simp; omega)) (fun _ => noOwnR_map _ eP_noOwn _)) ?_
          refine rn rfl ?_
          refine rn rfl ?_
          refine round_keep (s.length - (i + 1)) [7, 6, 5, 4, 3, 0] [1, 2, 3, 4, 8] (by omega) rfl ⟨_, k3, i + 1, _, _, ⟨F.places, F.named ++ [⟨p.name, v⟩]⟩, wrap64 (by omega) (by omega), by omega, rfl, rfl, by simp, ⟨by simp; omega, by simp; omega, ?_⟩, by omega, by omega, rfl⟩
          intro r hr
          rcases List.mem_append.1 hr with hr | hr
          · exact hF.names r hr
          · simp only [List.mem_singleton] at hr; rw [hr]; show p.name.length ≤ 7; omega
        · refine rt1 14 rfl ?_
          refine goal_cutR (fun σ' => ∃ b : Bool, σ' = ⟨[(109, .one (.bool b)), (9, .one (.int .i64 v)), (8, .one (.op 6 0 0)), (7, .one (.int .i64 i)), (6, .one (.int .i64 pl)), (5, .one (.op 3 0 0)), (4, .one (.op 2 0 0)), (3, .one (.op 1 0 0)), (0, .one (.op 0 0 0))], [oR bs k3, some ⟨1, [eG s], false, false, true⟩, some ⟨2, [[.fs [], .fs []]], false, false, true⟩, some ⟨2, [[.os 4 0 F.places.length F.places.length, .os 5 0 F.named.length F.named.length]], false, false, true⟩, ownI F.places, ownP F.named, some ⟨4, [eQ p], false, false, true⟩], []⟩) ?_ ?_
          · refine goal_draw' [1, 3, 6] 18 rfl ?_
            refine drn [0, 1, 2, 3] (by kernel_rfl) (by kernel_rfl) rfl rfl ?_
            refine AH_guard (i := 4) rfl rfl rfl (fun d1 => ?_) (fun d1 => ?_) <;> (try simp only [gt_iff_lt, ge_iff_le, bne_iff_ne, ne_eq, bne_eq_false_iff_eq, beq_iff_eq, beq_eq_false_iff_ne, Bool.not_eq_true', Bool.not_eq_false', decide_eq_true_eq, decide_eq_false_iff_not, List.length_map] at d1)
            · refine drn [4, 5, 6, 7] (by kernel_rfl) (by kernel_rfl) rfl rfl ?_
              refine AH_one (i := 8) (by kernel_rfl) (step_call [] rfl rfl rfl rfl rfl rfl (splaces_ct s (by omega))) (by simp) ?_
              rintro σ2 ⟨r, o', ⟨rfl, rfl⟩, hσ⟩
              obtain rfl := Option.some.inj hσ
              clear hσ
              refine drn [9, 10, 11] (by kernel_rfl) (by kernel_rfl) rfl rfl ?_
              refine AH_guard (i := 12) rfl rfl rfl (fun d2 => ?_) (fun d2 => ?_) <;> (try simp only [gt_iff_lt, ge_iff_le, bne_iff_ne, ne_eq, bne_eq_false_iff_eq, beq_iff_eq, beq_eq_false_iff_ne, Bool.not_eq_true', Bool.not_eq_false', decide_eq_true_eq, decide_eq_false_iff_not, List.length_map] at d2)
              · refine drn [12, 13, 14, 15, 16, 17] (by kernel_rfl) (by kernel_rfl) rfl rfl ?_
                refine AH_end (by kernel_rfl) ?_
                refine rn rfl ?_
                exact cut_nrm [109, 9, 8, 7, 6, 5, 4, 3, 0] [1, 2, 3, 4, 5, 6] rfl ⟨_, rfl⟩
              · refine drn [12, 13, 14, 15, 16, 17] (by kernel_rfl) (by kernel_rfl) rfl rfl ?_
                refine AH_end (by kernel_rfl) ?_
                refine rn rfl ?_
                exact cut_nrm [109, 9, 8, 7, 6, 5, 4, 3, 0] [1, 2, 3, 4, 5, 6] rfl ⟨false, rfl⟩
            · refine drn [4, 5, 6, 7, 8, 9, 10, 11, 12, 13, 14, 15, 16, 17] (by kernel_rfl) (by kernel_rfl) rfl rfl ?_
              refine AH_end (by kernel_rfl) ?_
              refine rn rfl ?_
              exact cut_nrm [109, 9, 8, 7, 6, 5, 4, 3, 0] [1, 2, 3, 4, 5, 6] rfl ⟨false, rfl⟩
          rintro _ ⟨b3, rfl⟩
          refine rn rfl ?_
          refine goal_cond rfl (fun c3 => ?_) (fun c3 => ?_) <;> (try simp only [gt_iff_lt, ge_iff_le, bne_iff_ne, ne_eq, bne_eq_false_iff_eq, beq_iff_eq, beq_eq_false_iff_ne, Bool.not_eq_true', Bool.not_eq_false', decide_eq_true_eq, decide_eq_false_iff_not, List.length_map] at c3)
          · refine rn rfl ?_
            refine goal_step (step_callE [0] rfl rfl rfl rfl rfl rfl (rfl) (pick_ct bs k3 3 hb (by omega) (by omega) (by omega))) ?_
            rintro σ2 ⟨r, o', ⟨⟨y, rfl, hy, _⟩, rfl⟩, hσ⟩
            obtain rfl := Option.some.inj hσ
            clear hσ
            refine rn rfl ?_
            have hy' := hy (by omega)
            refine goal_loop_keep (fun m σ => ∃ (q k4 : Int) (l : Nat) (G : List Int), m = q.toNat ∧ 0 ≤ q ∧ q ≤ 2 ∧ l = G.length ∧ (G.length : Int) + q ≤ F.places.length + 2 ∧ k3 + 1 ≤ k4 ∧ k4 + q ≤ k3 + 3 ∧
                σ = ⟨[(10, .one (.int .i64 q)), (7, .one (.int .i64 i)), (6, .one (.int .i64 pl)), (5, .one (.op 3 0 0)), (4, .one (.op 2 0 0)), (3, .one (.op 1 0 0)), (0, .one (.op 0 0 0))],
                  [oR bs k4, some ⟨1, [eG s], false, false, true⟩, some ⟨2, [[.fs [], .fs []]], false, false, true⟩, some ⟨2, [[.os 4 0 l l, .os 5 0 F.named.length F.named.length]], false, false, true⟩, ownI G, ownP F.named], []⟩) y.toNat [10, 7, 6, 5, 4, 3, 0] [1, 2, 3, 4, 5] rfl
              ⟨y, k3 + 1, _, F.places, rfl, by omega, by omega, rfl, by omega, by omega, by omega, rfl⟩ ?_
            rintro m2 σ2 ⟨q, k4, l, G, rfl, hq0, hq2, rfl, hG, hk7, hk8, rfl⟩
            have hwq : IntKind.i64.wrap (q - 1) = q - 1 := wrap64 (by omega) (by omega)
            have fin2 : ∀ {K : KP}, K = K → True := fun _ => trivial
            clear fin2
            refine rn rfl ?_
            refine goal_guard rfl rfl rfl (fun d5 => ?_) (fun d5 => ?_) <;> (try simp only [gt_iff_lt, ge_iff_le, bne_iff_ne, ne_eq, bne_eq_false_iff_eq, beq_iff_eq, beq_eq_false_iff_ne, Bool.not_eq_true', Bool.not_eq_false', decide_eq_true_eq, decide_eq_false_iff_not, List.length_map] at d5)
            · refine rn rfl ?_
              refine goal_cond rfl (fun d6 => ?_) (fun d6 => ?_) <;> (try simp only [gt_iff_lt, ge_iff_le, bne_iff_ne, ne_eq, bne_eq_false_iff_eq, beq_iff_eq, beq_eq_false_iff_ne, Bool.not_eq_true', Bool.not_eq_false', decide_eq_true_eq, decide_eq_false_iff_not, List.length_map] at d6)
              · refine rn rfl ?_
                refine goal_drawL [3] [7] 8 rfl ?_
                refine drnL [0, 1, 2] (by kernel_rfl) (by kernel_rfl) rfl rfl ?_
                refine AHL_one (i := 3) (by kernel_rfl) rfl (step_callE [0] rfl rfl rfl rfl rfl rfl (rfl) (aNumber_ct bs k4 hb (by omega) (by omega))) (by simp) ?_
                rintro σ2 ⟨r, o', ⟨⟨w, _, _, rfl⟩, rfl⟩, hσ⟩
                obtain rfl := Option.some.inj hσ
                clear hσ
                refine AHL_oneDid 4 rfl (by kernel_rfl) rfl rfl (dA_step rfl) (mdOk rfl) ?_
                refine AHL_oneDid 5 rfl (by kernel_rfl) rfl rfl (dA_append (old := (G).map eI) (rows := ([w] : List Int).map eI) (((G) ++ ([w] : List Int)).map eI) (G.length + 1) true (Dst.own rfl rfl rfl rfl rfl (by first | (simp; done) | (simp; omega)) (whole (by first | (simp; done) | (simp; omega)))) (Src.os rfl rfl (Nat.le_refl 1) rfl) rfl rfl rfl rfl rfl rfl rfl rfl (rows_len eI_len _) (rows_len eI_len _) (by (try simp only [List.length_map, List.length_append, List.length_cons, List.length_nil, List.length_take, List.length_drop]); show _ * 8 ≤ _; omega) (by first | (simp; done) | (simp; omega)) (by simp) (by first | (simp; done) | (simp; omega)) (fun _ => noOwnR_map _ eI_noOwn _)) (mdOk rfl) ?_
                refine drnL [6] (by kernel_rfl) (by kernel_rfl) rfl rfl ?_
                refine AHL_lateDid 7 rfl (by kernel_rfl) rfl rfl (dA_step rfl) ?_
                refine AH_end (by kernel_rfl) ?_
                refine rn rfl ?_
                refine rn rfl ?_
                rw [hwq]
                refine round_keep (q - 1).toNat [10, 7, 6, 5, 4, 3, 0] [1, 2, 3, 7, 5] (by omega) rfl ⟨q - 1, k4 + 1, _, G ++ [w], rfl, by omega, by omega, (by simp : G.length + 1 = _), by simp; omega, by omega, by omega, rfl⟩
              · refine rn rfl (round_ext ?_)
                refine rn rfl ?_
                refine round_keep (s.length - (i + 1)) [7, 6, 5, 4, 3, 0] [1, 2, 3, 4, 5] (by omega) rfl ⟨_, k4, i + 1, _, _, ⟨G, F.named⟩, wrap64 (by omega) (by omega), by omega, rfl, rfl, rfl, ⟨by show G.length ≤ _; omega, by show F.named.length ≤ _; omega, hF.names⟩, by omega, by omega, rfl⟩
            · refine rn rfl (round_ext ?_)
              refine rn rfl ?_
              refine round_keep (s.length - (i + 1)) [7, 6, 5, 4, 3, 0] [1, 2, 3, 4, 5] (by omega) rfl ⟨_, k4, i + 1, _, _, ⟨G, F.named⟩, wrap64 (by omega) (by omega), by omega, rfl, rfl, rfl, ⟨by show G.length ≤ _; omega, by show F.named.length ≤ _; omega, hF.names⟩, by omega, by omega, rfl⟩
          · refine rt1 19 rfl ?_
            refine goal_cutR (fun σ' => ∃ (b : Bool) (k4 : Int), k3 ≤ k4 ∧ k4 ≤ k3 + 1 ∧ σ' = ⟨[(146, .one (.bool b)), (9, .one (.int .i64 v)), (8, .one (.op 6 0 0)), (7, .one (.int .i64 i)), (6, .one (.int .i64 pl)), (5, .one (.op 3 0 0)), (4, .one (.op 2 0 0)), (3, .one (.op 1 0 0)), (0, .one (.op 0 0 0))], [oR bs k4, some ⟨1, [eG s], false, false, true⟩, some ⟨2, [[.fs [], .fs []]], false, false, true⟩, some ⟨2, [[.os 4 0 F.places.length F.places.length, .os 5 0 F.named.length F.named.length]], false, false, true⟩, ownI F.places, ownP F.named, some ⟨4, [eQ p], false, false, true⟩], []⟩) ?_ ?_
            · refine rn rfl ?_
              refine goal_guard rfl rfl rfl (fun d1 => ?_) (fun d1 => ?_) <;> (try simp only [gt_iff_lt, ge_iff_le, bne_iff_ne, ne_eq, bne_eq_false_iff_eq, beq_iff_eq, beq_eq_false_iff_ne, Bool.not_eq_true', Bool.not_eq_false', decide_eq_true_eq, decide_eq_false_iff_not, List.length_map] at d1)
              · refine rn rfl ?_
                refine goal_step (step_callE [0] rfl rfl rfl rfl rfl rfl (rfl) (pick_ct bs k3 2 hb (by omega) (by omega) (by omega))) ?_
                rintro σ2 ⟨r, o', ⟨⟨z, rfl, _, _⟩, rfl⟩, hσ⟩
                obtain rfl := Option.some.inj hσ
                clear hσ
                refine rn rfl ?_
                exact cut_nrm [146, 9, 8, 7, 6, 5, 4, 3, 0] [1, 2, 3, 4, 5, 6] rfl ⟨_, k3 + 1, by omega, by omega, rfl⟩
              · refine rn rfl ?_
                exact cut_nrm [146, 9, 8, 7, 6, 5, 4, 3, 0] [1, 2, 3, 4, 5, 6] rfl ⟨false, k3, by omega, by omega, rfl⟩
            rintro _ ⟨b4, k4, hk7, hk8, rfl⟩
            refine rn rfl ?_
            refine goal_cond rfl (fun c4 => ?_) (fun c4 => ?_) <;> (try simp only [gt_iff_lt, ge_iff_le, bne_iff_ne, ne_eq, bne_eq_false_iff_eq, beq_iff_eq, beq_eq_false_iff_ne, Bool.not_eq_true', Bool.not_eq_false', decide_eq_true_eq, decide_eq_false_iff_not, List.length_map] at c4)
            · refine rn rfl ?_
              refine goal_drawL [3] [10] 11 rfl ?_
              refine drnL [0, 1, 2, 5] (by kernel_rfl) (by kernel_rfl) rfl rfl ?_
              refine AHL_oneDid 3 rfl (by kernel_rfl) rfl rfl (dA_step rfl) (mdOk rfl) ?_
              refine AHL_one (i := 4) (by kernel_rfl) rfl (step_callE [0] rfl rfl rfl rfl rfl rfl (rfl) (of_ct bs k4 [[109], [110], [111]] hb (by omega) (by omega) (by decide) (by decide))) (by simp) ?_
              rintro σ2 ⟨r, o', ⟨⟨nm, hnm, rfl⟩, rfl⟩, hσ⟩
              obtain rfl := Option.some.inj hσ
              clear hσ
              refine AHL_one (i := 6) (by kernel_rfl) rfl (step_callE [0] rfl rfl rfl rfl rfl rfl (rfl) (aNumber_ct bs (k4 + 1) hb (by omega) (by omega))) (by simp) ?_
              rintro σ2 ⟨r, o', ⟨⟨w, _, _, rfl⟩, rfl⟩, hσ⟩
              obtain rfl := Option.some.inj hσ
              clear hσ
              refine drnL [7] (by kernel_rfl) (by kernel_rfl) rfl rfl ?_
              refine AHL_one (i := 8) (by kernel_rfl) rfl (step_callE [] rfl rfl rfl rfl rfl rfl (cons_eq (congrArg (fun x => T.one (C.fs x)) (takeAll eP F.named _ rfl)) rfl) (putPair_ct F.named ⟨nm, w⟩ (by omega))) (by simp) ?_
              rintro σ2 ⟨r, o', ⟨rfl, rfl⟩, hσ⟩
              obtain rfl := Option.some.inj hσ
              clear hσ
              refine drnL [9] (by kernel_rfl) (by kernel_rfl) rfl rfl ?_
              refine AHL_lateDid 10 rfl (by kernel_rfl) rfl rfl (dA_step rfl) ?_
              refine AH_end (by kernel_rfl) ?_
              refine rn rfl ?_
              have hnl : nm.length ≤ 7 := by
                simp only [List.mem_cons, List.not_mem_nil, or_false] at hnm
                rcases hnm with h | h | h <;> (rw [h]; decide)
              refine rn rfl ?_
              have hpl : (spPair F.named ⟨nm, w⟩).length ≤ F.named.length + 1 := by rw [spPair_eq]; exact putP_length _ _ _
              refine round_keep (s.length - (i + 1)) [7, 6, 5, 4, 3, 0] [1, 2, 3, 4, 8] (by omega) rfl ⟨_, k4 + 1 + 1, i + 1, _, _, ⟨F.places, spPair F.named ⟨nm, w⟩⟩, wrap64 (by omega) (by omega), by omega, rfl, rfl, rfl, ⟨by show F.places.length ≤ _; omega, by show (spPair F.named ⟨nm, w⟩).length ≤ _; omega, ?_⟩, by omega, by omega, rfl⟩
              intro r hr
              rw [spPair_eq] at hr
              rcases putP_mem hr with h | ⟨q, hq, h⟩
              · rw [h]; exact hnl
              · rw [h]; exact hF.names q hq
            · refine rn rfl ?_
              refine round_keep (s.length - (i + 1)) [7, 6, 5, 4, 3, 0] [1, 2, 3, 4, 5] (by omega) rfl ⟨_, k4, i + 1, _, _, F, wrap64 (by omega) (by omega), by omega, rfl, rfl, rfl, ⟨by omega, by omega, hF.names⟩, by omega, by omega, rfl⟩
    · refine rn rfl (round_ext ?_)
      refine rn rfl (fin_is [] rfl ⟨F, k1, ⟨by omega, by omega, hF.names⟩, by omega, by omega, ?_, rfl⟩)
      exact asFl F
  · refine rn rfl (round_ext ?_)
    refine rn rfl (fin_is [] rfl ⟨F, k1, ⟨by omega, by omega, hF.names⟩, by omega, by omega, ?_, rfl⟩)
    exact asFl F

/-- Given by its place. -/
def byPl (pl : List Int) (i : Nat) (p : Param) : Bool := placedQ p && decide (i < pl.length)

def giveQ (s : Sig) (pl : List Int) (qs : List Pair) (i : Nat) (p : Param) : Slot :=
  if p.kind = 4 then ⟨false, [], qs.filter fun q => takesQ s q.name == (i : Int)⟩
  else if namedQ p && !byPl pl i p then (match qs.find? (nameIs p.name) with
    | some q => ⟨true, [q.value], []⟩
    | none => zL)
  else place1 (placesQ s) pl i p

def wrongQ (s : Sig) (pl : List Int) (q : Pair) : Option Problem :=
  if takesQ s q.name < 0 then some ⟨1, q.name⟩ else
  match s[(takesQ s q.name).toNat]? with
  | some p => if p.kind = 4 then none else if byPl pl (takesQ s q.name).toNat p then some ⟨2, q.name⟩ else none
  | none => none

def closedQ (s : Sig) (pl : List Int) (qs : List Pair) : Bnds × List Problem := (s.mapIdx (giveQ s pl qs), manyQ s pl ++ qs.filterMap (wrongQ s pl))

theorem giveQ_nil {s : Sig} (pl : List Int) (i : Nat) (p : Param) : giveQ s pl [] i p = place1 (placesQ s) pl i p := by
  unfold giveQ
  by_cases h4 : p.kind = 4
  · rw [if_pos h4]
    have : placedQ p = false := by
      cases h : placedQ p with
      | false => rfl
      | true => rw [placed_kind] at h; omega
    unfold place1
    simp [this, h4, zL]
  · rw [if_neg h4]
    split
    · rename_i h
      simp only [Bool.and_eq_true, Bool.not_eq_true'] at h
      have hk := named_kind.1 h.1
      unfold place1
      unfold byPl at h
      rw [h.2]
      have : (p.kind == 2) = false := by simp; omega
      simp [this]
    · rfl

theorem closed_nil (s : Sig) (pl : List Int) : closedQ s pl [] = (phase1 s pl, manyQ s pl) := by
  simp only [closedQ, phase1, List.filterMap_nil, List.append_nil]
  congr 1
  apply List.ext_getElem?
  intro i
  rw [List.getElem?_mapIdx, List.getElem?_mapIdx]
  cases s[i]? with
  | none => rfl
  | some p => simp only [Option.map_some, giveQ_nil]

theorem takes_named {s : Sig} (hs : OkS s) {i : Nat} {p : Param} (hp : s[i]? = some p) (hn : namedQ p = true) : takesQ s p.name = (i : Int) := by
  have hq : ∀ j q, s[j]? = some q → q.name = p.name → j = i := fun j q hj hqn => by
    have hnd := hs.nodup
    rw [List.nodup_iff_pairwise_ne, List.pairwise_iff_getElem] at hnd
    have hi := lt_of_some hp
    have hjl := lt_of_some hj
    rw [List.getElem?_eq_getElem hi] at hp
    rw [List.getElem?_eq_getElem hjl] at hj
    simp only [Option.some.injEq] at hp hj
    rcases Nat.lt_trichotomy j i with h | h | h
    · exact absurd (by rw [List.getElem_map, List.getElem_map, hp, hj, hqn]) (hnd j i (by simpa using hjl) (by simpa using hi) h)
    · exact h
    · exact absurd (by rw [List.getElem_map, List.getElem_map, hp, hj, hqn]) (hnd i j (by simpa using hi) (by simpa using hjl) h)
  have hany : s.any (qIs p.name) = true := by rw [List.any_eq_true]; exact ⟨p, List.mem_of_getElem? hp, by simp [qIs]⟩
  obtain ⟨q, hf, hqi, hqn, hlt⟩ := idxI_find (idxI_ge (i := 0).2 hany)
  have hqn' : q.name = p.name := by simpa [qIs] using hqn
  have hix := hq _ q hqi hqn'
  have hpq : q = p := by rw [hix, hp] at hqi; exact (Option.some.inj hqi).symm
  have h0 := idxI_ge (i := 0).2 hany
  unfold takesQ
  rw [hf]
  simp only [hpq, hn, if_true]
  omega

theorem find_snoc {qs : List Pair} {q : Pair} {n : Str} : (qs ++ [q]).find? (nameIs n) = (match qs.find? (nameIs n) with
    | some x => some x
    | none => if q.name = n then some q else none) := by
  rw [List.find?_append]
  cases qs.find? (nameIs n) with
  | some x => rfl
  | none =>
    simp only [Option.none_or, List.find?_cons, List.find?_nil, nameIs]
    by_cases h : q.name = n
    · simp [h]
    · have : (q.name == n) = false := by simpa using h
      simp [h, this]

theorem find_none {qs : List Pair} {n : Str} (h : n ∉ namesOf qs) : qs.find? (nameIs n) = none := by
  rw [List.find?_eq_none]
  intro x hx hxn
  exact h (by simp only [nameIs, beq_iff_eq] at hxn; rw [← hxn]; exact List.mem_map_of_mem hx)

theorem closed_step {s : Sig} (hs : OkS s) {pl : List Int} {qs : List Pair} {q : Pair} (hq : q.name ∉ namesOf qs) : stepB s (closedQ s pl qs) q = closedQ s pl (qs ++ [q]) := by
  by_cases hneg : takesQ s q.name < 0
  · rw [stepB_neg hneg]
    simp only [closedQ, List.filterMap_append, List.filterMap_cons, List.filterMap_nil, wrongQ, hneg, if_true, List.append_assoc]
    congr 1
    apply List.ext_getElem?
    intro i
    simp only [List.getElem?_mapIdx]
    cases hp : s[i]? with
    | none => rfl
    | some p =>
      simp only [Option.map_some, Option.some.injEq, giveQ]
      split
      · have : (takesQ s q.name == (i : Int)) = false := by simp; omega
        simp [this]
      · split
        · rename_i h4 hn
          simp only [Bool.and_eq_true] at hn
          have ht := takes_named hs hp hn.1
          rw [find_snoc]
          have hne : q.name ≠ p.name := fun h0 => by rw [h0, ht] at hneg; omega
          rw [if_neg hne]
          cases qs.find? (nameIs p.name) <;> rfl
        · rfl
  · obtain ⟨p, hp, hlt, hk⟩ := takesQ_some hneg
    have hat : takesQ s q.name = ((takesQ s q.name).toNat : Nat) := by omega
    generalize hj : (takesQ s q.name).toNat = j at hp hat
    have hx : (closedQ s pl qs).1[j]? = some (giveQ s pl qs j p) := by simp [closedQ, hp]
    have hother : ∀ (i : Nat) (r : Param), s[i]? = some r → i ≠ j → giveQ s pl (qs ++ [q]) i r = giveQ s pl qs i r := fun i r hr hij => by
      simp only [giveQ]
      split
      · have : (takesQ s q.name == (i : Int)) = false := by rw [hat]; simp; omega
        simp [this]
      · split
        · rename_i h4 hn
          simp only [Bool.and_eq_true] at hn
          have ht := takes_named hs hr hn.1
          rw [find_snoc]
          have hne : q.name ≠ r.name := fun h0 => by rw [h0, ht] at hat; omega
          rw [if_neg hne]
          cases qs.find? (nameIs r.name) <;> rfl
        · rfl
    have hset : ∀ y : Slot, giveQ s pl (qs ++ [q]) j p = y → (closedQ s pl qs).1.set j y = (closedQ s pl (qs ++ [q])).1 := fun y hy => by
      apply List.ext_getElem?
      intro i
      simp only [closedQ, List.getElem?_set, List.getElem?_mapIdx, List.length_mapIdx]
      by_cases hij : j = i
      · subst hij; rw [if_pos rfl, if_pos (lt_of_some hp), hp]; simp [hy]
      · rw [if_neg hij]
        cases hr : s[i]? with
        | none => rfl
        | some r => simp [hother i r hr (fun h => hij h.symm)]
    have hwr : ∀ w : Option Problem, wrongQ s pl q = w → (closedQ s pl (qs ++ [q])).2 = (closedQ s pl qs).2 ++ w.toList := fun w hw => by
      simp only [closedQ, List.filterMap_append, List.append_assoc]
      congr 1
      congr 1
      cases w <;> simp [List.filterMap_cons, hw]
    by_cases h4 : p.kind = 4
    · rw [stepB_map hat hp hx h4]
      have hw : wrongQ s pl q = none := by simp [wrongQ, hneg, hj, hp, h4]
      have h1 := hwr none hw
      refine Prod.ext (hset _ ?_) (by rw [h1]; simp)
      simp [giveQ, h4, hat]
    · have hn : namedQ p = true ∧ p.name = q.name := by
        rcases hk with h | h
        · exact h
        · exact absurd h h4
      have hnf : qs.find? (nameIs p.name) = none := by rw [hn.2]; exact find_none hq
      by_cases hb : byPl pl j p = true
      · have hg : (giveQ s pl qs j p).given = true := by
          unfold byPl at hb
          simp only [giveQ, h4, if_false, hn.1, byPl, hb, Bool.not_true, Bool.and_false, Bool.false_eq_true, place1, if_true]
        rw [stepB_twice hat hp hx h4 hg]
        have hw : wrongQ s pl q = some ⟨2, q.name⟩ := by simp [wrongQ, hneg, hj, hp, h4, hb]
        have h1 := hwr _ hw
        refine Prod.ext ?_ (by rw [h1]; rfl)
        have h2 := hset (giveQ s pl qs j p) (by simp only [giveQ, h4, if_false, hn.1, hb, Bool.not_true, Bool.and_false, Bool.false_eq_true])
        rw [set_same hx] at h2
        exact h2
      · have hb' : byPl pl j p = false := by simpa using hb
        have hg : (giveQ s pl qs j p).given = false := by
          simp only [giveQ, h4, if_false, hn.1, hb', Bool.not_false, Bool.and_self, if_true, hnf, zL]
        rw [stepB_set hat hp hx h4 hg]
        have hw : wrongQ s pl q = none := by simp [wrongQ, hneg, hj, hp, h4, hb']
        have h1 := hwr none hw
        refine Prod.ext (hset _ ?_) (by rw [h1]; simp)
        rw [hn.2] at hnf
        simp only [giveQ, h4, if_false, hn.1, hb', Bool.not_false, Bool.and_self, if_true, find_snoc, hnf, hn.2]

theorem closed_fold {s : Sig} (hs : OkS s) {pl : List Int} : ∀ (rs qs : List Pair), (namesOf (qs ++ rs)).Nodup → rs.foldl (stepB s) (closedQ s pl qs) = closedQ s pl (qs ++ rs)
  | [], qs, _ => by simp
  | r :: rs, qs, h => by
    have hr : r.name ∉ namesOf qs := by
      intro h0
      simp only [namesOf, List.map_append, List.map_cons] at h h0
      exact (List.nodup_append.1 h).2.2 _ h0 _ (List.mem_cons_self ..) rfl
    rw [List.foldl_cons, closed_step hs hr, closed_fold hs rs (qs ++ [r]) (by simpa using h)]
    simp

/-- What a call gives. -/
theorem bound_closed {s : Sig} (hs : OkS s) {f : Flat} (hf : (namesOf f.named).Nodup) : boundQ s f = closedQ s f.places f.named := by
  rw [boundQ, ← closed_nil, closed_fold hs f.named [] (by simpa using hf)]
  simp

structure LenPa (p : Part) : Prop where
  sig : LenS p.sig
  flat : LenF p.flat

def atP (f : Flat) (q : Param) : Bool := q.kind == 1 && f.named.any (nameIs q.name)

def atQ (s : Sig) (f : Flat) : Int := idxI (atP f) s 0

def giveP (f : Flat) (q : Param) : Param := if namedQ q then (match f.named.find? (nameIs q.name) with
  | some r => ⟨q.name, q.kind, true, r.value⟩
  | none => q) else q

def kindP (b : Bool) (q : Param) : Param := if q.kind == 1 && b then ⟨q.name, 3, q.hasD, q.dflt⟩ else q

def skipP (at' : Int) (f : Flat) (i : Nat) (q : Param) : Bool := (placedQ q && decide (i < f.places.length)) || (q.kind == 2 && decide (0 ≤ at'))

def partParam (at' : Int) (f : Flat) (i : Nat) (q : Param) : Option Param :=
  if skipP at' f i q then none else some (giveP f (kindP (decide (0 ≤ at') && decide (at' ≤ i)) q))

def psL (at' : Int) (f : Flat) (s : Sig) : Sig := s.zipIdx.filterMap fun x => partParam at' f x.2 x.1

theorem psL_succ {at' : Int} {f : Flat} {s : Sig} {i : Nat} {q : Param} (hq : s[i]? = some q) : psL at' f (s.take (i + 1)) = psL at' f (s.take i) ++ (partParam at' f i q).toList := by
  have hl : (s.take i).length = i := by have := lt_of_some hq; simp; omega
  unfold psL
  rw [← take_snoc hq, List.zipIdx_append, List.filterMap_append, hl]
  simp [List.filterMap_cons]
  cases partParam at' f i q <;> rfl

theorem psL_len (at' : Int) (f : Flat) (s : Sig) : (psL at' f s).length ≤ s.length := by
  unfold psL
  have := List.length_filterMap_le (fun x : Param × Nat => partParam at' f x.2 x.1) s.zipIdx
  simpa using this

theorem partParam_name {at' : Int} {f : Flat} {i : Nat} {q r : Param} (h : partParam at' f i q = some r) : r.name = q.name := by
  unfold partParam at h
  split at h
  · cases h
  · simp only [Option.some.injEq] at h
    rw [← h]
    unfold giveP kindP
    split <;> split <;> (try split) <;> rfl

theorem psL_names {at' : Int} {f : Flat} {s : Sig} (hs : ∀ p ∈ s, p.name.length ≤ 9223372036854775807) : ∀ p ∈ psL at' f s, p.name.length ≤ 9223372036854775807 := by
  intro p hp
  unfold psL at hp
  rw [List.mem_filterMap] at hp
  obtain ⟨⟨q, i⟩, hq, hr⟩ := hp
  rw [partParam_name hr]
  exact hs q (List.fst_mem_of_mem_zipIdx hq)

theorem pair_at {f : Flat} {n : Str} (h : 0 ≤ pairIx f.named n) : ∃ r, f.named.find? (nameIs n) = some r ∧ f.named[(pairIx f.named n).toNat]? = some r ∧ pairIx f.named n < f.named.length := by
  obtain ⟨r, h1, h2, _, h3⟩ := idxI_find h
  exact ⟨r, h1, h2, h3⟩

theorem pair_none {f : Flat} {n : Str} (h : ¬ 0 ≤ pairIx f.named n) : f.named.find? (nameIs n) = none := idxI_none' h

theorem pair_any {f : Flat} {n : Str} : f.named.any (nameIs n) = decide (0 ≤ pairIx f.named n) := by
  have := idxI_ge (pred := nameIs n) (xs := f.named) (i := 0)
  cases h : f.named.any (nameIs n) with
  | true => simp [pairIx, this.2 h]
  | false =>
    have h0 : ¬ 0 ≤ idxI (nameIs n) f.named 0 := fun h1 => by rw [this.1 h1] at h; cases h
    simp [pairIx, h0]

theorem idxI_le {α : Type} {pred : α → Bool} : ∀ {xs : List α} {k i : Nat} {x : α}, xs[i]? = some x → pred x = true → 0 ≤ idxI pred xs k ∧ idxI pred xs k ≤ ((k + i : Nat) : Int)
  | y :: xs, k, 0, x, hx, hp => by
    simp at hx; subst hx
    simp [idxI, hp]
  | y :: xs, k, i + 1, x, hx, hp => by
    simp only [List.getElem?_cons_succ] at hx
    have := idxI_le (k := k + 1) hx hp
    unfold idxI
    split
    · omega
    · omega

theorem at_step {s : Sig} {f : Flat} {i : Nat} {x : Param} (hx : s[i]? = some x) :
    (decide (0 ≤ atQ s f) && decide (atQ s f ≤ i)) = ((decide (0 ≤ atQ s f) && decide (atQ s f < i)) || atP f x) := by
  cases ha : atP f x with
  | true =>
    have := idxI_le (k := 0) hx ha
    simp only [Bool.or_true, Bool.and_eq_true, decide_eq_true_eq]
    unfold atQ; omega
  | false =>
    rw [Bool.or_false]
    by_cases h0 : 0 ≤ atQ s f
    · obtain ⟨y, _, hy, hyp, _⟩ := idxI_find h0
      have hne : atQ s f ≠ i := fun h1 => by
        have : (idxI (atP f) s 0).toNat = i := by unfold atQ at h1; omega
        rw [this, hx] at hy
        cases hy
        rw [ha] at hyp; cases hyp
      have : (atQ s f ≤ i) ↔ (atQ s f < i) := by omega
      simp [this]
    · simp [h0]

theorem part_np {s : Sig} {f : Flat} (h : partQ s f = true) {i : Nat} {x : Param} (hx : s[i]? = some x) (hp : placedQ x = true) (hi : i < f.places.length) (hn : namedQ x = true) : f.named.any (nameIs x.name) = false := by
  simp only [partQ, Bool.and_eq_true, decide_eq_true_eq] at h
  obtain ⟨h1, h2⟩ := h
  obtain ⟨hs, hf⟩ := fitQ_iff.1 h1
  have hnd : (namesOf f.named).Nodup := by
    have := okFlat_iff.2 hf
    simp [okFlat] at this; exact this.1.1.1.2
  rw [bound_closed hs hnd] at h2
  simp only [closedQ, List.append_eq_nil_iff, List.filterMap_eq_nil_iff] at h2
  cases ha : f.named.any (nameIs x.name) with
  | false => rfl
  | true =>
    rw [List.any_eq_true] at ha
    obtain ⟨q, hq, hqn⟩ := ha
    simp only [nameIs, beq_iff_eq] at hqn
    have hw := h2.2 q hq
    have ht := takes_named hs hx hn
    rw [← hqn] at ht
    have hk := placed_kind.1 hp
    have hb : byPl f.places i x = true := by simp [byPl, hp, hi]
    unfold wrongQ at hw
    rw [ht] at hw
    simp only [Int.toNat_natCast, hx] at hw
    rw [if_neg (by omega), if_neg (by omega), if_pos hb] at hw
    cases hw

theorem np_at {s : Sig} {f : Flat} (h : partQ s f = true) {i : Nat} {x : Param} (hx : s[i]? = some x) (hp : placedQ x = true) (hi : i < f.places.length) : atP f x = false := by
  unfold atP
  cases hk : x.kind == 1 with
  | false => rfl
  | true =>
    rw [part_np h hx hp hi (by simp at hk; simp [namedQ, hk])]; rfl

theorem rest_at {s : Sig} {f : Flat} (hs : OkS s) {i : Nat} {x : Param} (hx : s[i]? = some x) (hk : x.kind = 2) : decide (0 ≤ atQ s f) = (decide (0 ≤ atQ s f) && decide (atQ s f ≤ i)) := by
  by_cases h0 : 0 ≤ atQ s f
  · obtain ⟨y, _, hy, hyp, hlt⟩ := idxI_find h0
    have hy1 : y.kind = 1 := by simp [atP] at hyp; exact hyp.1
    have : atQ s f ≤ i := by
      refine Classical.byContradiction fun hc => ?_
      have := hs.sorted ((idxI (atP f) s 0).toNat - i) i x y hx (by rw [show i + ((idxI (atP f) s 0).toNat - i) = (idxI (atP f) s 0).toNat by unfold atQ at hc; omega]; exact hy)
      omega
    simp [h0, this]
  · simp [h0]

theorem give_kind (f : Flat) (b : Bool) (q : Param) : giveP f (kindP b q) = kindP b (giveP f q) := by
  unfold giveP kindP namedQ
  obtain ⟨n, k, h, d⟩ := q
  by_cases h1 : k = 1
  · subst h1
    cases b <;> simp <;> split <;> simp
  · by_cases h3 : k = 3
    · subst h3
      simp; split <;> simp
    · simp [h1, h3]

def psQ (s : Sig) (f : Flat) : Sig := psL (atQ s f) f s

def PsF (s : Sig) (f : Flat) : Sig × Bool := if partQ s f && okSig (psQ s f) then (psQ s f, true) else ([], false)

theorem ipartialSig_ct (s : Sig) (f : Flat) (hp : LenPa ⟨s, f⟩) : ACalls pk 9 [.agg (ePa ⟨s, f⟩)] [] (fun r o => r = .tup [rG (PsF s f).1, .one (.bool (PsF s f).2)] ∧ o = oG (PsF s f).1) := by
  obtain ⟨s1, s2⟩ := hp.sig
  have f1 := hp.flat.places
  have f2 := hp.flat.named
  have hv : ACalls pk 6 [.agg (ePa ⟨s, f⟩)] [] (fun r o => r = .one (.bool (partQ s f)) ∧ o = []) := ivalidPartial_ct s f hp.sig hp.flat
  simp only at s1 f1 f2 s2
  refine acalls_of_body Tryz.func9 rfl (by kernel_rfl) rfl ?_
  refine rn rfl ?_
  refine goal_step (step_call [] rfl rfl rfl rfl rfl rfl (hv)) ?_
  rintro σ2 ⟨r, o', ⟨rfl, rfl⟩, hσ⟩
  obtain rfl := Option.some.inj hσ
  clear hσ
  refine rn rfl ?_
  refine goal_cond rfl (fun h => ?_) (fun h => ?_) <;> (try simp only [gt_iff_lt, ge_iff_le, bne_iff_ne, ne_eq, bne_eq_false_iff_eq, beq_iff_eq, beq_eq_false_iff_ne, Bool.not_eq_true', Bool.not_eq_false', decide_eq_true_eq, decide_eq_false_iff_not, List.length_map] at h)
  · refine rn rfl ?_
    refine fin_weak (Weak.adoptO 1 0 4) (fin_is [2] rfl ⟨?_, ?_⟩)
    · simp [PsF, h]; rfl
    · simp [PsF, h]; rfl
  have hq := h
  have hpart := h
  simp only [partQ, Bool.and_eq_true, decide_eq_true_eq] at hq
  obtain ⟨hs, hf⟩ := fitQ_iff.1 hq.1
  have hlen := hs.len
  refine rn rfl ?_
  refine goal_weakCod (Weak.adoptO 2 0 4) ?_
  refine goal_loop_keep (fun m σ => ∃ (q left L : Int) (i l : Nat) (acc : List Param) (tb : Bool), q = i ∧ L = s.length ∧ i ≤ s.length ∧ m = s.length - i ∧ l = acc.length ∧ acc = psL (atQ s f) f (s.take i) ∧ left = ((f.places.length - min i (placesQ s) : Nat) : Int) ∧
      tb = (decide (0 ≤ atQ s f) && decide (atQ s f < i)) ∧
      σ = ⟨[(22, .one (.int .i64 q)), (21, .one (.int .i64 L)), (20, .one (.fs (s.map eQ))), (6, .one (.bool tb)), (5, .one (.int .i64 left)), (4, .one (.op 2 0 0)), (2, .one (.op 1 0 0)), (1, .one (.op 0 0 0))],
        [some ⟨3, [ePa ⟨s, f⟩], false, false, true⟩, some ⟨1, [[.fs []]], false, false, true⟩, some ⟨1, [[.os 3 0 l l]], false, false, true⟩, ownQ acc], []⟩) s.length [22, 21, 20, 6, 5, 4, 2, 1] [0, 1, 2, 3] rfl
    ⟨_, _, _, 0, 0, [], _, rfl, ?_, by omega, by omega, rfl, rfl, ?_, ?_, rfl⟩ ?_
  · simp
  · simp
  · simp
  rintro m σ ⟨q, left, L, i, l, acc, tb, rfl, rfl, hi, rfl, rfl, hacc, rfl, htb, rfl⟩
  have hal := psL_len (atQ s f) f (s.take i)
  rw [← hacc, List.length_take] at hal
  have hP := placesQ_le s
  refine rn rfl ?_
  refine goal_cond rfl (fun h => ?_) (fun h => ?_) <;> (try simp only [gt_iff_lt, ge_iff_le, bne_iff_ne, ne_eq, bne_eq_false_iff_eq, beq_iff_eq, beq_eq_false_iff_ne, Bool.not_eq_true', Bool.not_eq_false', decide_eq_true_eq, decide_eq_false_iff_not, List.length_map] at h)
  · obtain ⟨x, hx⟩ := at_some (xs := s) (i := i) (by omega)
    have hst := psL_succ (at' := atQ s f) (f := f) hx
    rw [← hacc] at hst
    have hskip : skipP (atQ s f) f i x = true → psL (atQ s f) f (s.take (i + 1)) = acc := fun h0 => by rw [hst]; simp [partParam, h0]
    have hpi := hs.placed_iff hx
    have hstep := at_step (f := f) hx
    rw [← htb] at hstep
    have hlt : (decide (atQ s f < ((i + 1 : Nat) : Int))) = decide (atQ s f ≤ i) := by congr 1; simp; omega
    have hrest := fun hk => rest_at (f := f) hs hx hk
    have hnp := fun h1 h2 => np_at hpart hx h1 h2
    refine rn rfl ?_
    refine goal_did rfl rfl (dA_index (eQ x) rfl rfl rfl rfl rfl rfl rfl (by omega) (by (try simp); omega) (map_at (by simpa using hx)) rfl) ?_
    refine rt 9 rfl ?_
    refine goal_cutR (fun σ' => (placedQ x && decide (i < f.places.length)) = false ∧ σ' = ⟨[(22, .one (.int .i64 i)), (21, .one (.int .i64 s.length)), (20, .one (.fs (s.map eQ))), (8, .one (.op 4 0 0)), (6, .one (.bool tb)), (5, .one (.int .i64 (((f.places.length - min i (placesQ s) : Nat) : Int)))), (4, .one (.op 2 0 0)), (2, .one (.op 1 0 0)), (1, .one (.op 0 0 0))],
        [some ⟨3, [ePa ⟨s, f⟩], false, false, true⟩, some ⟨1, [[.fs []]], false, false, true⟩, some ⟨1, [[.os 3 0 acc.length acc.length]], false, false, true⟩, ownQ acc, some ⟨4, [eQ x], false, false, true⟩], []⟩) ?_ ?_
    · refine rn rfl ?_
      refine goal_step (step_call [] rfl rfl rfl rfl rfl rfl (iplaced_ct x)) ?_
      rintro σ2 ⟨r, o', ⟨rfl, rfl⟩, hσ⟩
      obtain rfl := Option.some.inj hσ
      clear hσ
      refine rn rfl ?_
      refine goal_guard rfl rfl rfl (fun h1 => ?_) (fun h1 => ?_) <;> (try simp only [gt_iff_lt, ge_iff_le, bne_iff_ne, ne_eq, bne_eq_false_iff_eq, beq_iff_eq, beq_eq_false_iff_ne, Bool.not_eq_true', Bool.not_eq_false', decide_eq_true_eq, decide_eq_false_iff_not, List.length_map] at h1)
      · have hip := hpi.1 h1
        refine rn rfl ?_
        refine goal_cond rfl (fun h2 => ?_) (fun h2 => ?_) <;> (try simp only [gt_iff_lt, ge_iff_le, bne_iff_ne, ne_eq, bne_eq_false_iff_eq, beq_iff_eq, beq_eq_false_iff_ne, Bool.not_eq_true', Bool.not_eq_false', decide_eq_true_eq, decide_eq_false_iff_not, List.length_map] at h2)
        · refine rn rfl ?_
          refine cut_ext ?_
          refine rn rfl ?_
          refine round_keep (s.length - (i + 1)) [22, 21, 20, 6, 5, 4, 2, 1] [0, 1, 2, 3] (by omega) rfl ⟨_, _, _, i + 1, acc.length, acc, tb, wrap64 (by omega) (by omega), rfl, by omega, rfl, rfl, (hskip (by simp [skipP, h1]; left; omega)).symm, ?_, ?_, rfl⟩
          · rw [wrap64 (by omega) (by omega)]; omega
          · rw [hlt, hstep, hnp h1 (by omega), Bool.or_false]
        · refine rn rfl ?_
          exact cut_nrm [22, 21, 20, 8, 6, 5, 4, 2, 1] [0, 1, 2, 3, 4] rfl ⟨by simp [h1]; omega, rfl⟩
      · refine rn rfl ?_
        exact cut_nrm [22, 21, 20, 8, 6, 5, 4, 2, 1] [0, 1, 2, 3, 4] rfl ⟨by simp [h1], rfl⟩
    rintro _ ⟨hns, rfl⟩
    have hmin : min (i + 1) (placesQ s) = min i (placesQ s) ∨ f.places.length ≤ min i (placesQ s) := by
      by_cases hip : i < placesQ s
      · right
        have := hpi.2 hip
        rw [this] at hns
        simp at hns
        omega
      · left; omega
    have hmin' : f.places.length - min (i + 1) (placesQ s) = f.places.length - min i (placesQ s) := by omega
    refine rn rfl ?_
    refine goal_step (step_call [] rfl rfl rfl rfl rfl rfl (ipairAt_ct f.named x.name (by omega))) ?_
    rintro σ2 ⟨r, o', ⟨rfl, rfl⟩, hσ⟩
    obtain rfl := Option.some.inj hσ
    clear hσ
    refine rt 12 rfl ?_
    refine goal_cutR (fun σ' => σ' = ⟨[(22, .one (.int .i64 i)), (21, .one (.int .i64 s.length)), (20, .one (.fs (s.map eQ))), (8, .one (.op 4 0 0)), (6, .one (.bool (tb || atP f x))), (5, .one (.int .i64 (((f.places.length - min i (placesQ s) : Nat) : Int)))), (4, .one (.op 2 0 0)), (2, .one (.op 1 0 0)), (1, .one (.op 0 0 0))],
        [some ⟨3, [ePa ⟨s, f⟩], false, false, true⟩, some ⟨1, [[.fs []]], false, false, true⟩, some ⟨1, [[.os 3 0 acc.length acc.length]], false, false, true⟩, ownQ acc, some ⟨4, [eQ (giveP f x)], false, false, true⟩], []⟩) ?_ ?_
    · refine rn rfl ?_
      refine goal_guard rfl rfl rfl (fun h1 => ?_) (fun h1 => ?_) <;> (try simp only [gt_iff_lt, ge_iff_le, bne_iff_ne, ne_eq, bne_eq_false_iff_eq, beq_iff_eq, beq_eq_false_iff_ne, Bool.not_eq_true', Bool.not_eq_false', decide_eq_true_eq, decide_eq_false_iff_not, List.length_map] at h1)
      · obtain ⟨r, hr1, hr2, hr3⟩ := pair_at h1
        have hany : f.named.any (nameIs x.name) = true := by rw [pair_any]; simpa using h1
        refine rn rfl ?_
        refine goal_step (step_call [] rfl rfl rfl rfl rfl rfl (inamed_ct x)) ?_
        rintro σ2 ⟨r, o', ⟨rfl, rfl⟩, hσ⟩
        obtain rfl := Option.some.inj hσ
        clear hσ
        refine rn rfl ?_
        refine goal_cond rfl (fun h2 => ?_) (fun h2 => ?_) <;> (try simp only [gt_iff_lt, ge_iff_le, bne_iff_ne, ne_eq, bne_eq_false_iff_eq, beq_iff_eq, beq_eq_false_iff_ne, Bool.not_eq_true', Bool.not_eq_false', decide_eq_true_eq, decide_eq_false_iff_not, List.length_map] at h2)
        · have hg : giveP f x = ⟨x.name, x.kind, true, r.value⟩ := by unfold giveP; rw [if_pos h2, hr1]
          rw [hg]
          refine rn rfl ?_
          refine goal_draw' [0] 11 rfl ?_
          refine drn [0, 1, 2, 3, 7] (by kernel_rfl) (by kernel_rfl) rfl rfl ?_
          refine AH_did 4 rfl (by kernel_rfl) (by kernel_rfl) (by kernel_rfl) rfl rfl (dA_index (eP r) rfl rfl rfl rfl rfl rfl rfl (by omega) (by (try simp); omega) (map_at (by simpa using hr2)) rfl) ?_
          refine drn [5, 6] (by kernel_rfl) (by kernel_rfl) rfl rfl ?_
          refine AH_oneDid 8 rfl (by kernel_rfl) rfl (dA_step rfl) (mdOk rfl) ?_
          refine drn [9] (by kernel_rfl) (by kernel_rfl) rfl rfl ?_
          refine AH_oneDid 10 rfl (by kernel_rfl) rfl (dA_step rfl) (mdOk rfl) ?_
          refine AH_end (by kernel_rfl) ?_
          refine rn rfl ?_
          refine rn rfl ?_
          refine goal_guard rfl rfl rfl (fun h5 => ?_) (fun h5 => ?_)
          · have ht : (tb || atP f x) = true := by rw [h5]; rfl
            rw [ht]
            refine rn rfl ?_
            exact cut_nrm [22, 21, 20, 8, 6, 5, 4, 2, 1] [0, 1, 2, 3, 4] rfl rfl
          · have ht : (tb || atP f x) = (x.kind == 1) := by rw [h5]; simp [atP, hany]
            rw [ht]
            refine rn rfl ?_
            exact cut_nrm [22, 21, 20, 8, 6, 5, 4, 2, 1] [0, 1, 2, 3, 4] rfl rfl
        · have hg : giveP f x = x := by unfold giveP; rw [if_neg (by simp [h2])]
          have ht : (tb || atP f x) = tb := by
            have : (x.kind == 1) = false := by simp [namedQ] at h2; simp [h2]
            simp [atP, this]
          rw [hg, ht]
          refine rn rfl ?_
          exact cut_nrm [22, 21, 20, 8, 6, 5, 4, 2, 1] [0, 1, 2, 3, 4] rfl rfl
      · have hg : giveP f x = x := by unfold giveP; rw [pair_none (by omega)]; split <;> rfl
        have hany : f.named.any (nameIs x.name) = false := by rw [pair_any]; simpa using h1
        have ht : (tb || atP f x) = tb := by simp [atP, hany]
        rw [hg, ht]
        refine rn rfl ?_
        exact cut_nrm [22, 21, 20, 8, 6, 5, 4, 2, 1] [0, 1, 2, 3, 4] rfl rfl
    rintro _ rfl
    rw [← hstep]
    have hyk : (giveP f x).kind = x.kind := by unfold giveP; split <;> (try split) <;> rfl
    have hpp : skipP (atQ s f) f i x = false → partParam (atQ s f) f i x = some (kindP (decide (0 ≤ atQ s f) && decide (atQ s f ≤ i)) (giveP f x)) := fun h0 => by simp [partParam, h0, give_kind]
    generalize htc : (decide (0 ≤ atQ s f) && decide (atQ s f ≤ (i : Int))) = tc at hpp hrest ⊢
    generalize giveP f x = y at hyk hpp ⊢
    refine rt 15 rfl ?_
    refine goal_cutR (fun σ' => skipP (atQ s f) f i x = false ∧ σ' = ⟨[(22, .one (.int .i64 i)), (21, .one (.int .i64 s.length)), (20, .one (.fs (s.map eQ))), (8, .one (.op 4 0 0)), (6, .one (.bool tc)), (5, .one (.int .i64 (((f.places.length - min i (placesQ s) : Nat) : Int)))), (4, .one (.op 2 0 0)), (2, .one (.op 1 0 0)), (1, .one (.op 0 0 0))],
        [some ⟨3, [ePa ⟨s, f⟩], false, false, true⟩, some ⟨1, [[.fs []]], false, false, true⟩, some ⟨1, [[.os 3 0 acc.length acc.length]], false, false, true⟩, ownQ acc, some ⟨4, [eQ y], false, false, true⟩], []⟩) ?_ ?_
    · refine rn rfl ?_
      refine goal_guard rfl rfl rfl (fun h1 => ?_) (fun h1 => ?_)
      · refine rn rfl ?_
        refine goal_cond rfl (fun h2 => ?_) (fun h2 => ?_) <;> (try simp only [gt_iff_lt, ge_iff_le, bne_iff_ne, ne_eq, bne_eq_false_iff_eq, beq_iff_eq, beq_eq_false_iff_ne, Bool.not_eq_true', Bool.not_eq_false', decide_eq_true_eq, decide_eq_false_iff_not, List.length_map] at h2)
        · refine rn rfl ?_
          refine cut_ext ?_
          refine rn rfl ?_
          rw [hyk] at h2
          have hA := hrest h2
          rw [h1] at hA
          refine round_keep (s.length - (i + 1)) [22, 21, 20, 6, 5, 4, 2, 1] [0, 1, 2, 3] (by omega) rfl ⟨_, _, _, i + 1, acc.length, acc, tc, wrap64 (by omega) (by omega), rfl, by omega, rfl, rfl, (hskip (by simp [skipP, h2]; right; simpa using hA)).symm, by rw [hmin'], by rw [hlt, htc], rfl⟩
        · refine rn rfl ?_
          rw [hyk] at h2
          exact cut_nrm [22, 21, 20, 8, 6, 5, 4, 2, 1] [0, 1, 2, 3, 4] rfl ⟨by simp only [skipP, hns]; simp [h2], rfl⟩
      · refine rn rfl ?_
        have hk2 : (x.kind == 2 && decide (0 ≤ atQ s f)) = false := by
          cases hk : x.kind == 2 with
          | false => rfl
          | true => rw [hrest (by simpa using hk), h1]; rfl
        exact cut_nrm [22, 21, 20, 8, 6, 5, 4, 2, 1] [0, 1, 2, 3, 4] rfl ⟨by simp only [skipP, hns, hk2]; rfl, rfl⟩
    rintro _ ⟨hnsk, rfl⟩
    rw [hpp hnsk] at hst
    refine rt 16 rfl ?_
    refine goal_cutR (fun σ' => σ' = ⟨[(22, .one (.int .i64 i)), (21, .one (.int .i64 s.length)), (20, .one (.fs (s.map eQ))), (8, .one (.op 4 0 0)), (6, .one (.bool tc)), (5, .one (.int .i64 (((f.places.length - min i (placesQ s) : Nat) : Int)))), (4, .one (.op 2 0 0)), (2, .one (.op 1 0 0)), (1, .one (.op 0 0 0))],
        [some ⟨3, [ePa ⟨s, f⟩], false, false, true⟩, some ⟨1, [[.fs []]], false, false, true⟩, some ⟨1, [[.os 3 0 acc.length acc.length]], false, false, true⟩, ownQ acc, some ⟨4, [eQ (kindP tc y)], false, false, true⟩], []⟩) ?_ ?_
    · refine rn rfl ?_
      refine goal_guard rfl rfl rfl (fun h1 => ?_) (fun h1 => ?_)
      · refine rn rfl ?_
        refine goal_cond rfl (fun h2 => ?_) (fun h2 => ?_) <;> (try simp only [gt_iff_lt, ge_iff_le, bne_iff_ne, ne_eq, bne_eq_false_iff_eq, beq_iff_eq, beq_eq_false_iff_ne, Bool.not_eq_true', Bool.not_eq_false', decide_eq_true_eq, decide_eq_false_iff_not, List.length_map] at h2)
        · have hk : kindP tc y = ⟨y.name, 3, y.hasD, y.dflt⟩ := by unfold kindP; rw [if_pos]; simp [h1, h2]
          rw [hk]
          refine rn rfl ?_
          exact cut_nrm [22, 21, 20, 8, 6, 5, 4, 2, 1] [0, 1, 2, 3, 4] rfl rfl
        · have hk : kindP tc y = y := by unfold kindP; rw [if_neg]; simp [h2]
          rw [hk]
          refine rn rfl ?_
          exact cut_nrm [22, 21, 20, 8, 6, 5, 4, 2, 1] [0, 1, 2, 3, 4] rfl rfl
      · have hk : kindP tc y = y := by unfold kindP; rw [if_neg]; simp [h1]
        rw [hk]
        refine rn rfl ?_
        exact cut_nrm [22, 21, 20, 8, 6, 5, 4, 2, 1] [0, 1, 2, 3, 4] rfl rfl
    rintro _ rfl
    generalize kindP tc y = z at hst ⊢
    refine rn rfl ?_
    refine goal_did rfl rfl (dA_append (old := (acc).map eQ) (rows := ([z] : List Param).map eQ) (((acc) ++ ([z] : List Param)).map eQ) (acc.length + 1) true (Dst.own rfl rfl rfl rfl rfl (by first | (simp; done) | (simp; omega)) (whole (by first | (simp; done) | (simp; omega)))) (Src.os rfl rfl (Nat.le_refl 1) rfl) rfl rfl rfl rfl rfl rfl rfl rfl (rows_len eQ_len _) (rows_len eQ_len _) (by (try simp only [List.length_map, List.length_append, List.length_cons, List.length_nil, List.length_take, List.length_drop]); show _ * 40 ≤ _; omega) (by first | (simp; done) | (simp; omega)) (by simp) (by first | (simp; done) | (simp; omega)) (fun _ => noOwnR_map _ eQ_noOwn _)) ?_
    refine rn rfl ?_
    refine round_keep (s.length - (i + 1)) [22, 21, 20, 6, 5, 4, 2, 1] [0, 1, 2, 6] (by omega) rfl ⟨_, _, _, i + 1, acc.length + 1, acc ++ [z], tc, wrap64 (by omega) (by omega), rfl, by omega, rfl, by simp, by rw [hst]; rfl, by rw [hmin'], by rw [hlt, htc], rfl⟩
  · refine rn rfl (round_ext ?_)
    have hfin : acc = psQ s f := by rw [hacc, show i = s.length by omega, List.take_length]; rfl
    have han : ∀ p ∈ acc, p.name.length ≤ 9223372036854775807 := by rw [hfin]; exact psL_names s2
    refine rn rfl ?_
    refine goal_step (step_lendE [] rfl rfl rfl rfl rfl rfl rfl (cons_eq (asG acc) rfl) (ivalidSig_ct acc (by omega) han) (by rintro r o ⟨rfl, rfl⟩; exact ⟨rfl, rfl⟩)) ?_
    rintro σ2 ⟨r, o', ⟨rfl, rfl⟩, hσ⟩
    obtain rfl := Option.some.inj hσ
    clear hσ
    refine rn rfl ?_
    refine goal_cond rfl (fun h2 => ?_) (fun h2 => ?_) <;> (try simp only [gt_iff_lt, ge_iff_le, bne_iff_ne, ne_eq, bne_eq_false_iff_eq, beq_iff_eq, beq_eq_false_iff_ne, Bool.not_eq_true', Bool.not_eq_false', decide_eq_true_eq, decide_eq_false_iff_not, List.length_map] at h2)
    · refine rn rfl ?_
      refine fin_weak (Weak.adoptO 1 0 4) (fin_is [4] rfl ⟨?_, ?_⟩)
      · simp [PsF, hpart, ← hfin, h2]; rfl
      · simp [PsF, hpart, ← hfin, h2]; rfl
    · refine rn rfl ?_
      refine goal_step (step_callE [] rfl rfl rfl rfl rfl rfl (cons_eq (asG acc) rfl) (icopySig_ct acc (by omega))) ?_
      rintro σ2 ⟨r, o', ⟨rfl, rfl⟩, hσ⟩
      obtain rfl := Option.some.inj hσ
      clear hσ
      refine rn rfl ?_
      refine rn rfl (fin_is [4] rfl ⟨?_, ?_⟩)
      · simp [PsF, hpart, ← hfin, h2]; rfl
      · simp [PsF, hpart, ← hfin, h2]; rfl

theorem ipartialSigD_ct (s : Sig) (f : Flat) (hp : LenPa ⟨s, f⟩) : ACalls pk 9 [.agg (ePa ⟨s, f⟩)] [] (fun r o => r = .tup [.agg (eG (PsF s f).1), .one (.bool (PsF s f).2)] ∧ o = []) :=
  (ipartialSig_ct s f hp).told [] (by rintro r o ⟨rfl, rfl⟩; exact ⟨_, _, rfl, congrArg (fun t => T.tup [t, .one (.bool (PsF s f).2)]) (asG _), rfl⟩)

theorem partFlat_ct (bs : Str) (k : Int) (s : Sig) (hs : SmallS s) (hb : bs.length ≤ 2000) (hk : 0 ≤ k) (hk' : k ≤ 1073600000) :
    ACalls pk 45 [.one (.op 0 0 0), .agg (eG s)] [oR bs k] (fun r o => ∃ f k', MidF f 24 8 ∧ k ≤ k' ∧ k' ≤ k + 210 ∧ r = .agg (eF f) ∧ o = [oR bs k']) := by
  have hsl := hs.len
  have hsn : ∀ p ∈ s, p.name.length ≤ 9223372036854775807 := fun p hp => by have := hs.names p hp; omega
  refine acalls_of_body Tryz.func45 rfl (by kernel_rfl) rfl ?_
  refine rt 2 rfl ?_
  refine goal_cutR (fun σ' => ∃ (f : Flat) (k1 : Int), MidF f 24 8 ∧ k ≤ k1 ∧ k1 ≤ k + 200 ∧ σ' = ⟨[(5, .one (.op 3 0 0)), (4, .one (.op 2 0 0)), (0, .one (.op 0 0 0))], [oR bs k1, some ⟨1, [eG s], false, false, true⟩, some ⟨2, [[.fs [], .fs []]], false, false, true⟩, some ⟨2, [eF f], false, false, true⟩], []⟩) ?_ ?_
  · refine rn rfl ?_
    refine goal_step (step_call [] rfl rfl rfl rfl rfl rfl (svalidSig_ct s (by omega) hsn)) ?_
    rintro σ2 ⟨r, o', ⟨rfl, rfl⟩, hσ⟩
    obtain rfl := Option.some.inj hσ
    clear hσ
    refine rn rfl ?_
    refine goal_cond rfl (fun h1 => ?_) (fun h1 => ?_) <;> (try simp only [gt_iff_lt, ge_iff_le, bne_iff_ne, ne_eq, bne_eq_false_iff_eq, beq_iff_eq, beq_eq_false_iff_ne, Bool.not_eq_true', Bool.not_eq_false', decide_eq_true_eq, decide_eq_false_iff_not, List.length_map] at h1)
    · refine rn rfl ?_
      refine goal_step (step_callE [0] rfl rfl rfl rfl rfl rfl rfl (callFor_ct bs k s (okSig_iff.1 h1) hb hk (by omega))) ?_
      rintro σ2 ⟨r, o', ⟨f, k1, hf, hk1, hk2, rfl, rfl⟩, hσ⟩
      obtain rfl := Option.some.inj hσ
      clear hσ
      refine rn rfl ?_
      exact cut_nrm [5, 4, 0] [1, 2, 3] rfl ⟨f, k1, hf, hk1, hk2, rfl⟩
    · refine rn rfl ?_
      exact cut_nrm [5, 4, 0] [1, 2, 3] rfl ⟨zF, k, ⟨by simp [zF], by simp [zF], by simp [zF]⟩, by omega, by omega, rfl⟩
  rintro _ ⟨f, k1, hf, hk1, hk2, rfl⟩
  have hf1 := hf.places
  have hf2 := hf.named
  refine rt 4 rfl ?_
  refine goal_cutR (fun σ' => ∃ (g : Flat) (k2 : Int), MidF g 24 8 ∧ k1 ≤ k2 ∧ k2 ≤ k1 + 2 ∧ σ' = ⟨[(5, .one (.op 3 0 0)), (4, .one (.op 2 0 0)), (0, .one (.op 0 0 0))], [oR bs k2, some ⟨1, [eG s], false, false, true⟩, some ⟨2, [[.fs [], .fs []]], false, false, true⟩, some ⟨2, [eF g], false, false, true⟩], []⟩) ?_ ?_
  · refine rn rfl ?_
    refine goal_guard rfl rfl rfl (fun h1 => ?_) (fun h1 => ?_) <;> (try simp only [gt_iff_lt, ge_iff_le, bne_iff_ne, ne_eq, bne_eq_false_iff_eq, beq_iff_eq, beq_eq_false_iff_ne, Bool.not_eq_true', Bool.not_eq_false', decide_eq_true_eq, decide_eq_false_iff_not, List.length_map] at h1)
    · refine rn rfl ?_
      refine goal_step (step_callE [0] rfl rfl rfl rfl rfl rfl (rfl) (pick_ct bs k1 2 hb (by omega) (by omega) (by omega))) ?_
      rintro σ2 ⟨r, o', ⟨⟨z, rfl, _, _⟩, rfl⟩, hσ⟩
      obtain rfl := Option.some.inj hσ
      clear hσ
      refine rn rfl ?_
      refine goal_cond rfl (fun h2 => ?_) (fun h2 => ?_) <;> (try simp only [gt_iff_lt, ge_iff_le, bne_iff_ne, ne_eq, bne_eq_false_iff_eq, beq_iff_eq, beq_eq_false_iff_ne, Bool.not_eq_true', Bool.not_eq_false', decide_eq_true_eq, decide_eq_false_iff_not, List.length_map] at h2)
      · refine rn rfl ?_
        refine goal_drawL [3] [9] 10 rfl ?_
        refine drnL [0, 1, 2, 3, 4, 5] (by kernel_rfl) (by kernel_rfl) rfl rfl ?_
        refine AHL_one (i := 6) (by kernel_rfl) rfl (step_callE [0] rfl rfl rfl rfl rfl rfl (rfl) (pick_ct bs (k1 + 1) (f.places.map eI).length hb (by omega) (by omega) (by simp; omega))) (by simp) ?_
        rintro σ2 ⟨r, o', ⟨⟨y, rfl, hy, _⟩, rfl⟩, hσ⟩
        obtain rfl := Option.some.inj hσ
        clear hσ
        have hy' := hy (by simp; omega)
        simp only [List.length_map] at hy'
        obtain ⟨j, rfl⟩ : ∃ j : Nat, y = j := ⟨y.toNat, by omega⟩
        refine AHL_did 7 rfl (by kernel_rfl) (by kernel_rfl) (by kernel_rfl) (by kernel_rfl) rfl rfl (dA_slice 0 j ((f.places.take j).map eI) rfl rfl rfl rfl rfl Bnd.none_ (Bnd.some_ rfl rfl) (rows_len eI_len _) (by omega) (by simp; omega) rfl (by simp)) ?_
        refine drnL [8] (by kernel_rfl) (by kernel_rfl) rfl rfl ?_
        refine AHL_lateDid 9 rfl (by kernel_rfl) rfl rfl (dA_step rfl) ?_
        refine AH_end (by kernel_rfl) ?_
        refine rn rfl ?_
        exact cut_nrm [5, 4, 0] [1, 2, 3] rfl ⟨⟨f.places.take j, f.named⟩, k1 + 1 + 1, ⟨by simp; omega, hf2, hf.names⟩, by omega, by omega, rfl⟩
      · refine rn rfl ?_
        exact cut_nrm [5, 4, 0] [1, 2, 3] rfl ⟨f, k1 + 1, hf, by omega, by omega, rfl⟩
    · refine rn rfl ?_
      exact cut_nrm [5, 4, 0] [1, 2, 3] rfl ⟨f, k1, hf, by omega, by omega, rfl⟩
  rintro _ ⟨g, k2, hg, hk3, hk4, rfl⟩
  have hg1 := hg.places
  have hg2 := hg.named
  refine rt 6 rfl ?_
  refine goal_cutR (fun σ' => ∃ (f' : Flat) (k3 : Int), MidF f' 24 8 ∧ k2 ≤ k3 ∧ k3 ≤ k2 + 1 ∧ σ' = ⟨[(5, .one (.op 3 0 0)), (4, .one (.op 2 0 0)), (0, .one (.op 0 0 0))], [oR bs k3, some ⟨1, [eG s], false, false, true⟩, some ⟨2, [[.fs [], .fs []]], false, false, true⟩, some ⟨2, [eF f'], false, false, true⟩], []⟩) ?_ ?_
  · refine rn rfl ?_
    refine goal_guard rfl rfl rfl (fun h1 => ?_) (fun h1 => ?_) <;> (try simp only [gt_iff_lt, ge_iff_le, bne_iff_ne, ne_eq, bne_eq_false_iff_eq, beq_iff_eq, beq_eq_false_iff_ne, Bool.not_eq_true', Bool.not_eq_false', decide_eq_true_eq, decide_eq_false_iff_not, List.length_map] at h1)
    · refine rn rfl ?_
      refine goal_step (step_callE [0] rfl rfl rfl rfl rfl rfl (rfl) (pick_ct bs k2 2 hb (by omega) (by omega) (by omega))) ?_
      rintro σ2 ⟨r, o', ⟨⟨z, rfl, _, _⟩, rfl⟩, hσ⟩
      obtain rfl := Option.some.inj hσ
      clear hσ
      refine rn rfl ?_
      refine goal_cond rfl (fun h2 => ?_) (fun h2 => ?_) <;> (try simp only [gt_iff_lt, ge_iff_le, bne_iff_ne, ne_eq, bne_eq_false_iff_eq, beq_iff_eq, beq_eq_false_iff_ne, Bool.not_eq_true', Bool.not_eq_false', decide_eq_true_eq, decide_eq_false_iff_not, List.length_map] at h2)
      · refine rn rfl ?_
        refine goal_did rfl rfl (dA_slice 1 g.named.length ((g.named.drop 1).map eP) rfl rfl rfl rfl rfl (Bnd.some_ rfl rfl) (by simp [Bnd]) (rows_len eP_len _) (by omega) (by simp) rfl (by simp [List.take_of_length_le])) ?_
        refine rn rfl ?_
        exact cut_nrm [5, 4, 0] [1, 2, 3] rfl ⟨⟨g.places, g.named.drop 1⟩, k2 + 1, ⟨hg1, by simp; omega, fun p hp => hg.names p (List.mem_of_mem_drop hp)⟩, by omega, by omega, rfl⟩
      · refine rn rfl ?_
        exact cut_nrm [5, 4, 0] [1, 2, 3] rfl ⟨g, k2 + 1, hg, by omega, by omega, rfl⟩
    · refine rn rfl ?_
      exact cut_nrm [5, 4, 0] [1, 2, 3] rfl ⟨g, k2, hg, by omega, by omega, rfl⟩
  rintro _ ⟨f', k3, hf', hk5, hk6, rfl⟩
  exact rn rfl (fin_is [] rfl ⟨f', k3, hf', by omega, by omega, rfl, rfl⟩)

theorem somePartial_ct (bs : Str) (k : Int) (hb : bs.length ≤ 2000) (hk : 0 ≤ k) (hk' : k ≤ 1073500000) :
    ACalls pk 19 [.one (.op 0 0 0)] [oR bs k] (fun r o => ∃ p k', SmallS p.sig ∧ MidF p.flat 24 8 ∧ k ≤ k' ∧ k' ≤ k + 400 ∧ r = .agg (ePa p) ∧ o = [oR bs k']) := by
  refine acalls_of_body Tryz.func19 rfl (by kernel_rfl) rfl ?_
  refine rn rfl ?_
  refine goal_step (step_callE [0] rfl rfl rfl rfl rfl rfl rfl (someSignature_ct bs k hb hk (by omega))) ?_
  rintro σ2 ⟨r, o', ⟨s, k1, hs, hk1, hk2, rfl, rfl⟩, hσ⟩
  obtain rfl := Option.some.inj hσ
  clear hσ
  refine rn rfl ?_
  refine goal_step (step_callE [0] rfl rfl rfl rfl rfl rfl (rfl) (pick_ct bs k1 10 hb (by omega) (by omega) (by omega))) ?_
  rintro σ2 ⟨r, o', ⟨⟨z, rfl, _, _⟩, rfl⟩, hσ⟩
  obtain rfl := Option.some.inj hσ
  clear hσ
  refine rn rfl ?_
  refine goal_cond rfl (fun h1 => ?_) (fun h1 => ?_) <;> (try simp only [gt_iff_lt, ge_iff_le, bne_iff_ne, ne_eq, bne_eq_false_iff_eq, beq_iff_eq, beq_eq_false_iff_ne, Bool.not_eq_true', Bool.not_eq_false', decide_eq_true_eq, decide_eq_false_iff_not, List.length_map] at h1)
  · refine rn rfl ?_
    refine goal_draw' [2] 5 rfl ?_
    refine drn [0, 1] (by kernel_rfl) (by kernel_rfl) rfl rfl ?_
    refine AH_one (i := 2) (by kernel_rfl) (step_callE [0] rfl rfl rfl rfl rfl rfl (rfl) (someFlat_ct bs (k1 + 1) hb (by omega) (by omega))) (by simp) ?_
    rintro σ2 ⟨r, o', ⟨f, k2, hf, hk3, hk4, rfl, rfl⟩, hσ⟩
    obtain rfl := Option.some.inj hσ
    clear hσ
    refine drn [3] (by kernel_rfl) (by kernel_rfl) rfl rfl ?_
    refine AH_oneDid 4 rfl (by kernel_rfl) rfl (dA_step rfl) (mdOk rfl) ?_
    refine AH_end (by kernel_rfl) ?_
    refine rn rfl ?_
    exact rn rfl (fin_is [] rfl ⟨⟨s, f⟩, k2, hs, ⟨Nat.le_trans hf.places (by omega), Nat.le_trans hf.named (by omega), hf.names⟩, by omega, by omega, rfl, rfl⟩)
  · refine rn rfl ?_
    refine goal_draw' [2] 6 rfl ?_
    refine drn [0, 1, 2] (by kernel_rfl) (by kernel_rfl) rfl rfl ?_
    refine AH_one (i := 3) (by kernel_rfl) (step_callE [0] rfl rfl rfl rfl rfl rfl (rfl) (partFlat_ct bs (k1 + 1) s hs hb (by omega) (by omega))) (by simp) ?_
    rintro σ2 ⟨r, o', ⟨f, k2, hf, hk3, hk4, rfl, rfl⟩, hσ⟩
    obtain rfl := Option.some.inj hσ
    clear hσ
    refine drn [4] (by kernel_rfl) (by kernel_rfl) rfl rfl ?_
    refine AH_oneDid 5 rfl (by kernel_rfl) rfl (dA_step rfl) (mdOk rfl) ?_
    refine AH_end (by kernel_rfl) ?_
    refine rn rfl ?_
    exact rn rfl (fin_is [] rfl ⟨⟨s, f⟩, k2, hs, hf, by omega, by omega, rfl, rfl⟩)

theorem SmallS.lenS {s : Sig} (h : SmallS s) : LenS s := ⟨by have := h.len; omega, fun p hp => by have := h.names p hp; omega⟩

theorem MidF.lenF {f : Flat} {a b : Nat} (h : MidF f a b) (ha : a ≤ 1000) (hb : b ≤ 1000) : LenF f := ⟨by have := h.places; omega, by have := h.named; omega, fun p hp => by have := h.names p hp; omega⟩

theorem eqParam_b (x : Param) : eqCells (eQ x) (eQ x) = some true := by
  simp [eqCells, eQ, eqCell, eqKind]

theorem equalSigSelf_ct (s : Sig) (h : s.length ≤ 2097152) : ACalls pk 10 [.agg (eG s), .agg (eG s)] [] (fun r o => r = .one (.bool true) ∧ o = []) := by
  refine acalls_of_body Tryz.func10 rfl (by kernel_rfl) rfl ?_
  refine rn rfl ?_
  refine goal_cond rfl (fun h0 => by simp at h0) (fun _ => ?_)
  refine rn rfl ?_
  refine goal_loop_keep (fun m σ => ∃ (n : Int) (i : Nat), n = i ∧ i ≤ s.length ∧ m = s.length - i ∧
      σ = ⟨[(5, .one (.int .i64 n)), (3, .one (.op 1 0 0)), (2, .one (.op 0 0 0))], [some ⟨1, [eG s], false, false, true⟩, some ⟨1, [eG s], false, false, true⟩], []⟩) s.length [5, 3, 2] [0, 1] rfl
    ⟨_, 0, rfl, by omega, by omega, rfl⟩ ?_
  rintro m σ ⟨n, i, rfl, hi, rfl, rfl⟩
  refine rn rfl ?_
  refine goal_cond rfl (fun hc => ?_) (fun hc => ?_) <;> (try simp only [gt_iff_lt, ge_iff_le, bne_iff_ne, ne_eq, bne_eq_false_iff_eq, beq_iff_eq, beq_eq_false_iff_ne, Bool.not_eq_true', Bool.not_eq_false', decide_eq_true_eq, decide_eq_false_iff_not, List.length_map] at hc)
  · obtain ⟨x, hx⟩ := at_some (xs := s) (i := i) (by omega)
    refine rn rfl ?_
    refine goal_draw' [0, 1] 11 rfl ?_
    refine drn [0, 1, 2, 5, 6, 7] (by kernel_rfl) (by kernel_rfl) rfl rfl ?_
    refine AH_did 3 rfl (by kernel_rfl) (by kernel_rfl) (by kernel_rfl) rfl rfl (dA_index (eQ x) rfl rfl rfl rfl rfl rfl rfl (by omega) (by (try simp); omega) (map_at (by simpa using hx)) rfl) ?_
    refine drn [4] (by kernel_rfl) (by kernel_rfl) rfl rfl ?_
    refine AH_did 8 rfl (by kernel_rfl) (by kernel_rfl) (by kernel_rfl) rfl rfl (dA_index (eQ x) rfl rfl rfl rfl rfl rfl rfl (by omega) (by (try simp); omega) (map_at (by simpa using hx)) rfl) ?_
    refine drn [9] (by kernel_rfl) (by kernel_rfl) rfl rfl ?_
    refine AH_did 10 rfl (by kernel_rfl) (by kernel_rfl) (by kernel_rfl) rfl rfl (dA_eqStruct (b := true) false (.inr ⟨rfl, rfl⟩) rfl rfl rfl rfl rfl rfl (eqParam_b x) (by kernel_rfl) (by kernel_rfl) (by kernel_rfl) rfl) ?_
    refine AH_end (by kernel_rfl) ?_
    refine rn rfl ?_
    refine goal_cond rfl (fun h0 => by cases h0) (fun _ => ?_)
    refine rn rfl ?_
    refine round_keep (s.length - (i + 1)) [5, 3, 2] [0, 1] (by omega) rfl ⟨_, i + 1, wrap64 (by omega) (by omega), by omega, rfl, rfl⟩
  · refine rn rfl (round_ext ?_)
    exact rn rfl (fin_is [] rfl ⟨rfl, rfl⟩)

structure LenP (p : Part) : Prop where
  sig : LenS p.sig
  flat : LenF p.flat

def zPa : Part := ⟨[], zF⟩

def PofF (s : Sig) (f : Flat) : Part × Bool := if partQ s f then (⟨s, f⟩, true) else (zPa, false)

theorem ipartialOf_ct (s : Sig) (f : Flat) (hs : LenS s) (hf : LenF f) : ACalls pk 8 [.agg (eG s), .agg (eF f)] [] (fun r o => r = .tup [rPa (PofF s f).1, .one (.bool (PofF s f).2)] ∧ o = oPa (PofF s f).1) := by
  obtain ⟨s1, s2⟩ := hs
  have f1 := hf.places
  have f2 := hf.named
  refine acalls_of_body Tryz.func8 rfl (by kernel_rfl) rfl ?_
  refine rn rfl ?_
  refine goal_step (step_call [] rfl rfl rfl rfl rfl rfl (ivalidPartial_ct s f ⟨s1, s2⟩ hf)) ?_
  rintro σ2 ⟨r, o', ⟨rfl, rfl⟩, hσ⟩
  obtain rfl := Option.some.inj hσ
  clear hσ
  refine rn rfl ?_
  refine goal_cond rfl (fun h => ?_) (fun h => ?_) <;> (try simp only [gt_iff_lt, ge_iff_le, bne_iff_ne, ne_eq, bne_eq_false_iff_eq, beq_iff_eq, beq_eq_false_iff_ne, Bool.not_eq_true', Bool.not_eq_false', decide_eq_true_eq, decide_eq_false_iff_not, List.length_map] at h)
  · have hz : PofF s f = (zPa, false) := by simp [PofF, h]
    rw [hz]
    refine rn rfl ?_
    exact fin_weak (Weak.adoptO 2 0 4) (fin_weak (Weak.adoptO 2 1 1) (fin_weak (Weak.adoptO 2 2 2) (fin_is [3, 4, 5] rfl ⟨rfl, rfl⟩)))
  · have hz : PofF s f = (⟨s, f⟩, true) := by simp [PofF, h]
    rw [hz]
    refine rn rfl ?_
    refine goal_draw' [0, 1] 7 rfl ?_
    refine drn [0, 2] (by kernel_rfl) (by kernel_rfl) rfl rfl ?_
    refine AH_one (i := 1) (by kernel_rfl) (step_call [] rfl rfl rfl rfl rfl rfl (icopySig_ct s (by omega))) (by simp) ?_
    rintro σ2 ⟨r, o', ⟨rfl, rfl⟩, hσ⟩
    obtain rfl := Option.some.inj hσ
    clear hσ
    refine AH_one (i := 3) (by kernel_rfl) (step_call [] rfl rfl rfl rfl rfl rfl (copyOf_ct f (by omega) (by omega))) (by simp) ?_
    rintro σ2 ⟨r, o', ⟨rfl, rfl⟩, hσ⟩
    obtain rfl := Option.some.inj hσ
    clear hσ
    refine drn [4] (by kernel_rfl) (by kernel_rfl) rfl rfl ?_
    refine AH_oneDid 5 rfl (by kernel_rfl) rfl (dA_step rfl) (mdOk rfl) ?_
    refine drn [6] (by kernel_rfl) (by kernel_rfl) rfl rfl ?_
    refine AH_end (by kernel_rfl) ?_
    refine rn rfl ?_
    exact rn rfl (fin_is [3, 4, 5] rfl ⟨rfl, rfl⟩)

theorem tellPa (p : Part) (b : Bool) : T.tup [T.agg [C.fs (List.take p.sig.length (List.drop 0 (p.sig.map eQ))), C.fs (List.take p.flat.places.length (List.drop 0 (p.flat.places.map eI))), C.fs (List.take p.flat.named.length (List.drop 0 (p.flat.named.map eP)))], .one (.bool b)] = .tup [.agg (ePa p), .one (.bool b)] := by
  rw [asPa]

theorem place1_small (np : Nat) (pl : List Int) (i : Nat) (p : Param) (h : pl.length ≤ 8) : (place1 np pl i p).list.length ≤ 8 ∧ (place1 np pl i p).pairs.length ≤ 8 := by
  unfold place1
  split
  · simp
  · split
    · simp; omega
    · simp [zL]

theorem many_iff {s : Sig} {pl : List Int} : manyQ s pl = [] ↔ (placesQ s < pl.length → s.any (kIs 2) = true) := by
  unfold manyQ
  split
  · rename_i h
    simp only [Bool.and_eq_true, decide_eq_true_eq, Bool.not_eq_true'] at h
    constructor
    · intro h0; cases h0
    · intro h0; rw [h0 h.1] at h; cases h.2
  · rename_i h
    simp only [true_iff]
    intro h0
    cases ha : s.any (kIs 2) with
    | true => rfl
    | false => exact absurd (by simp [h0, ha]) h

theorem part_iff {s : Sig} {f : Flat} (hs : OkS s) (hf : OkF f) : partQ s f = true ↔ (placesQ s < f.places.length → s.any (kIs 2) = true) ∧ ∀ q ∈ f.named, wrongQ s f.places q = none := by
  unfold partQ
  rw [fitQ_iff.2 ⟨hs, hf⟩, bound_closed hs hf.nodup]
  simp only [closedQ, Bool.true_and, decide_eq_true_eq, List.append_eq_nil_iff, List.filterMap_eq_nil_iff, many_iff]

theorem name_inj {s : Sig} (hs : OkS s) {i j : Nat} {p q : Param} (hp : s[i]? = some p) (hq : s[j]? = some q) (h : p.name = q.name) : i = j := by
  refine (List.getElem?_inj (l := s.map Param.name) (by have := lt_of_some hp; simpa using this) hs.nodup).1 ?_
  rw [List.getElem?_map, List.getElem?_map, hp, hq]
  simp [h]

theorem find_isSome {f : Flat} {n : Str} : (f.named.find? (nameIs n)).isSome = f.named.any (nameIs n) := by
  cases ha : f.named.any (nameIs n) with
  | true => rw [List.find?_isSome]; exact List.any_eq_true.1 ha
  | false =>
    cases hq : f.named.find? (nameIs n) with
    | none => rfl
    | some q =>
      have : f.named.any (nameIs n) = true := List.any_eq_true.2 ⟨q, List.mem_of_find?_eq_some hq, List.find?_some hq⟩
      rw [this] at ha; cases ha

theorem kindP_facts (b : Bool) (q : Param) : (kindP b q).name = q.name ∧ (kindP b q).kind = (if q.kind = 1 ∧ b = true then 3 else q.kind) ∧ (kindP b q).hasD = q.hasD ∧ namedQ (kindP b q) = namedQ q := by
  unfold kindP namedQ
  by_cases h1 : q.kind = 1
  · cases b <;> simp [h1]
  · simp [h1]

theorem giveP_facts (f : Flat) (q : Param) : (giveP f q).name = q.name ∧ (giveP f q).kind = q.kind ∧ (giveP f q).hasD = (q.hasD || (namedQ q && f.named.any (nameIs q.name))) := by
  unfold giveP
  rw [← find_isSome]
  cases hn : namedQ q with
  | false => simp
  | true =>
    simp only [if_true]
    cases f.named.find? (nameIs q.name) <;> simp

/-- What becomes of a parameter. -/
structure KeptQ (k : Int) (f : Flat) (i : Nat) (p p' : Param) : Prop where
  name : p'.name = p.name
  kind : p'.kind = if p.kind = 1 ∧ 0 ≤ k ∧ k ≤ i then 3 else p.kind
  hasD : p'.hasD = (p.hasD || (namedQ p && f.named.any (nameIs p.name)))
  place : ¬ (placedQ p = true ∧ i < f.places.length)
  rest : ¬ (p.kind = 2 ∧ 0 ≤ k)

theorem partParam_facts {k : Int} {f : Flat} {i : Nat} {p p' : Param} (h : partParam k f i p = some p') : KeptQ k f i p p' := by
  have hn := partParam_name h
  unfold partParam at h
  split at h
  · cases h
  · rename_i hs
    simp only [Option.some.injEq] at h
    obtain ⟨a1, a2, a3, a4⟩ := kindP_facts (decide (0 ≤ k) && decide (k ≤ i)) p
    obtain ⟨b1, b2, b3⟩ := giveP_facts f (kindP (decide (0 ≤ k) && decide (k ≤ i)) p)
    rw [h] at b1 b2 b3
    refine ⟨hn, ?_, ?_, ?_, ?_⟩
    · rw [b2, a2]; simp
    · rw [b3, a3, a4, a1]
    · rintro ⟨h1, h2⟩; exact hs (by simp [skipP, h1, h2])
    · rintro ⟨h1, h2⟩; exact hs (by simp [skipP, h1, h2])

theorem partParam_keep {k : Int} {f : Flat} {i : Nat} {p : Param} (h1 : ¬ (placedQ p = true ∧ i < f.places.length)) (h2 : ¬ (p.kind = 2 ∧ 0 ≤ k)) : ∃ p', partParam k f i p = some p' := by
  unfold partParam
  rw [if_neg]
  · exact ⟨_, rfl⟩
  · unfold skipP
    simp only [Bool.or_eq_true, Bool.and_eq_true, decide_eq_true_eq, beq_iff_eq]
    rintro (h | h)
    · exact h1 h
    · exact h2 h

theorem psL_split {k : Int} {f : Flat} {s : Sig} (i : Nat) : ∃ r, psL k f s = psL k f (s.take i) ++ r := by
  refine ⟨((s.drop i).zipIdx (0 + (s.take i).length)).filterMap (fun x => partParam k f x.2 x.1), ?_⟩
  conv => lhs; rw [← List.take_append_drop i s]
  unfold psL
  rw [List.zipIdx_append, List.filterMap_append]

/-- The facts of a partial call's signature. -/
structure PsFacts (s : Sig) (pf : Flat) : Prop where
  sig : OkS s
  flat : OkF pf
  out : OkS (psQ s pf)
  part : partQ s pf = true

theorem PsFacts.first {s : Sig} {pf : Flat} (h : PsFacts s pf) (h0 : 0 ≤ atQ s pf) : ∃ (n : Nat) (y : Param), atQ s pf = n ∧ s[n]? = some y ∧ y.kind = 1 ∧ pf.named.any (nameIs y.name) = true ∧ pf.places.length ≤ n := by
  obtain ⟨y, _, hy, hyp, hlt⟩ := idxI_find h0
  have hk := hyp
  simp only [atP, Bool.and_eq_true, beq_iff_eq] at hk
  refine ⟨(atQ s pf).toNat, y, by omega, hy, hk.1, hk.2, ?_⟩
  refine Classical.byContradiction fun hc => ?_
  have := np_at h.part hy (placed_kind.2 (.inr hk.1)) (by unfold atQ at hc; omega)
  rw [hyp] at this; cases this

theorem PsFacts.from {s : Sig} {pf : Flat} (h : PsFacts s pf) {i : Nat} {p : Param} (hp : s[i]? = some p) (hk : p.kind = 1) (hn : pf.named.any (nameIs p.name) = true) : 0 ≤ atQ s pf ∧ atQ s pf ≤ i := by
  have := idxI_le (k := 0) (pred := atP pf) hp (by simp [atP, hk, hn])
  unfold atQ; omega

theorem PsFacts.kinds {s : Sig} {pf : Flat} (h : PsFacts s pf) {i : Nat} {p : Param} (hp : s[i]? = some p) (h0 : 0 ≤ atQ s pf) (h1 : atQ s pf ≤ i) (hk : placedQ p = true) : p.kind = 1 := by
  obtain ⟨n, y, hn, hy, hyk, _, _⟩ := h.first h0
  have := h.sig.sorted (i - n) n y p hy (by rw [show n + (i - n) = i by omega]; exact hp)
  rw [placed_kind] at hk; omega

theorem KeptQ.placed {s : Sig} {pf : Flat} (h : PsFacts s pf) {i : Nat} {p p' : Param} (hp : s[i]? = some p) (hk : KeptQ (atQ s pf) pf i p p') : placedQ p' = true ↔ placedQ p = true ∧ ¬ (0 ≤ atQ s pf ∧ atQ s pf ≤ i) := by
  have h1 := hk.kind
  constructor
  · intro h2
    rw [placed_kind] at h2
    split at h1
    · omega
    · rename_i h3
      have hpp : placedQ p = true := placed_kind.2 (by omega)
      refine ⟨hpp, fun h4 => h3 ⟨h.kinds hp h4.1 h4.2 hpp, h4⟩⟩
  · rintro ⟨h2, h3⟩
    rw [placed_kind] at h2 ⊢
    rw [if_neg (fun h4 => h3 h4.2)] at h1
    omega

theorem KeptQ.named {k : Int} {pf : Flat} {i : Nat} {p p' : Param} (hk : KeptQ k pf i p p') : namedQ p' = namedQ p := by
  have h1 := hk.kind
  have : namedQ p' = true ↔ namedQ p = true := by
    rw [named_kind, named_kind]
    split at h1 <;> omega
  cases h : namedQ p with
  | true => exact this.2 h
  | false =>
    cases h' : namedQ p' with
    | false => rfl
    | true => rw [this.1 h'] at h; cases h

theorem PsFacts.len {s : Sig} {pf : Flat} (h : PsFacts s pf) : ∀ (i : Nat), i ≤ placesQ s → (psL (atQ s pf) pf (s.take i)).length = i - pf.places.length
  | 0, _ => by simp [psL]
  | i + 1, hi => by
    have hP := placesQ_le s
    obtain ⟨p, hp⟩ := at_some (xs := s) (i := i) (by omega)
    have hpl := (h.sig.placed_iff hp).2 (by omega)
    rw [psL_succ hp, List.length_append, PsFacts.len h i (by omega)]
    by_cases hia : i < pf.places.length
    · have : partParam (atQ s pf) pf i p = none := by simp [partParam, skipP, hpl, hia]
      rw [this]; simp; omega
    · obtain ⟨p', hp'⟩ := partParam_keep (k := atQ s pf) (f := pf) (i := i) (p := p) (by omega) (by rw [placed_kind] at hpl; omega)
      rw [hp']; simp; omega

/-- Where a parameter goes. -/
theorem PsFacts.to {s : Sig} {pf : Flat} (h : PsFacts s pf) {i : Nat} {p : Param} (hp : s[i]? = some p) (h1 : ¬ (placedQ p = true ∧ i < pf.places.length)) (h2 : ¬ (p.kind = 2 ∧ 0 ≤ atQ s pf)) :
    ∃ (j : Nat) (p' : Param), (psQ s pf)[j]? = some p' ∧ KeptQ (atQ s pf) pf i p p' ∧ (placedQ p' = true → j + pf.places.length = i) := by
  obtain ⟨p', hp'⟩ := partParam_keep (f := pf) h1 h2
  have hk := partParam_facts hp'
  obtain ⟨r, hr⟩ := psL_split (k := atQ s pf) (f := pf) (s := s) (i + 1)
  rw [psL_succ hp, hp'] at hr
  refine ⟨(psL (atQ s pf) pf (s.take i)).length, p', ?_, hk, fun hpl => ?_⟩
  · unfold psQ
    rw [hr, List.append_assoc, List.getElem?_append_right (by omega)]
    simp
  · have hpp := ((hk.placed h hp).1 hpl).1
    have hi := (h.sig.placed_iff hp).1 hpp
    rw [h.len i (by omega)]
    have := hk.place
    have : ¬ i < pf.places.length := fun h0 => this ⟨hpp, h0⟩
    omega

/-- Where a parameter comes from. -/
theorem PsFacts.of {s : Sig} {pf : Flat} (h : PsFacts s pf) {j : Nat} {p' : Param} (hp : (psQ s pf)[j]? = some p') :
    ∃ (i : Nat) (p : Param), s[i]? = some p ∧ KeptQ (atQ s pf) pf i p p' ∧ (placedQ p' = true → j + pf.places.length = i) := by
  have hm := List.mem_of_getElem? hp
  unfold psQ psL at hm
  rw [List.mem_filterMap] at hm
  obtain ⟨⟨p, i⟩, hq, hr⟩ := hm
  rw [List.mem_zipIdx_iff_getElem?] at hq
  have hk := partParam_facts hr
  obtain ⟨j', p2, hj', hk', hpos⟩ := h.to hq hk.place hk.rest
  have hjj := name_inj h.out hp hj' (by rw [hk.name, hk'.name])
  subst hjj
  rw [hp] at hj'
  cases hj'
  exact ⟨i, p, hq, hk, hpos⟩

section

variable {s : Sig} {pf f : Flat}

end

theorem eqParam_bb (x y : Param) : eqCells (eQ x) (eQ y) = some (decide (x = y)) := by
  obtain ⟨n, k, h, d⟩ := x
  obtain ⟨n', k', h', d'⟩ := y
  simp only [eQ, eqCells, eqCell, eqKind, Param.mk.injEq, Bool.and_true, Option.some.injEq]
  by_cases h1 : n = n' <;> by_cases h2 : k = k' <;> by_cases h3 : h = h' <;> by_cases h4 : d = d' <;> simp [h1, h2, h3, h4]

theorem libEqualQ_ct (xs ys : List Param) (hx : xs.length ≤ 2097152) :
    ACalls pk 29 [.one (.fs (xs.map eQ)), .one (.fs (ys.map eQ))] [] (fun r o => r = .one (.bool (decide (xs = ys))) ∧ o = []) := by
  refine acalls_of_body Tryz.func29 rfl (by kernel_rfl) rfl ?_
  refine rn rfl ?_
  refine goal_cond rfl (fun h => ?_) (fun h => ?_) <;> simp only [List.length_map, bne_iff_ne, ne_eq, bne_eq_false_iff_eq] at h
  · refine rn rfl (fin_is [] rfl ⟨?_, rfl⟩)
    have : xs ≠ ys := fun h0 => h (by rw [h0])
    simp [this]
  · have hlen : xs.length = ys.length := by omega
    refine rn rfl ?_
    refine goal_loop_keep (fun m σ => ∃ (n L : Int) (i : Nat), n = i ∧ L = xs.length ∧ i ≤ xs.length ∧ m = xs.length - i ∧ xs.take i = ys.take i ∧
        σ = ⟨[(13, .one (.int .i64 n)), (12, .one (.int .i64 L)), (1, .one (.fs (ys.map eQ))), (0, .one (.fs (xs.map eQ)))], [], []⟩) xs.length [13, 12, 1, 0] [] rfl
      ⟨_, _, 0, rfl, by simp, by omega, by omega, rfl, rfl⟩ ?_
    rintro m σ ⟨n, L, i, rfl, rfl, hi, rfl, hpre, rfl⟩
    refine rn rfl ?_
    refine goal_cond rfl (fun h => ?_) (fun h => ?_) <;> simp only [decide_eq_true_eq, decide_eq_false_iff_not] at h
    · obtain ⟨x, hxi⟩ := at_some (xs := xs) (i := i) (by omega)
      obtain ⟨y, hyi⟩ := at_some (xs := ys) (i := i) (by omega)
      refine rn rfl ?_
      refine goal_draw' [] 9 rfl ?_
      refine drn [0, 1, 4, 5] (by kernel_rfl) (by kernel_rfl) rfl rfl ?_
      refine AH_did 2 rfl (by kernel_rfl) (by kernel_rfl) (by kernel_rfl) rfl rfl (dA_index (eQ x) rfl rfl rfl rfl rfl rfl rfl (by omega) (by simp; omega) (map_at (by simpa using hxi)) rfl) ?_
      refine AH_did 6 rfl (by kernel_rfl) (by kernel_rfl) (by kernel_rfl) rfl rfl (dA_index (eQ y) rfl rfl rfl rfl rfl rfl rfl (by omega) (by simp; omega) (map_at (by simpa using hyi)) rfl) ?_
      refine drn [3, 7] (by kernel_rfl) (by kernel_rfl) rfl rfl ?_
      refine AH_did 8 rfl (by kernel_rfl) (by kernel_rfl) (by kernel_rfl) rfl rfl (dA_eqStruct (b := decide (x = y)) (!decide (x = y)) (.inr ⟨rfl, rfl⟩) rfl rfl rfl rfl rfl rfl (eqParam_bb x y) (by kernel_rfl) (by kernel_rfl) (by kernel_rfl) rfl) ?_
      refine AH_end (by kernel_rfl) ?_
      refine rn rfl ?_
      have hstep := take_eq_step hpre hxi hyi
      refine goal_cond rfl (fun h2 => ?_) (fun h2 => ?_) <;> simp only [Bool.not_eq_true', Bool.not_eq_false', decide_eq_true_eq, decide_eq_false_iff_not] at h2
      · refine rn rfl ?_
        refine round_ret (fin_is [] rfl ⟨?_, rfl⟩)
        have : xs ≠ ys := fun h0 => h2 (hstep.1 (by rw [h0]))
        simp [this]
      · refine rn rfl ?_
        refine round_keep (xs.length - (i + 1)) [13, 12, 1, 0] [] (by omega) rfl ⟨_, _, i + 1, ?_, rfl, by omega, rfl, hstep.2 h2, rfl⟩
        exact wrap64 (by omega) (by omega)
    · refine rn rfl ?_
      refine round_ext ?_
      refine rn rfl (fin_is [] rfl ⟨?_, rfl⟩)
      rw [show i = xs.length by omega, List.take_length, hlen, List.take_length] at hpre
      simp [hpre]

def sameL (x y : Slot) : Bool := x.given == y.given && (decide (x.list = y.list) && decide (isortL ltN x.pairs = isortL ltN y.pairs))

def sameB (a b : Bnds) : Bool := decide (a.length = b.length) && (a.zip b).all (fun z => sameL z.1 z.2)

theorem sameB_iff {a b : Bnds} : sameB a b = true ↔ a.length = b.length ∧ ∀ (i : Nat) (x y : Slot), a[i]? = some x → b[i]? = some y → sameL x y = true := by
  unfold sameB
  rw [Bool.and_eq_true, decide_eq_true_eq, List.all_eq_true]
  refine and_congr_right fun _ => ?_
  constructor
  · intro h i x y hx hy
    exact h (x, y) (List.mem_of_getElem? (i := i) (List.getElem?_zip_eq_some.2 ⟨hx, hy⟩))
  · intro h z hz
    obtain ⟨i, hi⟩ := List.getElem?_of_mem hz
    rw [List.getElem?_zip_eq_some] at hi
    exact h i _ _ hi.1 hi.2

theorem sameL_self (x : Slot) : sameL x x = true := by simp [sameL]

theorem sameB_self (b : Bnds) : sameB b b = true := sameB_iff.2 ⟨rfl, fun i x y hx hy => by rw [hx] at hy; cases hy; exact sameL_self x⟩

structure SmallL (x : Slot) : Prop where
  list : x.list.length ≤ 1048576
  pairs : x.pairs.length ≤ 12

theorem sameC_ct (x y : Slot) (hx : SmallL x) (hy : SmallL y) : ACalls pk 58 [.agg (eL x), .agg (eL y)] [] (fun r o => r = .one (.bool (sameL x y)) ∧ o = []) := by
  have h1 := hx.list
  have h2 := hx.pairs
  have h3 := hy.pairs
  have g1 := isortL_length ltN x.pairs
  refine acalls_of_body Tryz.func58 rfl (by kernel_rfl) rfl ?_
  refine rn rfl ?_
  refine goal_draw' [0, 1] 22 rfl ?_
  refine drn [0, 1, 2, 3, 4, 5] (by kernel_rfl) (by kernel_rfl) rfl rfl ?_
  refine AH_guard (i := 6) rfl rfl rfl (fun h4 => ?_) (fun h4 => ?_) <;> (try simp only [gt_iff_lt, ge_iff_le, bne_iff_ne, ne_eq, bne_eq_false_iff_eq, beq_iff_eq, beq_eq_false_iff_ne, Bool.not_eq_true', Bool.not_eq_false', decide_eq_true_eq, decide_eq_false_iff_not, List.length_map] at h4)
  · refine drn [6, 7, 8, 9] (by kernel_rfl) (by kernel_rfl) rfl rfl ?_
    refine AH_one (i := 10) (by kernel_rfl) (step_call [] rfl rfl rfl rfl rfl rfl (libEqualI_ct x.list y.list (by omega))) (by simp) ?_
    rintro σ2 ⟨r, o', ⟨rfl, rfl⟩, hσ⟩
    obtain rfl := Option.some.inj hσ
    clear hσ
    refine drn [11, 12] (by kernel_rfl) (by kernel_rfl) rfl rfl ?_
    refine AH_guard (i := 13) rfl rfl rfl (fun h5 => ?_) (fun h5 => ?_) <;> (try simp only [gt_iff_lt, ge_iff_le, bne_iff_ne, ne_eq, bne_eq_false_iff_eq, beq_iff_eq, beq_eq_false_iff_ne, Bool.not_eq_true', Bool.not_eq_false', decide_eq_true_eq, decide_eq_false_iff_not, List.length_map] at h5)
    · refine drn [13, 14, 16, 17] (by kernel_rfl) (by kernel_rfl) rfl rfl ?_
      refine AH_one (i := 15) (by kernel_rfl) (step_call [] rfl rfl rfl rfl rfl rfl (byNameD_ct x.pairs (by omega))) (by simp) ?_
      rintro σ2 ⟨r, o', ⟨rfl, rfl⟩, hσ⟩
      obtain rfl := Option.some.inj hσ
      clear hσ
      refine AH_one (i := 18) (by kernel_rfl) (step_call [] rfl rfl rfl rfl rfl rfl (byNameD_ct y.pairs (by omega))) (by simp) ?_
      rintro σ2 ⟨r, o', ⟨rfl, rfl⟩, hσ⟩
      obtain rfl := Option.some.inj hσ
      clear hσ
      refine AH_one (i := 19) (by kernel_rfl) (step_call [] rfl rfl rfl rfl rfl rfl (libEqualP_ct (isortL ltN x.pairs) (isortL ltN y.pairs) (by omega))) (by simp) ?_
      rintro σ2 ⟨r, o', ⟨rfl, rfl⟩, hσ⟩
      obtain rfl := Option.some.inj hσ
      clear hσ
      refine drn [20, 21] (by kernel_rfl) (by kernel_rfl) rfl rfl ?_
      refine AH_end (by kernel_rfl) ?_
      refine rn rfl ?_
      refine rn rfl (fin_is [] rfl ⟨?_, rfl⟩)
      simp [sameL, h4, h5]
    · refine drn [13, 14, 15, 16, 17, 18, 19, 20, 21] (by kernel_rfl) (by kernel_rfl) rfl rfl ?_
      refine AH_end (by kernel_rfl) ?_
      refine rn rfl ?_
      refine rn rfl (fin_is [] rfl ⟨?_, rfl⟩)
      simp [sameL, h5]
  · refine drn [6, 7, 8, 9, 10, 11, 12, 13, 14, 15, 16, 17, 18, 19, 20, 21] (by kernel_rfl) (by kernel_rfl) rfl rfl ?_
    refine AH_end (by kernel_rfl) ?_
    refine rn rfl ?_
    refine rn rfl (fin_is [] rfl ⟨?_, rfl⟩)
    simp [sameL, h4]

theorem equalFunc_ct (a b : Bnds) (f : FuncId) (ha : a.length ≤ 1048576) (h : ∀ x ∈ a, ∀ y ∈ b, ACalls pk f [.agg (eL x), .agg (eL y)] [] (fun r o => r = .one (.bool (sameL x y)) ∧ o = [])) :
    ACalls pk 57 [.one (.fs (a.map eL)), .one (.fs (b.map eL)), .one (.fn f [])] [] (fun r o => r = .one (.bool (sameB a b)) ∧ o = []) := by
  refine acalls_of_body Tryz.func57 rfl (by kernel_rfl) rfl ?_
  refine rn rfl ?_
  refine goal_cond rfl (fun h0 => ?_) (fun h0 => ?_) <;> simp only [List.length_map, bne_iff_ne, ne_eq, bne_eq_false_iff_eq] at h0
  · refine rn rfl (fin_is [] rfl ⟨?_, rfl⟩)
    have : a.length ≠ b.length := by omega
    simp [sameB, this]
  · have hlen : a.length = b.length := by omega
    refine rn rfl ?_
    refine goal_loop_keep (fun m σ => ∃ (q L : Int) (i : Nat), q = i ∧ L = a.length ∧ i ≤ a.length ∧ m = a.length - i ∧ (∀ (j : Nat) (x y : Slot), a[j]? = some x → b[j]? = some y → j < i → sameL x y = true) ∧
        σ = ⟨[(17, .one (.int .i64 q)), (16, .one (.int .i64 L)), (15, .one (.fs (a.map eL))), (2, .one (.fn f [])), (1, .one (.fs (b.map eL)))], [], []⟩) a.length [17, 16, 15, 2, 1] [] rfl
      ⟨_, _, 0, rfl, by simp, by omega, by omega, fun j x y _ _ hj => by omega, rfl⟩ ?_
    rintro m σ ⟨q, L, i, rfl, rfl, hi, rfl, hall, rfl⟩
    refine rn rfl ?_
    refine goal_cond rfl (fun h1 => ?_) (fun h1 => ?_) <;> (try simp only [gt_iff_lt, ge_iff_le, bne_iff_ne, ne_eq, bne_eq_false_iff_eq, beq_iff_eq, beq_eq_false_iff_ne, Bool.not_eq_true', Bool.not_eq_false', decide_eq_true_eq, decide_eq_false_iff_not, List.length_map] at h1)
    · obtain ⟨x, hx⟩ := at_some (xs := a) (i := i) (by omega)
      obtain ⟨y, hy⟩ := at_some (xs := b) (i := i) (by omega)
      refine rn rfl ?_
      refine goal_did rfl rfl (dA_index (eL x) rfl rfl rfl rfl rfl rfl rfl (by omega) (by (try simp); omega) (map_at (by simpa using hx)) rfl) ?_
      refine rn rfl ?_
      refine goal_did rfl rfl (dA_index (eL y) rfl rfl rfl rfl rfl rfl rfl (by omega) (by (try simp); omega) (map_at (by simpa using hy)) rfl) ?_
      refine rn rfl ?_
      refine goal_step (step_call [] rfl rfl rfl rfl rfl rfl (h x (List.mem_of_getElem? hx) y (List.mem_of_getElem? hy))) ?_
      rintro σ2 ⟨r, o', ⟨rfl, rfl⟩, hσ⟩
      obtain rfl := Option.some.inj hσ
      clear hσ
      refine rn rfl ?_
      refine goal_cond rfl (fun h2 => ?_) (fun h2 => ?_) <;> simp only [Bool.not_eq_true', Bool.not_eq_false'] at h2
      · refine rn rfl (round_ret (fin_is [] rfl ⟨?_, rfl⟩))
        cases hs : sameB a b with
        | false => rfl
        | true => rw [(sameB_iff.1 hs).2 i x y hx hy] at h2; cases h2
      · refine rn rfl ?_
        refine round_keep (a.length - (i + 1)) [17, 16, 15, 2, 1] [] (by omega) rfl ⟨_, _, i + 1, wrap64 (by omega) (by omega), rfl, by omega, rfl, fun j x' y' hx' hy' hj => ?_, rfl⟩
        by_cases hji : j = i
        · subst hji
          rw [hx] at hx'; rw [hy] at hy'
          cases hx'; cases hy'
          exact h2
        · exact hall j x' y' hx' hy' (by omega)
    · refine rn rfl (round_ext ?_)
      refine rn rfl (fin_is [] rfl ⟨?_, rfl⟩)
      rw [sameB_iff.2 ⟨hlen, fun j x y hx hy => hall j x y hx hy (by have := lt_of_some hx; omega)⟩]

theorem isameB_ct (a b : Bnds) (ha : a.length ≤ 1048576) (h1 : ∀ x ∈ a, SmallL x) (h2 : ∀ x ∈ b, SmallL x) : ACalls pk 30 [.agg (eBi a), .agg (eBi b)] [] (fun r o => r = .one (.bool (sameB a b)) ∧ o = []) := by
  refine acalls_of_body Tryz.func30 rfl (by kernel_rfl) rfl ?_
  refine rn rfl ?_
  refine goal_step (step_call [] rfl rfl rfl rfl rfl rfl (equalFunc_ct a b _ ha (fun x hx y hy => sameC_ct x y (h1 x hx) (h2 y hy)))) ?_
  rintro σ2 ⟨r, o', ⟨rfl, rfl⟩, hσ⟩
  obtain rfl := Option.some.inj hσ
  clear hσ
  refine rn rfl ?_
  exact rn rfl (fin_is [] rfl ⟨rfl, rfl⟩)

theorem bound_small {s : Sig} {f : Flat} (hs : OkS s) (hf : OkF f) : (boundQ s f).1.length ≤ 8 ∧ ∀ x ∈ (boundQ s f).1, x.list.length ≤ 8 ∧ x.pairs.length ≤ 8 := by
  have h1 := hf.places
  have h2 := hf.named
  rw [bound_closed hs hf.nodup]
  refine ⟨by simp only [closedQ, List.length_mapIdx]; exact hs.len, fun x hx => ?_⟩
  simp only [closedQ, List.mem_mapIdx] at hx
  obtain ⟨i, hi, rfl⟩ := hx
  unfold giveQ
  split
  · have := List.length_filter_le (fun q : Pair => takesQ s q.name == (i : Int)) f.named
    simp; omega
  · split
    · split <;> simp [zL]
    · exact place1_small _ _ _ _ h1

theorem partB_small (s : Sig) (f : Flat) : (PartB s f).1.length ≤ 8 ∧ ∀ x ∈ (PartB s f).1, x.list.length ≤ 8 ∧ x.pairs.length ≤ 8 := by
  unfold PartB
  split
  · rename_i h
    simp only [partQ, Bool.and_eq_true] at h
    obtain ⟨hs, hf⟩ := fitQ_iff.1 h.1
    exact bound_small hs hf
  · simp

theorem small_of {x : Slot} (h : x.list.length ≤ 8 ∧ x.pairs.length ≤ 8) : SmallL x := ⟨by omega, by omega⟩

def samePF (p q : Part) : Bool := (PartB p.sig p.flat).2 && (PartB q.sig q.flat).2 && decide (p.sig = q.sig) && sameB (PartB p.sig p.flat).1 (PartB q.sig q.flat).1

theorem isamePart_ct (p q : Part) (hp : LenP p) (hq : LenP q) : ACalls pk 11 [.agg (ePa p), .agg (ePa q)] [] (fun r o => r = .one (.bool (samePF p q)) ∧ o = []) := by
  have hA := bindPart_ct p.sig p.flat hp.sig hp.flat
  have hB := bindPart_ct q.sig q.flat hq.sig hq.flat
  obtain ⟨a1, a2⟩ := partB_small p.sig p.flat
  obtain ⟨b1, b2⟩ := partB_small q.sig q.flat
  have hz : samePF p q = ((PartB p.sig p.flat).2 && (PartB q.sig q.flat).2 && decide (p.sig = q.sig) && sameB (PartB p.sig p.flat).1 (PartB q.sig q.flat).1) := rfl
  obtain ⟨s1, s2⟩ := hp.sig
  rw [hz]
  generalize (PartB p.sig p.flat).1 = A at *
  generalize (PartB p.sig p.flat).2 = a at *
  generalize (PartB q.sig q.flat).1 = B at *
  generalize (PartB q.sig q.flat).2 = b at *
  refine acalls_of_body Tryz.func11 rfl (by kernel_rfl) rfl ?_
  refine rn rfl ?_
  refine goal_step (step_call [] rfl rfl rfl rfl rfl rfl (hA)) ?_
  rintro σ2 ⟨r, o', ⟨rfl, rfl⟩, hσ⟩
  obtain rfl := Option.some.inj hσ
  clear hσ
  refine rn rfl ?_
  refine rn rfl ?_
  refine goal_step (step_call [] rfl rfl rfl rfl rfl rfl (hB)) ?_
  rintro σ2 ⟨r, o', ⟨rfl, rfl⟩, hσ⟩
  obtain rfl := Option.some.inj hσ
  clear hσ
  refine rn rfl ?_
  refine goal_guard rfl rfl rfl (fun h1 => ?_) (fun h1 => ?_) <;> (try simp only [gt_iff_lt, ge_iff_le, bne_iff_ne, ne_eq, bne_eq_false_iff_eq, beq_iff_eq, beq_eq_false_iff_ne, Bool.not_eq_true', Bool.not_eq_false', decide_eq_true_eq, decide_eq_false_iff_not, List.length_map] at h1)
  · refine rn rfl ?_
    refine goal_guard rfl rfl rfl (fun h2 => ?_) (fun h2 => ?_) <;> (try simp only [gt_iff_lt, ge_iff_le, bne_iff_ne, ne_eq, bne_eq_false_iff_eq, beq_iff_eq, beq_eq_false_iff_ne, Bool.not_eq_true', Bool.not_eq_false', decide_eq_true_eq, decide_eq_false_iff_not, List.length_map] at h2)
    · refine rn rfl ?_
      refine goal_step (step_call [] rfl rfl rfl rfl rfl rfl (libEqualQ_ct p.sig q.sig (by omega))) ?_
      rintro σ2 ⟨r, o', ⟨rfl, rfl⟩, hσ⟩
      obtain rfl := Option.some.inj hσ
      clear hσ
      refine rn rfl ?_
      refine goal_guard rfl rfl rfl (fun h3 => ?_) (fun h3 => ?_) <;> (try simp only [gt_iff_lt, ge_iff_le, bne_iff_ne, ne_eq, bne_eq_false_iff_eq, beq_iff_eq, beq_eq_false_iff_ne, Bool.not_eq_true', Bool.not_eq_false', decide_eq_true_eq, decide_eq_false_iff_not, List.length_map] at h3)
      · refine rn rfl ?_
        refine goal_step (step_call [] rfl rfl rfl rfl rfl rfl (isameB_ct A B (by omega) (fun x hx => small_of (a2 x hx)) (fun x hx => small_of (b2 x hx)))) ?_
        rintro σ2 ⟨r, o', ⟨rfl, rfl⟩, hσ⟩
        obtain rfl := Option.some.inj hσ
        clear hσ
        refine rn rfl ?_
        refine rn rfl (fin_is [] rfl ⟨?_, rfl⟩)
        simp [h1, h2, h3]
      · refine rn rfl (fin_is [] rfl ⟨?_, rfl⟩)
        simp [h3]
    · refine rn rfl (fin_is [] rfl ⟨?_, rfl⟩)
      simp [h2]
  · refine rn rfl (fin_is [] rfl ⟨?_, rfl⟩)
    simp [h1]

theorem samePF_self {p : Part} (h : partQ p.sig p.flat = true) : samePF p p = true := by
  unfold samePF
  have : (PartB p.sig p.flat).2 = true := by unfold PartB; rw [if_pos h]
  rw [this, sameB_self]; simp

theorem part_none {s : Sig} (hs : OkS s) : partQ s zF = true ∧ PsF s zF = (s, true) := by
  have hz : OkF zF := okFlat_iff.1 (by rfl)
  have h1 : partQ s zF = true := (part_iff hs hz).2 ⟨fun h => by simp [zF] at h, by simp [zF]⟩
  refine ⟨h1, ?_⟩
  have hat : atQ s zF = -1 := by
    refine idxI_none.2 ?_
    rw [List.any_eq_false]
    intro q _
    simp [atP, zF]
  have hp : psQ s zF = s := by
    unfold psQ psL
    rw [hat]
    have : ∀ x ∈ s.zipIdx, partParam (-1) zF x.2 x.1 = some x.1 := fun x _ => by
      unfold partParam skipP
      have h3 : (kindP (decide ((0 : Int) ≤ -1) && decide ((-1 : Int) ≤ x.2)) x.1) = x.1 := by simp [kindP]
      have h4 : giveP zF x.1 = x.1 := by unfold giveP; simp [zF]
      rw [h3, h4]
      simp [zF]
    have h5 : s.zipIdx.filterMap (fun x => partParam (-1) zF x.2 x.1) = s.zipIdx.filterMap (fun x => some x.1) := by
      have key : ∀ l : List (Param × Nat), (∀ x ∈ l, partParam (-1) zF x.2 x.1 = some x.1) → l.filterMap (fun x => partParam (-1) zF x.2 x.1) = l.filterMap (fun x => some x.1) := by
        intro l
        induction l with
        | nil => intro _; rfl
        | cons y l ih => intro h; rw [List.filterMap_cons, List.filterMap_cons, h y (by simp), ih (fun x hx => h x (by simp [hx]))]
      exact key _ this
    rw [h5, List.filterMap_eq_map']
    simp
  unfold PsF
  rw [hp, if_pos (by simp [h1, okSig_iff.2 hs])]

theorem ipartialOfD_ct (s : Sig) (f : Flat) (hs : LenS s) (hf : LenF f) : ACalls pk 8 [.agg (eG s), .agg (eF f)] [] (fun r o => r = .tup [.agg (ePa (PofF s f).1), .one (.bool (PofF s f).2)] ∧ o = []) :=
  (ipartialOf_ct s f hs hf).told [] (by rintro r o ⟨rfl, rfl⟩; exact ⟨_, _, rfl, tellPa _ _, rfl⟩)

theorem sValidPartial_ct (p : Part) (hp : LenP p) : ACalls pk 7 [.agg (ePa p)] [] (fun r o => r = .one (.bool (partQ p.sig p.flat)) ∧ o = []) := by
  refine acalls_of_body Tryz.func7 rfl (by kernel_rfl) rfl ?_
  refine rn rfl ?_
  refine goal_step (step_call [] rfl rfl rfl rfl rfl rfl (svalidPartial_ct p.sig p.flat hp.sig hp.flat)) ?_
  rintro σ2 ⟨r, o', ⟨rfl, rfl⟩, hσ⟩
  obtain rfl := Option.some.inj hσ
  clear hσ
  refine rn rfl ?_
  exact rn rfl (fin_is [] rfl ⟨rfl, rfl⟩)

theorem drawValidPartial_ct (bs : Str) : ACalls pk 5 [.one (.fs (bs.map rowB))] [] (fun r o => ∃ p, SmallS p.sig ∧ MidF p.flat 24 8 ∧ r = .agg (ePa p) ∧ o = []) := by
  have hb : (bs.take 2000).length ≤ 2000 := by simp; omega
  refine acalls_of_body Tryz.func5 rfl (by kernel_rfl) rfl ?_
  refine rn rfl ?_
  refine goal_step (step_call [] rfl rfl rfl rfl rfl rfl (newReader_ct bs)) ?_
  rintro σ2 ⟨r, o', ⟨rfl, rfl⟩, hσ⟩
  obtain rfl := Option.some.inj hσ
  clear hσ
  refine rn rfl ?_
  refine goal_step (step_callE [1] rfl rfl rfl rfl rfl rfl rfl (somePartial_ct (bs.take 2000) 0 hb (by omega) (by omega))) ?_
  rintro σ2 ⟨r, o', ⟨p, k1, hs, hp, hk1, hk2, rfl, rfl⟩, hσ⟩
  obtain rfl := Option.some.inj hσ
  clear hσ
  exact rn rfl (fin_is [] rfl ⟨p, hs, hp, rfl, rfl⟩)

theorem fnValidPartial_ct (bs : Str) (hl : bs.length ≤ 9223372036854775807) : ACalls pk 3 [.one (.fs (bs.map rowB))] [] (fun r o => r = .one (.bool true) ∧ o = []) := by
  refine acalls_of_body Tryz.func3 rfl (by kernel_rfl) rfl ?_
  refine rn rfl ?_
  refine goal_cond rfl (fun h => ?_) (fun h => ?_) <;> (try simp only [gt_iff_lt, ge_iff_le, bne_iff_ne, ne_eq, bne_eq_false_iff_eq, beq_iff_eq, beq_eq_false_iff_ne, Bool.not_eq_true', Bool.not_eq_false', decide_eq_true_eq, decide_eq_false_iff_not, List.length_map] at h)
  · exact rn rfl (fin_is [] rfl ⟨rfl, rfl⟩)
  · refine rn rfl ?_
    refine goal_step (step_call [] rfl rfl rfl rfl rfl rfl (drawValidPartial_ct bs)) ?_
    rintro σ2 ⟨r, o', ⟨p, hs, hpf, rfl, rfl⟩, hσ⟩
    obtain rfl := Option.some.inj hσ
    clear hσ
    have lp : LenP p := ⟨hs.lenS, hpf.lenF (by omega) (by omega)⟩
    have hsl := hs.len
    have lz : LenF zF := ⟨by simp [zF], by simp [zF], by simp [zF]⟩
    have hI : ACalls pk 6 [.agg (ePa p)] [] (fun r o => r = .one (.bool (partQ p.sig p.flat)) ∧ o = []) := ivalidPartial_ct p.sig p.flat lp.sig lp.flat
    have hS := sValidPartial_ct p lp
    refine rn rfl ?_
    refine goal_step (step_call [] rfl rfl rfl rfl rfl rfl (hI)) ?_
    rintro σ2 ⟨r, o', ⟨rfl, rfl⟩, hσ⟩
    obtain rfl := Option.some.inj hσ
    clear hσ
    refine rn rfl ?_
    refine rn rfl ?_
    refine goal_step (step_call [] rfl rfl rfl rfl rfl rfl (hS)) ?_
    rintro σ2 ⟨r, o', ⟨rfl, rfl⟩, hσ⟩
    obtain rfl := Option.some.inj hσ
    clear hσ
    refine rn rfl ?_
    refine goal_guard rfl rfl rfl (fun h1 => by simp at h1) (fun _ => ?_)
    refine rn rfl ?_
    refine goal_cond rfl (fun h2 => ?_) (fun h2 => ?_) <;> (try simp only [gt_iff_lt, ge_iff_le, bne_iff_ne, ne_eq, bne_eq_false_iff_eq, beq_iff_eq, beq_eq_false_iff_ne, Bool.not_eq_true', Bool.not_eq_false', decide_eq_true_eq, decide_eq_false_iff_not, List.length_map] at h2)
    · refine rn rfl ?_
      refine goal_step (step_call [] rfl rfl rfl rfl rfl rfl (hS)) ?_
      rintro σ2 ⟨r, o', ⟨rfl, rfl⟩, hσ⟩
      obtain rfl := Option.some.inj hσ
      clear hσ
      refine rn rfl ?_
      refine rn rfl (fin_is [] rfl ⟨?_, rfl⟩)
      simp
    have hok : OkS p.sig := by
      have h3 := h2
      simp only [partQ, Bool.and_eq_true] at h3
      exact (fitQ_iff.1 h3.1).1
    obtain ⟨n1, n2⟩ := part_none hok
    have hO := ipartialOfD_ct p.sig zF lp.sig lz
    have hof : PofF p.sig zF = (⟨p.sig, zF⟩, true) := by unfold PofF; rw [if_pos n1]
    rw [hof] at hO
    have hP := ipartialSigD_ct p.sig zF ⟨lp.sig, lz⟩
    rw [n2] at hP
    have hSm := isamePart_ct p p lp lp
    rw [samePF_self h2] at hSm
    refine rn rfl ?_
    refine goal_data 31 [] (y := .agg (eF zF)) rfl rfl rfl ?_
    refine goal_step (step_call [] rfl rfl rfl rfl rfl rfl (hO)) ?_
    rintro σ2 ⟨r, o', ⟨rfl, rfl⟩, hσ⟩
    obtain rfl := Option.some.inj hσ
    clear hσ
    refine rn rfl ?_
    refine rn rfl ?_
    refine goal_step (step_call [] rfl rfl rfl rfl rfl rfl (hP)) ?_
    rintro σ2 ⟨r, o', ⟨rfl, rfl⟩, hσ⟩
    obtain rfl := Option.some.inj hσ
    clear hσ
    refine rn rfl ?_
    refine goal_guard rfl rfl rfl (fun _ => ?_) (fun h3 => by cases h3)
    refine rn rfl ?_
    refine goal_guard rfl rfl rfl (fun _ => ?_) (fun h3 => by cases h3)
    refine rn rfl ?_
    refine goal_step (step_call [] rfl rfl rfl rfl rfl rfl (equalSigSelf_ct p.sig (by omega))) ?_
    rintro σ2 ⟨r, o', ⟨rfl, rfl⟩, hσ⟩
    obtain rfl := Option.some.inj hσ
    clear hσ
    refine rn rfl ?_
    refine goal_guard rfl rfl rfl (fun _ => ?_) (fun h3 => by cases h3)
    refine rn rfl ?_
    refine goal_step (step_call [] rfl rfl rfl rfl rfl rfl (hSm)) ?_
    rintro σ2 ⟨r, o', ⟨rfl, rfl⟩, hσ⟩
    obtain rfl := Option.some.inj hσ
    clear hσ
    refine rn rfl ?_
    exact rn rfl (fin_is [] rfl ⟨rfl, rfl⟩)

end Go.Proofs.YtekdhmddibfidabGreat
