/- Part 5 of the proof: an abstract machine over the model; contracts of the functions that the law reaches. -/
import Derived.Test.YtalplgabhichfaaGreatKAccS4
set_option linter.unusedVariables false
set_option linter.unusedSimpArgs false
namespace Go.Proofs.YtalplgabhichfaaGreat
open Go
set_option maxRecDepth 100000
set_option maxHeartbeats 1000000

theorem svalidShape_ct (x : Shp) (hx : LenX x) : ACalls pk 81 [.agg (eX x)] [] (fun r o => r = .one (.bool (okX x)) ∧ o = []) := by
  have hl := hx.len
  refine acalls_of_body Tryz.func81 rfl (by kernel_rfl) rfl ?_
  refine rn rfl ?_
  refine goal_loop_keep (fun m σ => ∃ (q : Int) (i : Nat), q = i ∧ i ≤ x.names.length ∧ m = x.names.length - i ∧ (∀ j, j < i → stepN x.names j = true) ∧
      σ = ⟨[(3, .one (.int .i64 q)), (1, .one (.op 0 0 0))], [some ⟨2, [eX x], false, false, true⟩], []⟩) x.names.length [3, 1] [0] rfl
    ⟨_, 0, rfl, by omega, by omega, fun j hj => by omega, rfl⟩ ?_
  rintro m σ ⟨q, i, rfl, hi, rfl, hall, rfl⟩
  refine rn rfl ?_
  refine goal_cond rfl (fun h => ?_) (fun h => ?_) <;> (try simp only [gt_iff_lt, ge_iff_le, bne_iff_ne, ne_eq, bne_eq_false_iff_eq, beq_iff_eq, beq_eq_false_iff_ne, Bool.not_eq_true', Bool.not_eq_false', decide_eq_true_eq, decide_eq_false_iff_not, List.length_map] at h)
  · obtain ⟨n, hn⟩ := at_some (xs := x.names) (i := i) (by omega)
    refine rn rfl ?_
    refine goal_draw' [0] 25 rfl ?_
    refine drn [0, 1, 2] (by kernel_rfl) (by kernel_rfl) rfl rfl ?_
    refine AH_did 3 rfl (by kernel_rfl) (by kernel_rfl) (by kernel_rfl) rfl rfl (dA_index (eS n) rfl rfl rfl rfl rfl rfl rfl (by omega) (by (try simp); omega) (map_at (by simpa using hn)) rfl) ?_
    refine drn [4] (by kernel_rfl) (by kernel_rfl) rfl rfl ?_
    refine AH_one (i := 5) (by kernel_rfl) (step_call [] rfl rfl rfl rfl rfl rfl (validName_ct n (hx.names n (List.mem_of_getElem? hn)))) (by simp) ?_
    rintro σ2 ⟨r, o', ⟨rfl, rfl⟩, hσ⟩
    obtain rfl := Option.some.inj hσ
    clear hσ
    refine drn [6, 7] (by kernel_rfl) (by kernel_rfl) rfl rfl ?_
    refine AH_guard (i := 8) rfl rfl rfl (fun h1 => ?_) (fun h1 => ?_) <;> (try simp only [gt_iff_lt, ge_iff_le, bne_iff_ne, ne_eq, bne_eq_false_iff_eq, beq_iff_eq, beq_eq_false_iff_ne, Bool.not_eq_true', Bool.not_eq_false', decide_eq_true_eq, decide_eq_false_iff_not, List.length_map] at h1)
    · refine drn [8, 9, 10, 11, 12, 13, 14, 15, 16, 17, 18, 19, 20, 21, 22, 23, 24] (by kernel_rfl) (by kernel_rfl) rfl rfl ?_
      refine AH_end (by kernel_rfl) ?_
      refine rn rfl ?_
      refine rn rfl (round_ret (fin_is [] rfl ⟨?_, rfl⟩))
      rw [okX_no (lt_of_some hn)]
      simp [stepN, hn, h1]
    · refine drn [8, 9, 10] (by kernel_rfl) (by kernel_rfl) rfl rfl ?_
      refine AH_guard (i := 11) rfl rfl rfl (fun h2 => ?_) (fun h2 => ?_) <;> (try simp only [gt_iff_lt, ge_iff_le, bne_iff_ne, ne_eq, bne_eq_false_iff_eq, beq_iff_eq, beq_eq_false_iff_ne, Bool.not_eq_true', Bool.not_eq_false', decide_eq_true_eq, decide_eq_false_iff_not, List.length_map] at h2)
      · obtain ⟨k, rfl⟩ : ∃ k, i = k + 1 := ⟨i - 1, by omega⟩
        obtain ⟨l, hl'⟩ := at_some (xs := x.names) (i := k) (by omega)
        have hw : IntKind.i64.wrap (((k + 1 : Nat) : Int) - 1) = (k : Int) := by rw [wrap64 (by omega) (by omega)]; omega
        refine drn [11, 12, 13, 16, 17, 18, 19] (by kernel_rfl) (by kernel_rfl) rfl rfl ?_
        refine AH_did 14 rfl (by kernel_rfl) (by kernel_rfl) (by kernel_rfl) rfl rfl (dA_index (eS n) rfl rfl rfl rfl rfl rfl rfl (by omega) (by (try simp); omega) (map_at (by simpa using hn)) rfl) ?_
        refine drn [15] (by kernel_rfl) (by kernel_rfl) rfl rfl ?_
        refine AH_did 20 rfl (by kernel_rfl) (by kernel_rfl) (by kernel_rfl) rfl rfl (dA_index (eS l) rfl rfl rfl rfl rfl rfl rfl (by rw [hw]; omega) (by rw [hw]; (try simp); omega) (map_at (by rw [hw]; simpa using hl')) rfl) ?_
        refine drn [21, 22, 23, 24] (by kernel_rfl) (by kernel_rfl) rfl rfl ?_
        refine AH_end (by kernel_rfl) ?_
        refine rn rfl ?_
        refine goal_cond rfl (fun h3 => ?_) (fun h3 => ?_)
        · refine rn rfl (round_ret (fin_is [] rfl ⟨?_, rfl⟩))
          have h3' : ltS l n = false := by
            have h4 : ltS n l = true ∨ n = l := by simpa [ltS] using h3
            rcases h4 with h4 | h4
            · exact ltS_asymm h4
            · rw [h4]; exact ltS_irrefl l
          rw [okX_no (lt_of_some hn)]
          simp [stepN, hn, hl', h3']
        · have h3' : ltS l n = true := by
            have h4 : ltS n l = false ∧ ¬ n = l := by simpa [ltS] using h3
            exact ltS_total h4.2 h4.1
          refine rn rfl ?_
          refine round_keep (x.names.length - (k + 1 + 1)) [3, 1] [0] (by omega) rfl ⟨_, k + 1 + 1, wrap64 (by omega) (by omega), by omega, rfl, stepN_all hn hall (by simp [stepN, hn, hl', h1, h3']), rfl⟩
      · refine drn [11, 12, 13, 14, 15, 16, 17, 18, 19, 20, 21, 22, 23, 24] (by kernel_rfl) (by kernel_rfl) rfl rfl ?_
        refine AH_end (by kernel_rfl) ?_
        refine rn rfl ?_
        refine rn rfl ?_
        refine round_keep (x.names.length - (i + 1)) [3, 1] [0] (by omega) rfl ⟨_, i + 1, wrap64 (by omega) (by omega), by omega, rfl, stepN_all hn hall ?_, rfl⟩
        have : i = 0 := by omega
        subst this
        simp [stepN, hn, h1]
  · refine rn rfl (round_ext ?_)
    have hok : okNs x.names = true := okNs_all.2 fun j hj => hall j (by omega)
    refine rn rfl ?_
    refine goal_step (step_call [] rfl rfl rfl rfl rfl rfl (sin_ct x.count 0 8)) ?_
    rintro σ2 ⟨r, o', ⟨rfl, rfl⟩, hσ⟩
    obtain rfl := Option.some.inj hσ
    clear hσ
    refine rn rfl ?_
    refine goal_guard rfl rfl rfl (fun h1 => ?_) (fun h1 => ?_) <;> (try simp only [gt_iff_lt, ge_iff_le, bne_iff_ne, ne_eq, bne_eq_false_iff_eq, beq_iff_eq, beq_eq_false_iff_ne, Bool.not_eq_true', Bool.not_eq_false', decide_eq_true_eq, decide_eq_false_iff_not, List.length_map] at h1)
    · refine rn rfl (fin_is [] rfl ⟨?_, rfl⟩)
      simp [okX, hok, h1]; omega
    · refine rn rfl (fin_is [] rfl ⟨?_, rfl⟩)
      simp [okX, hok, h1]

theorem sflatOf_ct (x : Shp) (n : Nat) (hn : x.count = (n : Int)) (hn8 : n ≤ 1000) (hl : x.names.length ≤ 1000) : ACalls pk 83 [.agg (eX x)] [] (fun r o => r = .agg (eF (flatX x)) ∧ o = []) := by
  have hF : flatX x = ⟨List.replicate n 0, x.names.map mkN⟩ := by simp [flatX, hn]
  rw [hF]
  obtain ⟨c, names⟩ := x
  simp only at hn hl
  subst hn
  refine acalls_of_body Tryz.func83 rfl (by kernel_rfl) rfl ?_
  refine rn rfl ?_
  refine goal_did rfl rfl (dA_make n ((List.replicate n (0 : Int)).map eI) rfl rfl rfl (by simp) (by simp) rfl rfl rfl rfl rfl (by show 8 * n ≤ _; omega) (by omega) (by rw [← rep_map]; rfl)) ?_
  refine rn rfl ?_
  refine goal_loop_keep (fun m σ => ∃ (q : Int) (i l : Nat) (acc : List Pair), q = i ∧ i ≤ names.length ∧ m = names.length - i ∧ l = acc.length ∧ acc = (names.take i).map mkN ∧
      σ = ⟨[(4, .one (.int .i64 q)), (3, .one (.op 4 0 0)), (2, .one (.op 1 0 0)), (1, .one (.op 0 0 0))],
        [some ⟨2, [eX ⟨n, names⟩], false, false, true⟩, some ⟨2, [[.fs [], .fs []]], false, false, true⟩, ownI (List.replicate n 0), ownP acc, some ⟨2, [[.os 2 0 n n, .os 3 0 l l]], false, false, true⟩], []⟩) names.length [4, 3, 2, 1] [0, 1, 2, 3, 4] rfl
    ⟨_, 0, 0, [], rfl, by omega, by omega, rfl, rfl, rfl⟩ ?_
  rintro m σ ⟨q, i, l, acc, rfl, hi, rfl, rfl, hacc, rfl⟩
  refine rn rfl ?_
  refine goal_cond rfl (fun h2 => ?_) (fun h2 => ?_) <;> (try simp only [gt_iff_lt, ge_iff_le, bne_iff_ne, ne_eq, bne_eq_false_iff_eq, beq_iff_eq, beq_eq_false_iff_ne, Bool.not_eq_true', Bool.not_eq_false', decide_eq_true_eq, decide_eq_false_iff_not, List.length_map] at h2)
  · obtain ⟨nm, hnm⟩ := at_some (xs := names) (i := i) (by omega)
    have hlen : acc.length = i := by rw [hacc]; simp; omega
    refine rn rfl ?_
    refine goal_drawL [0, 4] [11] 12 rfl ?_
    refine drnL [0, 1, 2, 3, 4] (by kernel_rfl) (by kernel_rfl) rfl rfl ?_
    refine AHL_did 5 rfl (by kernel_rfl) (by kernel_rfl) (by kernel_rfl) (by kernel_rfl) rfl rfl (dA_index (eS nm) rfl rfl rfl rfl rfl rfl rfl (by omega) (by (try simp); omega) (map_at (by simpa using hnm)) rfl) ?_
    refine drnL [6, 7] (by kernel_rfl) (by kernel_rfl) rfl rfl ?_
    refine AHL_oneDid 8 rfl (by kernel_rfl) rfl rfl (dA_step rfl) (mdOk rfl) ?_
    refine AHL_oneDid 9 rfl (by kernel_rfl) rfl rfl (dA_append (old := (acc).map eP) (rows := ([mkN nm] : List Pair).map eP) (((acc) ++ ([mkN nm] : List Pair)).map eP) (acc.length + 1) true (Dst.own rfl rfl rfl rfl rfl (by first | (simp; done) | (simp; omega)) (whole (by first | (simp; done) | (simp; omega)))) (Src.os rfl rfl (Nat.le_refl 1) rfl) rfl rfl rfl rfl rfl rfl rfl rfl (rows_len eP_len _) (rows_len eP_len _) (by (try simp only [List.length_map, List.length_append, List.length_cons, List.length_nil, List.length_take, List.length_drop]); show _ * 24 ≤ _; omega) (by first | (simp; done) | (simp; omega)) (by simp) (by first | (simp; done) | (simp; omega)) (fun _ => noOwnR_map _ eP_noOwn _)) (mdOk rfl) ?_
    refine drnL [10] (by kernel_rfl) (by kernel_rfl) rfl rfl ?_
    refine AHL_lateDid 11 rfl (by kernel_rfl) rfl rfl (dA_step rfl) ?_
    refine AH_end (by kernel_rfl) ?_
    refine rn rfl ?_
    refine round_keep (names.length - (i + 1)) [4, 3, 2, 1] [0, 1, 2, 6, 4] (by omega) rfl ⟨_, i + 1, acc.length + 1, acc ++ [mkN nm], wrap64 (by omega) (by omega), by omega, rfl, by simp, by rw [hacc, ← take_snoc hnm]; simp, rfl⟩
  · refine rn rfl (round_ext ?_)
    have hfin : acc = names.map mkN := by rw [hacc, List.take_of_length_le (by omega)]
    rw [← hfin]
    refine rn rfl (fin_is [] rfl ⟨?_, rfl⟩)
    rw [takeAll eI _ _ (by simp), takeAll eP _ _ rfl]; rfl

theorem sacceptsShape_ct (s : Sig) (x : Shp) (hs : LenS s) (hx : LenX x) : ACalls pk 26 [.agg (eG s), .agg (eX x)] [] (fun r o => r = .one (.bool (accX s x)) ∧ o = []) := by
  obtain ⟨s1, s2⟩ := hs
  refine acalls_of_body Tryz.func26 rfl (by kernel_rfl) rfl ?_
  refine rn rfl ?_
  refine goal_draw' [0, 1] 13 rfl ?_
  refine drn [0] (by kernel_rfl) (by kernel_rfl) rfl rfl ?_
  refine AH_one (i := 1) (by kernel_rfl) (step_call [] rfl rfl rfl rfl rfl rfl (svalidSig_ct s (by omega) s2)) (by simp) ?_
  rintro σ2 ⟨r, o', ⟨rfl, rfl⟩, hσ⟩
  obtain rfl := Option.some.inj hσ
  clear hσ
  refine drn [2] (by kernel_rfl) (by kernel_rfl) rfl rfl ?_
  refine AH_guard (i := 3) rfl rfl rfl (fun h1 => ?_) (fun h1 => ?_) <;> (try simp only [gt_iff_lt, ge_iff_le, bne_iff_ne, ne_eq, bne_eq_false_iff_eq, beq_iff_eq, beq_eq_false_iff_ne, Bool.not_eq_true', Bool.not_eq_false', decide_eq_true_eq, decide_eq_false_iff_not, List.length_map] at h1)
  · have hok := okSig_iff.1 h1
    refine drn [3] (by kernel_rfl) (by kernel_rfl) rfl rfl ?_
    refine AH_one (i := 4) (by kernel_rfl) (step_call [] rfl rfl rfl rfl rfl rfl (svalidShape_ct x hx)) (by simp) ?_
    rintro σ2 ⟨r, o', ⟨rfl, rfl⟩, hσ⟩
    obtain rfl := Option.some.inj hσ
    clear hσ
    refine drn [5, 6] (by kernel_rfl) (by kernel_rfl) rfl rfl ?_
    refine AH_guard (i := 7) rfl rfl rfl (fun h2 => ?_) (fun h2 => ?_) <;> (try simp only [gt_iff_lt, ge_iff_le, bne_iff_ne, ne_eq, bne_eq_false_iff_eq, beq_iff_eq, beq_eq_false_iff_ne, Bool.not_eq_true', Bool.not_eq_false', decide_eq_true_eq, decide_eq_false_iff_not, List.length_map] at h2)
    · have hf := okX_flat h2
      have h2' : okX x = true := h2
      have hc := h2'
      simp only [okX, Bool.and_eq_true, decide_eq_true_eq, inR] at hc
      obtain ⟨n, hn⟩ : ∃ n : Nat, x.count = n := ⟨x.count.toNat, by omega⟩
      refine drn [7, 8] (by kernel_rfl) (by kernel_rfl) rfl rfl ?_
      refine AH_one (i := 9) (by kernel_rfl) (step_call [] rfl rfl rfl rfl rfl rfl (sflatOf_ct x n hn (by omega) (by omega))) (by simp) ?_
      rintro σ2 ⟨r, o', ⟨rfl, rfl⟩, hσ⟩
      obtain rfl := Option.some.inj hσ
      clear hσ
      refine AH_one (i := 10) (by kernel_rfl) (step_call [] rfl rfl rfl rfl rfl rfl (saccepts_ct s (flatX x) hok hf.len)) (by simp) ?_
      rintro σ2 ⟨r, o', ⟨rfl, rfl⟩, hσ⟩
      obtain rfl := Option.some.inj hσ
      clear hσ
      refine drn [11, 12] (by kernel_rfl) (by kernel_rfl) rfl rfl ?_
      refine AH_end (by kernel_rfl) ?_
      refine rn rfl ?_
      refine rn rfl (fin_is [] rfl ⟨?_, rfl⟩)
      unfold accX
      rw [h2', bind_ok hok hf]; rfl
    · refine drn [7, 8, 9, 10, 11, 12] (by kernel_rfl) (by kernel_rfl) rfl rfl ?_
      refine AH_end (by kernel_rfl) ?_
      refine rn rfl ?_
      refine rn rfl (fin_is [] rfl ⟨?_, rfl⟩)
      simp [accX, h2]
  · refine drn [3, 4, 5, 6, 7, 8, 9, 10, 11, 12] (by kernel_rfl) (by kernel_rfl) rfl rfl ?_
    refine AH_end (by kernel_rfl) ?_
    refine rn rfl ?_
    refine rn rfl (fin_is [] rfl ⟨?_, rfl⟩)
    simp [accX, BindQ, fitQ, h1]

structure SmallX (x : Shp) : Prop where
  len : x.names.length ≤ 10
  names : ∀ n ∈ x.names, n.length ≤ 7

theorem SmallX.lenX {x : Shp} (h : SmallX x) : LenX x := ⟨by have := h.len; omega, fun n hn => by have := h.names n hn; omega⟩

theorem shape_smallX {f : Flat} (h1 : f.named.length ≤ 9) (h2 : ∀ p ∈ f.named, p.name.length ≤ 7) (c : Int) : SmallX ⟨c, namesOf (sortL f.named)⟩ := by
  have h3 := sortL_length f.named
  refine ⟨by simp [namesOf]; omega, fun n hn => ?_⟩
  obtain ⟨q, hq, rfl⟩ := List.mem_map.1 ((sortL_names _ _).1 hn)
  exact h2 q hq

theorem shapeOfO_ct (f : Flat) (h2 : f.named.length ≤ 1048576) :
    ACalls pk 143 [.agg (eF f)] [] (fun r o => r = rX ⟨f.places.length, namesOf (sortL f.named)⟩ ∧ o = oX ⟨f.places.length, namesOf (sortL f.named)⟩) := by
  have hsl := sortL_length f.named
  refine acalls_of_body Tryz.func143 rfl (by kernel_rfl) rfl ?_
  refine rn rfl ?_
  refine goal_step (step_call [] rfl rfl rfl rfl rfl rfl (sortedPairsD_ct f.named (by omega))) ?_
  rintro σ2 ⟨r, o', ⟨rfl, rfl⟩, hσ⟩
  obtain rfl := Option.some.inj hσ
  clear hσ
  refine rn rfl ?_
  generalize sortL f.named = S at hsl ⊢
  refine rn rfl ?_
  refine goal_loop_keep (fun m σ => ∃ (n : Int) (i l : Nat) (acc : List Str), n = i ∧ i ≤ S.length ∧ m = S.length - i ∧ l = acc.length ∧ acc = namesOf (S.take i) ∧
      σ = ⟨[(5, .one (.int .i64 n)), (4, .one (.fs (S.map eP))), (3, .one (.op 1 0 0)), (2, .one (.op 0 0 0))],
        [some ⟨2, [[.int .i64 0, .fs []]], false, false, true⟩, some ⟨2, [[.int .i64 (f.places.map eI).length, .os 2 0 l l]], false, false, true⟩, ownS acc], []⟩) S.length [5, 4, 3, 2] [1, 3, 2] rfl
      ⟨_, 0, 0, [], rfl, by omega, by omega, rfl, rfl, rfl⟩ ?_
  rintro m σ ⟨n, i, l, acc, rfl, hi, rfl, rfl, hacc, rfl⟩
  have hlen : acc.length = i := by rw [hacc]; simp [namesOf]; omega
  refine rn rfl ?_
  refine goal_cond rfl (fun h3 => ?_) (fun h3 => ?_) <;> (try simp only [gt_iff_lt, ge_iff_le, bne_iff_ne, ne_eq, bne_eq_false_iff_eq, beq_iff_eq, beq_eq_false_iff_ne, Bool.not_eq_true', Bool.not_eq_false', decide_eq_true_eq, decide_eq_false_iff_not, List.length_map] at h3)
  · obtain ⟨p, hp⟩ := at_some (xs := S) (i := i) (by omega)
    refine rn rfl ?_
    refine goal_drawL [1] [10] 11 rfl ?_
    refine drnL [0, 1, 2, 3] (by kernel_rfl) (by kernel_rfl) rfl rfl ?_
    refine AHL_did 4 rfl (by kernel_rfl) (by kernel_rfl) (by kernel_rfl) (by kernel_rfl) rfl rfl (dA_index (eP p) rfl rfl rfl rfl rfl rfl rfl (by omega) (by (try simp); omega) (map_at (by simpa using hp)) rfl) ?_
    refine drnL [5, 6] (by kernel_rfl) (by kernel_rfl) rfl rfl ?_
    refine AHL_oneDid 7 rfl (by kernel_rfl) rfl rfl (dA_step rfl) (mdOk rfl) ?_
    refine AHL_oneDid 8 rfl (by kernel_rfl) rfl rfl (dA_append (old := (acc).map eS) (rows := ([p.name] : List Str).map eS) (((acc) ++ ([p.name] : List Str)).map eS) (acc.length + 1) true (Dst.own rfl rfl rfl rfl rfl (by first | (simp; done) | (simp; omega)) (whole (by first | (simp; done) | (simp; omega)))) (Src.os rfl rfl (Nat.le_refl 1) rfl) rfl rfl rfl rfl rfl rfl rfl rfl (rows_len eS_len _) (rows_len eS_len _) (by (try simp only [List.length_map, List.length_append, List.length_cons, List.length_nil, List.length_take, List.length_drop]); show _ * 16 ≤ _; omega) (by first | (simp; done) | (simp; omega)) (by simp) (by first | (simp; done) | (simp; omega)) (fun _ => noOwnR_map _ eS_noOwn _)) (mdOk rfl) ?_
    refine drnL [9] (by kernel_rfl) (by kernel_rfl) rfl rfl ?_
    refine AHL_lateDid 10 rfl (by kernel_rfl) rfl rfl (dA_step rfl) ?_
    refine AH_end (by kernel_rfl) ?_
    refine rn rfl ?_
    refine round_keep (S.length - (i + 1)) [5, 4, 3, 2] [0, 1, 4] (by omega) rfl ⟨_, i + 1, acc.length + 1, acc ++ [p.name], wrap64 (by omega) (by omega), by omega, rfl, by simp, by rw [namesOf_take_succ hp, hacc], rfl⟩
  · refine rn rfl ?_
    refine round_ext ?_
    have hi' : i = S.length := by omega
    have hacc' : acc = namesOf S := by rw [hacc, hi', List.take_length]
    rw [← hacc']
    refine rn rfl (fin_is [2] rfl ⟨?_, rfl⟩)
    simp [rX]

theorem someShape_ct (bs : Str) (k : Int) (hb : bs.length ≤ 2000) (hk : 0 ≤ k) (hk' : k ≤ 1073700000) :
    ACalls pk 144 [.one (.op 0 0 0)] [oR bs k] (fun r o => ∃ x k', SmallX x ∧ k ≤ k' ∧ k' ≤ k + 50 ∧ r = .agg (eX x) ∧ o = [oR bs k']) := by
  refine acalls_of_body Tryz.func144 rfl (by kernel_rfl) rfl ?_
  refine rn rfl ?_
  refine goal_step (step_callE [0] rfl rfl rfl rfl rfl rfl (rfl) (goodFlat_ct bs k hb hk (by omega))) ?_
  rintro σ2 ⟨r, o', ⟨f, k1, hf, hk1, hk2, rfl, rfl⟩, hσ⟩
  obtain rfl := Option.some.inj hσ
  clear hσ
  refine rn rfl ?_
  have hf1 := hf.places
  have hf2 := hf.named
  have hsx : SmallX ⟨f.places.length, namesOf (sortL f.named)⟩ := shape_smallX (by omega) hf.names _
  refine goal_step (step_callE [] rfl rfl rfl rfl rfl rfl (cons_eq (asFl f) rfl) (shapeOfO_ct f (by omega))) ?_
  rintro σ2 ⟨r, o', ⟨rfl, rfl⟩, hσ⟩
  obtain rfl := Option.some.inj hσ
  clear hσ
  refine rn rfl ?_
  have hx9 : (namesOf (sortL f.named)).length ≤ 9 := by have h3 := sortL_length f.named; simp [namesOf]; omega
  generalize namesOf (sortL f.named) = names at hsx hx9
  generalize ((f.places.length : Nat) : Int) = c at hsx
  have hxl := hsx.len
  simp only at hxl
  refine rn rfl ?_
  refine goal_step (step_callE [0] rfl rfl rfl rfl rfl rfl (rfl) (pick_ct bs k1 20 hb (by omega) (by omega) (by omega))) ?_
  rintro σ2 ⟨r, o', ⟨⟨z, rfl, _, _⟩, rfl⟩, hσ⟩
  obtain rfl := Option.some.inj hσ
  clear hσ
  refine rn rfl ?_
  refine goal_cond rfl (fun h1 => ?_) (fun h1 => ?_) <;> (try simp only [gt_iff_lt, ge_iff_le, bne_iff_ne, ne_eq, bne_eq_false_iff_eq, beq_iff_eq, beq_eq_false_iff_ne, Bool.not_eq_true', Bool.not_eq_false', decide_eq_true_eq, decide_eq_false_iff_not, List.length_map] at h1)
  · refine rn rfl ?_
    refine goal_step (step_callE [0] rfl rfl rfl rfl rfl rfl (rfl) (one_ct bs (k1 + 1) [-1, 9, 8] hb (by omega) (by omega) (by decide) (by decide))) ?_
    rintro σ2 ⟨r, o', ⟨⟨v, hv, rfl⟩, rfl⟩, hσ⟩
    obtain rfl := Option.some.inj hσ
    clear hσ
    refine rn rfl ?_
    refine rn rfl (fin_is [] rfl ⟨⟨v, names⟩, k1 + 1 + 1, ⟨hxl, hsx.names⟩, by omega, by omega, ?_, rfl⟩)
    exact asX ⟨v, names⟩
  · refine rn rfl ?_
    refine goal_cond rfl (fun h2 => ?_) (fun h2 => ?_) <;> (try simp only [gt_iff_lt, ge_iff_le, bne_iff_ne, ne_eq, bne_eq_false_iff_eq, beq_iff_eq, beq_eq_false_iff_ne, Bool.not_eq_true', Bool.not_eq_false', decide_eq_true_eq, decide_eq_false_iff_not, List.length_map] at h2)
    · refine rn rfl ?_
      refine goal_drawL [5] [7] 8 rfl ?_
      refine drnL [0, 1, 2] (by kernel_rfl) (by kernel_rfl) rfl rfl ?_
      refine AHL_one (i := 3) (by kernel_rfl) rfl (step_callE [0] rfl rfl rfl rfl rfl rfl (rfl) (anyName_ct bs (k1 + 1) hb (by omega) (by omega))) (by simp) ?_
      rintro σ2 ⟨r, o', ⟨⟨nm, hnm, rfl⟩, rfl⟩, hσ⟩
      obtain rfl := Option.some.inj hσ
      clear hσ
      refine AHL_oneDid 4 rfl (by kernel_rfl) rfl rfl (dA_step rfl) (mdOk rfl) ?_
      refine AHL_oneDid 5 rfl (by kernel_rfl) rfl rfl (dA_append (old := (names).map eS) (rows := ([nm] : List Str).map eS) (((names) ++ ([nm] : List Str)).map eS) (names.length + 1) true (Dst.own rfl rfl rfl rfl rfl (by first | (simp; done) | (simp; omega)) (whole (by first | (simp; done) | (simp; omega)))) (Src.os rfl rfl (Nat.le_refl 1) rfl) rfl rfl rfl rfl rfl rfl rfl rfl (rows_len eS_len _) (rows_len eS_len _) (by (try simp only [List.length_map, List.length_append, List.length_cons, List.length_nil, List.length_take, List.length_drop]); show _ * 16 ≤ _; omega) (by first | (simp; done) | (simp; omega)) (by simp) (by first | (simp; done) | (simp; omega)) (fun _ => noOwnR_map _ eS_noOwn _)) (mdOk rfl) ?_
      refine drnL [6] (by kernel_rfl) (by kernel_rfl) rfl rfl ?_
      refine AHL_lateDid 7 rfl (by kernel_rfl) rfl rfl (dA_step rfl) ?_
      refine AH_end (by kernel_rfl) ?_
      refine rn rfl ?_
      refine rn rfl (fin_is [] rfl ⟨⟨c, names ++ [nm]⟩, k1 + 1 + 2, ⟨by have h9 : names.length ≤ 9 := hx9; simp; omega, fun n hn => ?_⟩, by omega, by omega, ?_, rfl⟩)
      · rcases List.mem_append.1 hn with hn | hn
        · exact hsx.names n hn
        · simp only [List.mem_singleton] at hn; rw [hn]; exact hnm
      · rw [takeAll eS _ _ (by simp)]; rfl
    · refine rn rfl ?_
      refine rn rfl (fin_is [] rfl ⟨⟨c, names⟩, k1 + 1, hsx, by omega, by omega, ?_, rfl⟩)
      exact asX ⟨c, names⟩

theorem shapeIn_ct (bs : Str) (k : Int) (hb : bs.length ≤ 2000) (hk : 0 ≤ k) (hk' : k ≤ 1073500000) :
    ACalls pk 77 [.one (.op 0 0 0)] [oR bs k] (fun r o => ∃ s x k', SmallS s ∧ SmallX x ∧ k ≤ k' ∧ k' ≤ k + 500 ∧ r = .tup [.agg (eG s), .agg (eX x)] ∧ o = [oR bs k']) := by
  refine acalls_of_body Tryz.func77 rfl (by kernel_rfl) rfl ?_
  refine rn rfl ?_
  refine goal_step (step_callE [0] rfl rfl rfl rfl rfl rfl rfl (signatureCall_ct bs k hb hk (by omega))) ?_
  rintro σ2 ⟨r, o', ⟨s, f, k1, hs, hf, hk1, hk2, rfl, rfl⟩, hσ⟩
  obtain rfl := Option.some.inj hσ
  clear hσ
  have lf := hf.lens
  have hf1 := hf.places
  have hf2 := hf.named
  have hsx : SmallX ⟨f.places.length, namesOf (sortL f.named)⟩ := shape_smallX (by omega) hf.names _
  refine rn rfl ?_
  refine goal_step (step_call [] rfl rfl rfl rfl rfl rfl (svalidFlat_ct f (by omega) (by omega) lf.names)) ?_
  rintro σ2 ⟨r, o', ⟨rfl, rfl⟩, hσ⟩
  obtain rfl := Option.some.inj hσ
  clear hσ
  refine rn rfl ?_
  refine goal_guard rfl rfl rfl (fun h1 => ?_) (fun h1 => ?_) <;> (try simp only [gt_iff_lt, ge_iff_le, bne_iff_ne, ne_eq, bne_eq_false_iff_eq, beq_iff_eq, beq_eq_false_iff_ne, Bool.not_eq_true', Bool.not_eq_false', decide_eq_true_eq, decide_eq_false_iff_not, List.length_map] at h1)
  · refine rn rfl ?_
    refine goal_step (step_callE [0] rfl rfl rfl rfl rfl rfl (rfl) (pick_ct bs k1 4 hb (by omega) (by omega) (by omega))) ?_
    rintro σ2 ⟨r, o', ⟨⟨z, rfl, _, _⟩, rfl⟩, hσ⟩
    obtain rfl := Option.some.inj hσ
    clear hσ
    refine rn rfl ?_
    refine goal_cond rfl (fun h2 => ?_) (fun h2 => ?_) <;> (try simp only [gt_iff_lt, ge_iff_le, bne_iff_ne, ne_eq, bne_eq_false_iff_eq, beq_iff_eq, beq_eq_false_iff_ne, Bool.not_eq_true', Bool.not_eq_false', decide_eq_true_eq, decide_eq_false_iff_not, List.length_map] at h2)
    · refine rn rfl ?_
      refine goal_draw' [3, 4] 5 rfl ?_
      refine drn [0, 1] (by kernel_rfl) (by kernel_rfl) rfl rfl ?_
      refine AH_one (i := 2) (by kernel_rfl) (step_call [] rfl rfl rfl rfl rfl rfl (shapeOf_ct f (by omega))) (by simp) ?_
      rintro σ2 ⟨r, o', ⟨rfl, rfl⟩, hσ⟩
      obtain rfl := Option.some.inj hσ
      clear hσ
      refine AH_oneDid 3 rfl (by kernel_rfl) rfl (dA_step rfl) (mdOk rfl) ?_
      refine AH_oneDid 4 rfl (by kernel_rfl) rfl (dA_step rfl) (mdOk rfl) ?_
      refine AH_end (by kernel_rfl) ?_
      refine rn rfl ?_
      exact rn rfl (fin_is [] rfl ⟨s, _, k1 + 1, hs, hsx, by omega, by omega, rfl, rfl⟩)
    · refine rn rfl ?_
      refine goal_draw' [3] 5 rfl ?_
      refine drn [0, 1] (by kernel_rfl) (by kernel_rfl) rfl rfl ?_
      refine AH_one (i := 2) (by kernel_rfl) (step_callE [0] rfl rfl rfl rfl rfl rfl (rfl) (someShape_ct bs (k1 + 1) hb (by omega) (by omega))) (by simp) ?_
      rintro σ2 ⟨r, o', ⟨x, k2, hx, hk3, hk4, rfl, rfl⟩, hσ⟩
      obtain rfl := Option.some.inj hσ
      clear hσ
      refine AH_oneDid 3 rfl (by kernel_rfl) rfl (dA_step rfl) (mdOk rfl) ?_
      refine AH_oneDid 4 rfl (by kernel_rfl) rfl (dA_step rfl) (mdOk rfl) ?_
      refine AH_end (by kernel_rfl) ?_
      refine rn rfl ?_
      exact rn rfl (fin_is [] rfl ⟨s, x, k2, hs, hx, by omega, by omega, rfl, rfl⟩)
  · refine rn rfl ?_
    refine goal_draw' [3] 5 rfl ?_
    refine drn [0, 1] (by kernel_rfl) (by kernel_rfl) rfl rfl ?_
    refine AH_one (i := 2) (by kernel_rfl) (step_callE [0] rfl rfl rfl rfl rfl rfl (rfl) (someShape_ct bs k1 hb (by omega) (by omega))) (by simp) ?_
    rintro σ2 ⟨r, o', ⟨x, k2, hx, hk3, hk4, rfl, rfl⟩, hσ⟩
    obtain rfl := Option.some.inj hσ
    clear hσ
    refine AH_oneDid 3 rfl (by kernel_rfl) rfl (dA_step rfl) (mdOk rfl) ?_
    refine AH_oneDid 4 rfl (by kernel_rfl) rfl (dA_step rfl) (mdOk rfl) ?_
    refine AH_end (by kernel_rfl) ?_
    refine rn rfl ?_
    exact rn rfl (fin_is [] rfl ⟨s, x, k2, hs, hx, by omega, by omega, rfl, rfl⟩)

theorem drawAcceptsShape_ct (bs : Str) : ACalls pk 24 [.one (.fs (bs.map rowB))] [] (fun r o => ∃ s x, SmallS s ∧ SmallX x ∧ r = .tup [.agg (eG s), .agg (eX x)] ∧ o = []) := by
  have hb : (bs.take 2000).length ≤ 2000 := by simp; omega
  refine acalls_of_body Tryz.func24 rfl (by kernel_rfl) rfl ?_
  refine rn rfl ?_
  refine goal_step (step_call [] rfl rfl rfl rfl rfl rfl (newReader_ct bs)) ?_
  rintro σ2 ⟨r, o', ⟨rfl, rfl⟩, hσ⟩
  obtain rfl := Option.some.inj hσ
  clear hσ
  refine rn rfl ?_
  refine goal_step (step_callE [2] rfl rfl rfl rfl rfl rfl rfl (shapeIn_ct (bs.take 2000) 0 hb (by omega) (by omega))) ?_
  rintro σ2 ⟨r, o', ⟨s, x, k1, hs, hx, hk1, hk2, rfl, rfl⟩, hσ⟩
  obtain rfl := Option.some.inj hσ
  clear hσ
  exact rn rfl (fin_is [] rfl ⟨s, x, hs, hx, rfl, rfl⟩)

theorem all_take_false {α : Type} {P : α → Bool} {xs : List α} {k : Nat} (h : (xs.take k).all P = false) : xs.all P = false := by
  rw [List.all_eq_false] at h ⊢
  obtain ⟨x, hx, hp⟩ := h
  exact ⟨x, List.mem_of_mem_take hx, hp⟩

theorem fnAcceptsShape_ct (bs : Str) (hl : bs.length ≤ 9223372036854775807) : ACalls pk 5 [.one (.fs (bs.map rowB))] [] (fun r o => r = .one (.bool true) ∧ o = []) := by
  refine acalls_of_body Tryz.func5 rfl (by kernel_rfl) rfl ?_
  refine rn rfl ?_
  refine goal_cond rfl (fun h => ?_) (fun h => ?_) <;> (try simp only [gt_iff_lt, ge_iff_le, bne_iff_ne, ne_eq, bne_eq_false_iff_eq, beq_iff_eq, beq_eq_false_iff_ne, Bool.not_eq_true', Bool.not_eq_false', decide_eq_true_eq, decide_eq_false_iff_not, List.length_map] at h)
  · exact rn rfl (fin_is [] rfl ⟨rfl, rfl⟩)
  · refine rn rfl ?_
    refine goal_step (step_call [] rfl rfl rfl rfl rfl rfl (drawAcceptsShape_ct bs)) ?_
    rintro σ2 ⟨r, o', ⟨s, x, hs, hx, rfl, rfl⟩, hσ⟩
    obtain rfl := Option.some.inj hσ
    clear hσ
    have ls := hs.lens
    have lx := hx.lenX
    have hsl := hs.len
    have hxl := hx.len
    have hI := iacceptsShape_ct s x ls lx
    have hS := sacceptsShape_ct s x ls lx
    have hlaw := fun (h1 : OkS s) (h2 : okX x = true) (n : Nat) (hn : x.count = (n : Int)) => shape_law h1 h2 hn
    generalize accX s x = b at *
    refine rn rfl ?_
    refine goal_step (step_call [] rfl rfl rfl rfl rfl rfl (hI)) ?_
    rintro σ2 ⟨r, o', ⟨rfl, rfl⟩, hσ⟩
    obtain rfl := Option.some.inj hσ
    clear hσ
    refine rn rfl ?_
    refine rn rfl ?_
    refine goal_step (step_call [] rfl rfl rfl rfl rfl rfl (hS)) ?_
    rintro σ2 ⟨r, o', ⟨rfl, rfl⟩, hσ⟩
    obtain rfl := Option.some.inj hσ
    clear hσ
    refine rn rfl ?_
    refine goal_guard rfl rfl rfl (fun h1 => by simp at h1) (fun _ => ?_)
    refine rn rfl ?_
    refine goal_step (step_call [] rfl rfl rfl rfl rfl rfl (ivalidSig_ct s (by omega) (fun p hp => by have := hs.names p hp; omega))) ?_
    rintro σ2 ⟨r, o', ⟨rfl, rfl⟩, hσ⟩
    obtain rfl := Option.some.inj hσ
    clear hσ
    refine rn rfl ?_
    refine goal_guard rfl rfl rfl (fun h1 => ?_) (fun h1 => ?_) <;> (try simp only [gt_iff_lt, ge_iff_le, bne_iff_ne, ne_eq, bne_eq_false_iff_eq, beq_iff_eq, beq_eq_false_iff_ne, Bool.not_eq_true', Bool.not_eq_false', decide_eq_true_eq, decide_eq_false_iff_not, List.length_map] at h1)
    · refine rn rfl ?_
      refine goal_step (step_call [] rfl rfl rfl rfl rfl rfl (hS)) ?_
      rintro σ2 ⟨r, o', ⟨rfl, rfl⟩, hσ⟩
      obtain rfl := Option.some.inj hσ
      clear hσ
      refine rn rfl ?_
      refine rn rfl (fin_is [] rfl ⟨?_, rfl⟩)
      simp
    refine rn rfl ?_
    refine goal_step (step_call [] rfl rfl rfl rfl rfl rfl (ivalidShape_ct x lx)) ?_
    rintro σ2 ⟨r, o', ⟨rfl, rfl⟩, hσ⟩
    obtain rfl := Option.some.inj hσ
    clear hσ
    refine rn rfl ?_
    refine goal_cond rfl (fun h2 => ?_) (fun h2 => ?_) <;> (try simp only [gt_iff_lt, ge_iff_le, bne_iff_ne, ne_eq, bne_eq_false_iff_eq, beq_iff_eq, beq_eq_false_iff_ne, Bool.not_eq_true', Bool.not_eq_false', decide_eq_true_eq, decide_eq_false_iff_not, List.length_map] at h2)
    · refine rn rfl ?_
      refine goal_step (step_call [] rfl rfl rfl rfl rfl rfl (hS)) ?_
      rintro σ2 ⟨r, o', ⟨rfl, rfl⟩, hσ⟩
      obtain rfl := Option.some.inj hσ
      clear hσ
      refine rn rfl ?_
      refine rn rfl (fin_is [] rfl ⟨?_, rfl⟩)
      simp
    have hok := okSig_iff.1 h1
    have hc := h2
    simp only [okX, Bool.and_eq_true, decide_eq_true_eq, inR] at hc
    obtain ⟨n, hn⟩ : ∃ n : Nat, x.count = n := ⟨x.count.toNat, by omega⟩
    have hiff := hlaw hok h2 n hn
    obtain ⟨c, names⟩ := x
    simp only at hn hxl
    subst hn
    simp only at hiff
    have hD := ineedsAtD_ct s n ls
    rw [needsF_snd] at hD
    have hneed : (NeedsF s n).1 = if goodC s n then sortS (needNs s n) else [] := by unfold NeedsF; split <;> simp
    have g1 := needsF_len s n
    have hbool : b = (goodC s n && ((NeedsF s n).1.all (fun m => decide (m ∈ names)) && names.all (fun m => AllowsF s n m))) := by
      have e : b = true ↔ (goodC s n && ((NeedsF s n).1.all (fun m => decide (m ∈ names)) && names.all (fun m => AllowsF s n m))) = true := by
        rw [hiff, hneed]
        simp only [Bool.and_eq_true, List.all_eq_true, decide_eq_true_eq]
        refine and_congr_right fun hg => and_congr_left fun _ => ?_
        rw [if_pos hg]
        exact ⟨fun h3 m hm => h3 m ((sortS_mem _ _).1 hm), fun h3 m hm => h3 m ((sortS_mem _ _).2 hm)⟩
      cases h3 : b with
      | true => rw [e.1 h3]
      | false =>
        cases h4 : (goodC s n && ((NeedsF s n).1.all (fun m => decide (m ∈ names)) && names.all (fun m => AllowsF s n m))) with
        | false => rfl
        | true => rw [e.2 h4] at h3; cases h3
    have hAl := fun (m : Str) (hm : m ∈ names) => iallowsAt_ct s n m ls (by have := hx.names m hm; omega)
    generalize (NeedsF s n).1 = M at *
    generalize goodC s n = g0 at *
    refine rn rfl ?_
    refine goal_step (step_call [] rfl rfl rfl rfl rfl rfl (hD)) ?_
    rintro σ2 ⟨r, o', ⟨rfl, rfl⟩, hσ⟩
    obtain rfl := Option.some.inj hσ
    clear hσ
    refine rn rfl ?_
    refine goal_loop_keep (fun mm σ => ∃ (q : Int) (i : Nat) (g : Bool), q = i ∧ i ≤ M.length ∧ mm = M.length - i ∧ g = (g0 && (M.take i).all (fun m => decide (m ∈ names))) ∧
        σ = ⟨[(8, .one (.int .i64 q)), (7, .one (.bool g)), (6, .one (.fs (M.map eS))), (5, .one (.bool b)), (4, .one (.op 1 0 0)), (3, .one (.op 0 0 0))],
          [some ⟨1, [eG s], false, false, true⟩, some ⟨2, [eX ⟨n, names⟩], false, false, true⟩], []⟩) M.length [8, 7, 6, 5, 4, 3] [0, 1] rfl
      ⟨_, 0, g0, rfl, by omega, by omega, by simp, rfl⟩ ?_
    rintro mm σ ⟨q, i, g, rfl, hi, rfl, hg, rfl⟩
    have step1 : ∀ (i : Nat) (y : Str), M[i]? = some y → (g0 && (M.take i).all (fun m => decide (m ∈ names))) = true → decide (y ∈ names) = (g0 && (M.take (i + 1)).all (fun m => decide (m ∈ names))) := fun i y hy h3 => by
      simp only [Bool.and_eq_true] at h3
      rw [all_take_succ hy, h3.1, h3.2]; simp
    have step2 : ∀ (j : Nat) (z : Str), names[j]? = some z → ((g0 && M.all (fun m => decide (m ∈ names))) && (names.take j).all (fun m => AllowsF s n m)) = true → AllowsF s n z = ((g0 && M.all (fun m => decide (m ∈ names))) && (names.take (j + 1)).all (fun m => AllowsF s n m)) := fun j z hz h3 => by
      rw [Bool.and_eq_true] at h3
      rw [all_take_succ hz, h3.1, h3.2]; simp
    have last1 : ∀ (j : Nat), ((g0 && M.all (fun m => decide (m ∈ names))) && (names.take j).all (fun m => AllowsF s n m)) = false → b = false := fun j h3 => by
      rw [hbool, ← Bool.and_assoc]
      cases h4 : (g0 && M.all (fun m => decide (m ∈ names))) with
      | false => rfl
      | true => rw [h4, Bool.true_and] at h3; rw [all_take_false h3]; rfl
    refine rn rfl ?_
    refine goal_guard rfl rfl rfl (fun h4 => ?_) (fun h4 => ?_) <;> (try simp only [gt_iff_lt, ge_iff_le, bne_iff_ne, ne_eq, bne_eq_false_iff_eq, beq_iff_eq, beq_eq_false_iff_ne, Bool.not_eq_true', Bool.not_eq_false', decide_eq_true_eq, decide_eq_false_iff_not, List.length_map] at h4)
    · refine rn rfl ?_
      refine goal_cond rfl (fun h5 => ?_) (fun h5 => ?_)
      · rw [h5] at hg ⊢
        obtain ⟨y, hy⟩ := at_some (xs := M) (i := i) (by omega)
        refine rn rfl ?_
        refine goal_draw' [1] 11 rfl ?_
        refine drn [0, 1] (by kernel_rfl) (by kernel_rfl) rfl rfl ?_
        refine AH_guard (i := 2) rfl rfl rfl (fun h6 => ?_) (fun h6 => ?_) <;> (try simp only [gt_iff_lt, ge_iff_le, bne_iff_ne, ne_eq, bne_eq_false_iff_eq, beq_iff_eq, beq_eq_false_iff_ne, Bool.not_eq_true', Bool.not_eq_false', decide_eq_true_eq, decide_eq_false_iff_not, List.length_map] at h6)
        · refine drn [2, 3, 4, 5] (by kernel_rfl) (by kernel_rfl) rfl rfl ?_
          refine AH_did 6 rfl (by kernel_rfl) (by kernel_rfl) (by kernel_rfl) rfl rfl (dA_index (eS y) rfl rfl rfl rfl rfl rfl rfl (by omega) (by (try simp); omega) (map_at (by simpa using hy)) rfl) ?_
          refine drn [7] (by kernel_rfl) (by kernel_rfl) rfl rfl ?_
          refine AH_one (i := 8) (by kernel_rfl) (step_call [] rfl rfl rfl rfl rfl rfl (hasText_ct names y (by omega))) (by simp) ?_
          rintro σ2 ⟨r, o', ⟨rfl, rfl⟩, hσ⟩
          obtain rfl := Option.some.inj hσ
          clear hσ
          refine drn [9, 10] (by kernel_rfl) (by kernel_rfl) rfl rfl ?_
          refine AH_end (by kernel_rfl) ?_
          refine rn rfl ?_
          refine rn rfl ?_
          refine round_keep (M.length - (i + 1)) [8, 7, 6, 5, 4, 3] [0, 1] (by omega) rfl ⟨_, i + 1, decide (y ∈ names), wrap64 (by omega) (by omega), by omega, rfl, step1 i y hy hg.symm, rfl⟩
        · exact absurd h6 (by simp)
      · have hG : g = (g0 && M.all (fun m => decide (m ∈ names))) := by
          rw [h5] at hg ⊢
          cases h6 : g0 with
          | false => rfl
          | true => rw [h6, Bool.true_and] at hg; rw [all_take_false hg.symm]; rfl
        refine rn rfl (round_ext ?_)
        refine rn rfl ?_
        refine goal_loop_keep (fun mm σ => ∃ (q : Int) (j : Nat) (g2 : Bool), q = j ∧ j ≤ names.length ∧ mm = names.length - j ∧ g2 = ((g0 && M.all (fun m => decide (m ∈ names))) && (names.take j).all (fun m => AllowsF s n m)) ∧
            σ = ⟨[(9, .one (.int .i64 q)), (7, .one (.bool g2)), (5, .one (.bool b)), (4, .one (.op 1 0 0)), (3, .one (.op 0 0 0))], [some ⟨1, [eG s], false, false, true⟩, some ⟨2, [eX ⟨n, names⟩], false, false, true⟩], []⟩) names.length [9, 7, 5, 4, 3] [0, 1] rfl
          ⟨_, 0, _, rfl, by omega, by omega, by rw [← hG]; simp, rfl⟩ ?_
        rintro mm σ ⟨q2, j, g2, rfl, hj, rfl, hg2, rfl⟩
        refine rn rfl ?_
        refine goal_guard rfl rfl rfl (fun h7 => ?_) (fun h7 => ?_) <;> (try simp only [gt_iff_lt, ge_iff_le, bne_iff_ne, ne_eq, bne_eq_false_iff_eq, beq_iff_eq, beq_eq_false_iff_ne, Bool.not_eq_true', Bool.not_eq_false', decide_eq_true_eq, decide_eq_false_iff_not, List.length_map] at h7)
        · refine rn rfl ?_
          refine goal_cond rfl (fun h8 => ?_) (fun h8 => ?_)
          · rw [h8] at hg2 ⊢
            obtain ⟨z, hz⟩ := at_some (xs := names) (i := j) (by omega)
            refine rn rfl ?_
            refine goal_draw' [0, 1] 13 rfl ?_
            refine drn [0, 1] (by kernel_rfl) (by kernel_rfl) rfl rfl ?_
            refine AH_guard (i := 2) rfl rfl rfl (fun h9 => ?_) (fun h9 => ?_) <;> (try simp only [gt_iff_lt, ge_iff_le, bne_iff_ne, ne_eq, bne_eq_false_iff_eq, beq_iff_eq, beq_eq_false_iff_ne, Bool.not_eq_true', Bool.not_eq_false', decide_eq_true_eq, decide_eq_false_iff_not, List.length_map] at h9)
            · refine drn [2, 3, 4, 5, 6, 7] (by kernel_rfl) (by kernel_rfl) rfl rfl ?_
              refine AH_did 8 rfl (by kernel_rfl) (by kernel_rfl) (by kernel_rfl) rfl rfl (dA_index (eS z) rfl rfl rfl rfl rfl rfl rfl (by omega) (by (try simp); omega) (map_at (by simpa using hz)) rfl) ?_
              refine drn [9] (by kernel_rfl) (by kernel_rfl) rfl rfl ?_
              refine AH_one (i := 10) (by kernel_rfl) (step_call [] rfl rfl rfl rfl rfl rfl (hAl z (List.mem_of_getElem? hz))) (by simp) ?_
              rintro σ2 ⟨r, o', ⟨rfl, rfl⟩, hσ⟩
              obtain rfl := Option.some.inj hσ
              clear hσ
              refine drn [11, 12] (by kernel_rfl) (by kernel_rfl) rfl rfl ?_
              refine AH_end (by kernel_rfl) ?_
              refine rn rfl ?_
              refine rn rfl ?_
              refine round_keep (names.length - (j + 1)) [9, 7, 5, 4, 3] [0, 1] (by omega) rfl ⟨_, j + 1, AllowsF s n z, wrap64 (by omega) (by omega), by omega, rfl, step2 j z hz hg2.symm, rfl⟩
            · exact absurd h9 (by simp)
          · refine rn rfl (round_ext ?_)
            refine rn rfl (fin_is [] rfl ⟨?_, rfl⟩)
            rw [last1 j (by rw [← hg2]; exact h8), h8]; rfl
        · refine rn rfl ?_
          refine round_ext ?_
          refine rn rfl (fin_is [] rfl ⟨?_, rfl⟩)
          rw [List.take_of_length_le (by omega)] at hg2
          rw [hg2, hbool, Bool.and_assoc]; simp
    · have hG : g = (g0 && M.all (fun m => decide (m ∈ names))) := by
        rw [List.take_of_length_le (by omega)] at hg; exact hg
      refine rn rfl ?_
      refine round_ext ?_
      refine rn rfl ?_
      refine goal_loop_keep (fun mm σ => ∃ (q : Int) (j : Nat) (g2 : Bool), q = j ∧ j ≤ names.length ∧ mm = names.length - j ∧ g2 = ((g0 && M.all (fun m => decide (m ∈ names))) && (names.take j).all (fun m => AllowsF s n m)) ∧
          σ = ⟨[(9, .one (.int .i64 q)), (7, .one (.bool g2)), (5, .one (.bool b)), (4, .one (.op 1 0 0)), (3, .one (.op 0 0 0))], [some ⟨1, [eG s], false, false, true⟩, some ⟨2, [eX ⟨n, names⟩], false, false, true⟩], []⟩) names.length [9, 7, 5, 4, 3] [0, 1] rfl
        ⟨_, 0, _, rfl, by omega, by omega, by rw [← hG]; simp, rfl⟩ ?_
      rintro mm σ ⟨q2, j, g2, rfl, hj, rfl, hg2, rfl⟩
      refine rn rfl ?_
      refine goal_guard rfl rfl rfl (fun h7 => ?_) (fun h7 => ?_) <;> (try simp only [gt_iff_lt, ge_iff_le, bne_iff_ne, ne_eq, bne_eq_false_iff_eq, beq_iff_eq, beq_eq_false_iff_ne, Bool.not_eq_true', Bool.not_eq_false', decide_eq_true_eq, decide_eq_false_iff_not, List.length_map] at h7)
      · refine rn rfl ?_
        refine goal_cond rfl (fun h8 => ?_) (fun h8 => ?_)
        · rw [h8] at hg2 ⊢
          obtain ⟨z, hz⟩ := at_some (xs := names) (i := j) (by omega)
          refine rn rfl ?_
          refine goal_draw' [0, 1] 13 rfl ?_
          refine drn [0, 1] (by kernel_rfl) (by kernel_rfl) rfl rfl ?_
          refine AH_guard (i := 2) rfl rfl rfl (fun h9 => ?_) (fun h9 => ?_) <;> (try simp only [gt_iff_lt, ge_iff_le, bne_iff_ne, ne_eq, bne_eq_false_iff_eq, beq_iff_eq, beq_eq_false_iff_ne, Bool.not_eq_true', Bool.not_eq_false', decide_eq_true_eq, decide_eq_false_iff_not, List.length_map] at h9)
          · refine drn [2, 3, 4, 5, 6, 7] (by kernel_rfl) (by kernel_rfl) rfl rfl ?_
            refine AH_did 8 rfl (by kernel_rfl) (by kernel_rfl) (by kernel_rfl) rfl rfl (dA_index (eS z) rfl rfl rfl rfl rfl rfl rfl (by omega) (by (try simp); omega) (map_at (by simpa using hz)) rfl) ?_
            refine drn [9] (by kernel_rfl) (by kernel_rfl) rfl rfl ?_
            refine AH_one (i := 10) (by kernel_rfl) (step_call [] rfl rfl rfl rfl rfl rfl (hAl z (List.mem_of_getElem? hz))) (by simp) ?_
            rintro σ2 ⟨r, o', ⟨rfl, rfl⟩, hσ⟩
            obtain rfl := Option.some.inj hσ
            clear hσ
            refine drn [11, 12] (by kernel_rfl) (by kernel_rfl) rfl rfl ?_
            refine AH_end (by kernel_rfl) ?_
            refine rn rfl ?_
            refine rn rfl ?_
            refine round_keep (names.length - (j + 1)) [9, 7, 5, 4, 3] [0, 1] (by omega) rfl ⟨_, j + 1, AllowsF s n z, wrap64 (by omega) (by omega), by omega, rfl, step2 j z hz hg2.symm, rfl⟩
          · exact absurd h9 (by simp)
        · refine rn rfl (round_ext ?_)
          refine rn rfl (fin_is [] rfl ⟨?_, rfl⟩)
          rw [last1 j (by rw [← hg2]; exact h8), h8]; rfl
      · refine rn rfl ?_
        refine round_ext ?_
        refine rn rfl (fin_is [] rfl ⟨?_, rfl⟩)
        rw [List.take_of_length_le (by omega)] at hg2
        rw [hg2, hbool, Bool.and_assoc]; simp

end Go.Proofs.YtalplgabhichfaaGreat
