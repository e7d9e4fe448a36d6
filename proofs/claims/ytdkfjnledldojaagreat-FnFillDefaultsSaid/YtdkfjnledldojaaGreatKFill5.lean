/- Part 5 of the proof: an abstract machine over the model; contracts of the functions that the law reaches. -/
import Derived.Test.YtdkfjnledldojaaGreatKFill4
set_option linter.unusedVariables false
set_option linter.unusedSimpArgs false
namespace Go.Proofs.YtdkfjnledldojaaGreat
open Go
set_option maxRecDepth 100000
set_option maxHeartbeats 1000000

theorem mid_at {α : Type} {A D : List α} {x : α} {i : Nat} (h : i = A.length) : (A ++ x :: D)[i]? = some x := by subst h; simp

theorem mid_set {α : Type} {A D : List α} {x y : α} {i : Nat} (h : i = A.length) : (A ++ x :: D).set i y = A ++ y :: D := by subst h; simp

theorem patch1 (x : Slot) : patch (eL x) (0 + 1) [C.fs (x.list.map eI)] = eL x := rfl

theorem patch2 (x : Slot) : patch (eL x) (0 + 2) [C.fs (x.pairs.map eP)] = eL x := rfl

theorem sfill_ct (s : Sig) (b : Bnds) (hlen : b.length = s.length) (few : s.length ≤ 8) (hsz : ∀ x ∈ b, x.list.length ≤ 1048576 ∧ x.pairs.length ≤ 1048576) :
    ACalls pk 48 [.agg (eG s), .agg (eBi b)] [] (fun r o => r = .agg (eBi (fillQ s b)) ∧ o = []) := by
  have hfl := fillQ_len hlen
  refine acalls_of_body Tryz.func48 rfl (by kernel_rfl) rfl ?_
  refine rn rfl ?_
  refine goal_did rfl rfl (dA_append (old := []) (rows := (b : List Slot).map eL) ((b : List Slot).map eL) (b.length) true (Dst.own rfl rfl rfl rfl rfl (Nat.le_refl 0) rfl) (Src.fs rfl) rfl rfl rfl rfl rfl rfl rfl rfl (by simp) (rows_len eL_len _) (by (try simp only [List.length_map, List.length_append, List.length_cons, List.length_nil, List.length_take, List.length_drop]); show _ * 56 ≤ _; omega) (by first | (simp; done) | (simp; omega)) (by simp) (by first | (simp; done) | (simp; omega)) (fun _ => noOwnR_map _ eL_noOwn _)) ?_
  refine rn rfl ?_
  refine rn rfl ?_
  refine goal_loop_keep (fun m σ => ∃ (q : Int) (i : Nat) (R : Bnds), q = i ∧ i ≤ b.length ∧ m = b.length - i ∧ R = (fillQ s b).take i ++ b.drop i ∧
      σ = ⟨[(6, .one (.int .i64 q)), (5, .one (.op 4 0 0)), (4, .one (.op 2 0 0)), (3, .one (.op 1 0 0)), (2, .one (.op 0 0 0))],
        [some ⟨1, [eG s], false, false, true⟩, some ⟨1, [eBi b], false, false, true⟩, some ⟨1, [[.fs []]], false, false, true⟩, ownL R, some ⟨1, [[.os 3 0 b.length b.length]], false, false, true⟩], []⟩) b.length [6, 5, 4, 3, 2] [0, 1, 2, 4, 5] rfl
    ⟨_, 0, b, rfl, by omega, by omega, by simp, rfl⟩ ?_
  rintro m σ ⟨q, i, R, rfl, hi, rfl, hR, rfl⟩
  have hRl : R.length = b.length := by rw [hR]; simp [hfl]; omega
  refine rn rfl ?_
  refine goal_cond rfl (fun h => ?_) (fun h => ?_) <;> (try simp only [gt_iff_lt, ge_iff_le, bne_iff_ne, ne_eq, bne_eq_false_iff_eq, beq_iff_eq, beq_eq_false_iff_ne, Bool.not_eq_true', Bool.not_eq_false', decide_eq_true_eq, decide_eq_false_iff_not, List.length_map] at h)
  · obtain ⟨x, hx⟩ := at_some (xs := b) (i := i) (by omega)
    obtain ⟨p, hp⟩ := at_some (xs := s) (i := i) (by omega)
    obtain ⟨l1, l2⟩ := hsz x (List.mem_of_getElem? hx)
    have hfa := fillQ_at hp hx
    have hA : i = ((fillQ s b).take i).length := by rw [List.length_take, hfl]; omega
    have hnx := take_snoc hfa
    have hRe : R = (fillQ s b).take i ++ x :: b.drop (i + 1) := by rw [hR, drop_at hx]
    have hRx : R[i]? = some x := by rw [hRe]; exact mid_at hA
    have hrow : (R.map eL)[i]? = some (eL x) := by rw [List.getElem?_map, hRx]; rfl
    have hnext : ∀ y, fill1 p x = y → R.set i y = (fillQ s b).take (i + 1) ++ b.drop (i + 1) := fun y hy => by
      rw [hRe, mid_set hA, ← hnx, hy]; simp
    refine rn rfl ?_
    refine goal_draw' [1, 4] 14 rfl ?_
    refine drn [0, 1, 2, 4, 5, 6] (by kernel_rfl) (by kernel_rfl) rfl rfl ?_
    refine AH_did 7 rfl (by kernel_rfl) (by kernel_rfl) (by kernel_rfl) rfl rfl (dA_index (eL x) rfl rfl rfl rfl rfl rfl rfl (by omega) (by (try simp); omega) (map_at (by simpa using hx)) rfl) ?_
    refine drn [8, 9] (by kernel_rfl) (by kernel_rfl) rfl rfl ?_
    refine AH_oneDid 3 rfl (by kernel_rfl) rfl (dA_step rfl) (mdOk rfl) ?_
    refine AH_oneDid 10 rfl (by kernel_rfl) rfl (dA_append (old := []) (rows := (x.list : List Int).map eI) ((x.list : List Int).map eI) (x.list.length) true (Dst.own rfl rfl rfl rfl rfl (Nat.le_refl 0) rfl) (Src.fs rfl) rfl rfl rfl rfl rfl rfl rfl rfl (by simp) (rows_len eI_len _) (by (try simp only [List.length_map, List.length_append, List.length_cons, List.length_nil, List.length_take, List.length_drop]); show _ * 8 ≤ _; omega) (by first | (simp; done) | (simp; omega)) (by simp) (by first | (simp; done) | (simp; omega)) (fun _ => noOwnR_map _ eI_noOwn _)) (mdOk rfl) ?_
    refine AH_data 29 [6] (y := .one (.fs (x.list.map eI))) rfl rfl (congrArg (fun x => T.one (C.fs x)) (takeAll eI _ _ rfl)) ?_
    refine AH_did 11 rfl (by kernel_rfl) (by kernel_rfl) (by kernel_rfl) rfl rfl (dA_indexOwn rfl rfl rfl rfl rfl rfl rfl rfl rfl (by omega) (by (try simp); omega)) ?_
    refine drn [12] (by kernel_rfl) (by kernel_rfl) rfl rfl ?_
    refine AH_oneDid 13 rfl (by kernel_rfl) rfl (dA_storeEl (eL x) (R.map eL) true rfl rfl rfl rfl rfl (by simpa using hrow) rfl rfl (by simp [eL]) (by rw [show 0 + (i : Int).toNat = i by simp, patch1, set_same hrow]) (fun _ => noOwnR_map _ eL_noOwn _)) (mdOk rfl) ?_
    refine AH_end (by kernel_rfl) ?_
    refine rn rfl ?_
    refine rn rfl ?_
    refine goal_draw' [1, 4] 14 rfl ?_
    refine drn [0, 1, 2, 4, 5, 6] (by kernel_rfl) (by kernel_rfl) rfl rfl ?_
    refine AH_did 7 rfl (by kernel_rfl) (by kernel_rfl) (by kernel_rfl) rfl rfl (dA_index (eL x) rfl rfl rfl rfl rfl rfl rfl (by omega) (by (try simp); omega) (map_at (by simpa using hx)) rfl) ?_
    refine drn [8, 9] (by kernel_rfl) (by kernel_rfl) rfl rfl ?_
    refine AH_oneDid 3 rfl (by kernel_rfl) rfl (dA_step rfl) (mdOk rfl) ?_
    refine AH_oneDid 10 rfl (by kernel_rfl) rfl (dA_append (old := []) (rows := (x.pairs : List Pair).map eP) ((x.pairs : List Pair).map eP) (x.pairs.length) true (Dst.own rfl rfl rfl rfl rfl (Nat.le_refl 0) rfl) (Src.fs rfl) rfl rfl rfl rfl rfl rfl rfl rfl (by simp) (rows_len eP_len _) (by (try simp only [List.length_map, List.length_append, List.length_cons, List.length_nil, List.length_take, List.length_drop]); show _ * 24 ≤ _; omega) (by first | (simp; done) | (simp; omega)) (by simp) (by first | (simp; done) | (simp; omega)) (fun _ => noOwnR_map _ eP_noOwn _)) (mdOk rfl) ?_
    refine AH_data 42 [8] (y := .one (.fs (x.pairs.map eP))) rfl rfl (congrArg (fun x => T.one (C.fs x)) (takeAll eP _ _ rfl)) ?_
    refine AH_did 11 rfl (by kernel_rfl) (by kernel_rfl) (by kernel_rfl) rfl rfl (dA_indexOwn rfl rfl rfl rfl rfl rfl rfl rfl rfl (by omega) (by (try simp); omega)) ?_
    refine drn [12] (by kernel_rfl) (by kernel_rfl) rfl rfl ?_
    refine AH_oneDid 13 rfl (by kernel_rfl) rfl (dA_storeEl (eL x) (R.map eL) true rfl rfl rfl rfl rfl (by simpa using hrow) rfl rfl (by simp [eL]) (by rw [show 0 + (i : Int).toNat = i by simp, patch2, set_same hrow]) (fun _ => noOwnR_map _ eL_noOwn _)) (mdOk rfl) ?_
    refine AH_end (by kernel_rfl) ?_
    refine rn rfl ?_
    refine rn rfl ?_
    refine goal_did rfl rfl (dA_index (eQ p) rfl rfl rfl rfl rfl rfl rfl (by omega) (by (try simp); omega) (map_at (by simpa using hp)) rfl) ?_
    refine rn rfl ?_
    refine goal_step (step_call [] rfl rfl rfl rfl rfl rfl (ssingle_ct p)) ?_
    rintro σ2 ⟨r, o', ⟨rfl, rfl⟩, hσ⟩
    obtain rfl := Option.some.inj hσ
    clear hσ
    refine rn rfl ?_
    refine goal_guard rfl rfl rfl (fun h1 => ?_) (fun h1 => ?_) <;> (try simp only [gt_iff_lt, ge_iff_le, bne_iff_ne, ne_eq, bne_eq_false_iff_eq, beq_iff_eq, beq_eq_false_iff_ne, Bool.not_eq_true', Bool.not_eq_false', decide_eq_true_eq, decide_eq_false_iff_not, List.length_map] at h1)
    · refine rn rfl ?_
      refine goal_did rfl rfl (dA_indexOwn rfl rfl rfl rfl rfl rfl rfl rfl rfl (by omega) (by (try simp); omega)) ?_
      refine goal_did rfl rfl (dA_step rfl) ?_
      refine goal_did rfl rfl (dA_loadEl (eL x) rfl rfl rfl rfl (map_at (by simpa using hRx)) rfl rfl rfl) ?_
      refine rn rfl ?_
      refine goal_cond rfl (fun h2 => ?_) (fun h2 => ?_) <;> (try simp only [gt_iff_lt, ge_iff_le, bne_iff_ne, ne_eq, bne_eq_false_iff_eq, beq_iff_eq, beq_eq_false_iff_ne, Bool.not_eq_true', Bool.not_eq_false', decide_eq_true_eq, decide_eq_false_iff_not, List.length_map] at h2)
      · have hf1 : fill1 p x = ⟨true, [p.dflt], []⟩ := by simp [fill1, h1, h2]
        have hn := hnext _ hf1
        refine rn rfl ?_
        refine goal_draw' [0, 4] 13 rfl ?_
        refine drn [0, 1, 2, 3, 4, 5] (by kernel_rfl) (by kernel_rfl) rfl rfl ?_
        refine AH_did 6 rfl (by kernel_rfl) (by kernel_rfl) (by kernel_rfl) rfl rfl (dA_index (eQ p) rfl rfl rfl rfl rfl rfl rfl (by omega) (by (try simp); omega) (map_at (by simpa using hp)) rfl) ?_
        refine drn [7, 8] (by kernel_rfl) (by kernel_rfl) rfl rfl ?_
        refine AH_oneDid 9 rfl (by kernel_rfl) rfl (dA_step rfl) (mdOk rfl) ?_
        refine drn [10] (by kernel_rfl) (by kernel_rfl) rfl rfl ?_
        refine AH_data 70 [9] (y := .agg (eL ⟨true, [p.dflt], []⟩)) rfl rfl rfl ?_
        refine AH_did 11 rfl (by kernel_rfl) (by kernel_rfl) (by kernel_rfl) rfl rfl (dA_indexOwn rfl rfl rfl rfl rfl rfl rfl rfl rfl (by omega) (by (try simp); omega)) ?_
        refine AH_oneDid 12 rfl (by kernel_rfl) rfl (dA_storeEl (eL x) ((R.set i ⟨true, [p.dflt], []⟩).map eL) true rfl rfl rfl rfl rfl (by simpa using hrow) rfl rfl (by simp [eL]) (by rw [show 0 + (i : Int).toNat = i by simp, map_set]; rfl) (fun _ => noOwnR_map _ eL_noOwn _)) (mdOk rfl) ?_
        refine AH_end (by kernel_rfl) ?_
        refine rn rfl ?_
        refine rn rfl ?_
        rw [hn]
        refine round_keep (b.length - (i + 1)) [6, 5, 4, 3, 2] [0, 1, 2, 3, 4] (by omega) rfl ⟨_, i + 1, _, wrap64 (by omega) (by omega), by omega, rfl, rfl, rfl⟩
      · have hf1 : fill1 p x = x := by simp [fill1, h2]
        have hn := hnext _ hf1
        rw [set_same hRx] at hn
        refine rn rfl ?_
        refine round_keep (b.length - (i + 1)) [6, 5, 4, 3, 2] [0, 1, 2, 3, 4] (by omega) rfl ⟨_, i + 1, R, wrap64 (by omega) (by omega), by omega, rfl, hn, rfl⟩
    · have hf1 : fill1 p x = x := by simp [fill1, h1]
      have hn := hnext _ hf1
      rw [set_same hRx] at hn
      refine rn rfl ?_
      refine round_keep (b.length - (i + 1)) [6, 5, 4, 3, 2] [0, 1, 2, 3, 4] (by omega) rfl ⟨_, i + 1, R, wrap64 (by omega) (by omega), by omega, rfl, hn, rfl⟩
  · refine rn rfl (round_ext ?_)
    have hfin : R = fillQ s b := by
      rw [hR, List.take_of_length_le (by omega), List.drop_eq_nil_of_le (by omega), List.append_nil]
    refine rn rfl (fin_is [] rfl ⟨?_, rfl⟩)
    rw [hfin, takeAll eL _ _ (by rw [hfl, hlen])]; rfl

theorem bound_names {s : Sig} {f : Flat} (hs : OkS s) (hf : OkF f) : ∀ z ∈ s.zip (boundQ s f).1, z.1.name.length ≤ 6 ∧ ∀ q ∈ z.2.pairs, q.name.length ≤ 6 := by
  intro z hz
  obtain ⟨i, hi⟩ := List.getElem?_of_mem hz
  rw [List.getElem?_zip_eq_some] at hi
  refine ⟨(hs.nameLen (List.mem_of_getElem? hi.1)).1, fun q hq => ?_⟩
  rw [bound_at hs hf hi.1 hi.2] at hq
  have hqn : q ∈ f.named := by
    unfold giveQ at hq
    split at hq
    · exact (List.mem_filter.1 hq).1
    · split at hq
      · split at hq
        · simp at hq
        · simp [zL] at hq
      · unfold place1 at hq
        split at hq
        · simp at hq
        · split at hq
          · simp at hq
          · simp [zL] at hq
  have := hf.pairs q hqn
  simp only [okPair, okName, inR, Bool.and_eq_true, decide_eq_true_eq] at this
  omega

theorem AHL_data {X : Pk} {N np : Nat} {K : KP} {σ : State} {ops : Array Oper} {prot ds : List Nat} {fuel : Nat} {listed : Array Bool} (t : Nat) (ids : List Nat) {x : T} {o2 : List (Option AObj)} (hge : allGe np ids = true) (he : dataS t ids σ = ⟨(t, x) :: σ.ρ, o2, σ.k⟩) {y : T} (hxy : x = y)
    (h : AHL X N np ops K prot ds fuel listed ⟨(t, y) :: σ.ρ, o2, σ.k⟩) : AHL X N np ops K prot ds fuel listed σ := by
  subst hxy; rw [← he] at h
  intro G D e a w H
  obtain ⟨D1, H1, hD⟩ := Rel.frz' ids hge H
  have H2 : Rel N np G D1 e (dataS t ids σ) a w := Rel.retmp H1 (t := t) (reT_spec H1.sr (by
    intro id j l hm he
    split at hm
    · cases hm
    · simp only [Option.some.injEq] at hm; subst hm; exact he) 4 _ _ (H1.tmps t))
  exact wpAnyL_mono (fun w'' hw'' => ⟨fun b hb => hw''.1 b (hD b hb), hw''.2⟩) _ _ _ _ (h G D1 e a w H2)

theorem sboundO_ct (s : Sig) (f : Flat) (hs : OkS s) (h1 : f.places.length ≤ 1048576) (h2 : f.named.length ≤ 1048576) :
    ACalls pk 69 [.agg (eG s), .agg (eF f)] [] (fun r o => r = .tup [.agg [.os 0 0 s.length s.length], .one (.os 1 0 (boundQ s f).2.length (boundQ s f).2.length)] ∧ o = [ownL (boundQ s f).1, ownB (boundQ s f).2]) := by
  have hsl := hs.len
  refine acalls_of_body Tryz.func69 rfl (by kernel_rfl) rfl ?_
  refine rn rfl ?_
  refine goal_step (step_call [] rfl rfl rfl rfl rfl rfl (emptyBinding_ct s (by omega))) ?_
  rintro σ2 ⟨r, o', ⟨rfl, rfl⟩, hσ⟩
  obtain rfl := Option.some.inj hσ
  clear hσ
  refine rn rfl ?_
  refine goal_step (step_call [] rfl rfl rfl rfl rfl rfl (splaces_ct s (by omega))) ?_
  rintro σ2 ⟨r, o', ⟨rfl, rfl⟩, hσ⟩
  obtain rfl := Option.some.inj hσ
  clear hσ
  refine rn rfl ?_
  refine goal_step (step_call [] rfl rfl rfl rfl rfl rfl (kindAt_ct s 2 (by omega))) ?_
  rintro σ2 ⟨r, o', ⟨rfl, rfl⟩, hσ⟩
  obtain rfl := Option.some.inj hσ
  clear hσ
  refine rn rfl ?_
  have hnil : nilRows s.length = rowsN none none s := (rowsN_none s).symm
  rw [hnil]
  refine goal_weakCod (adoptR hs (id := 3) 6 rfl rfl rfl) ?_
  refine goal_weakCod (adoptM hs (id := 3) 7 rfl rfl rfl) ?_
  refine goal_weakCod (Weak.retell (id := 3) (cl' := false) rfl rfl (rowsN_re rfl rfl _ _ _) (by simp)) ?_
  refine goal_loop_keep (fun m σ => ∃ (n : Int) (i l : Nat) (ns : List Int), n = i ∧ i ≤ f.places.length ∧ m = f.places.length - i ∧ ns = restQ s f.places i ∧ l = ns.length ∧
      σ = ⟨[(10, .one (.int .i64 n)), (9, .one (.int .i64 (idxI (kIs 2) s 0))), (8, .one (.int .i64 (placesQ s))), (7, .one (.os 5 0 0 0)), (6, .one (.op 4 0 0)), (4, .one (.op 2 0 0)), (3, .one (.op 1 0 0)), (2, .one (.op 0 0 0))],
        [oV (.fs (s.map eQ)), some ⟨2, [eF f], false, false, true⟩, oV (.fs []), oRows (rowsM (some (.os 6 0 l l)) (some (.os 7 0 0 0)) s (phase1 s (f.places.take i))), oV (.os 3 0 s.length s.length), ownB [], ownI ns, ownP []], []⟩) f.places.length
    [10, 9, 8, 7, 6, 4, 3, 2] [0, 1, 2, 3, 4, 5, 6, 7] rfl ⟨_, 0, 0, [], rfl, by omega, by omega, by simp [restQ], rfl, ?_⟩ ?_
  · rw [show f.places.take 0 = [] by simp, ← part1_full, show part1 s [] s.length = List.replicate s.length zL from ?_]
    · exact keepS_eq rfl (cons_eq rfl (cons_eq rfl (cons_eq rfl (cons_eq (reO_rows (rowsM_re (fun _ => rfl) (fun _ => rfl) _ _ _ _)) (cons_eq rfl (cons_eq rfl (cons_eq rfl (cons_eq rfl rfl))))))))
    · apply List.ext_getElem?
      intro j
      simp only [part1, List.getElem?_mapIdx, List.getElem?_replicate]
      cases hq : s[j]? with
      | none =>
        have : s.length ≤ j := by simpa using hq
        rw [if_neg (by omega)]; rfl
      | some q => rw [if_pos (lt_of_some hq)]; simp [place1, zL]
  rintro m σ ⟨n, i, l, ns, rfl, hi, rfl, rfl, rfl, rfl⟩
  refine rn rfl ?_
  refine goal_cond rfl (fun h => ?_) (fun h => ?_) <;> (try simp only [gt_iff_lt, ge_iff_le, bne_iff_ne, ne_eq, bne_eq_false_iff_eq, beq_iff_eq, beq_eq_false_iff_ne, Bool.not_eq_true', Bool.not_eq_false', decide_eq_true_eq, decide_eq_false_iff_not, List.length_map] at h)
  · obtain ⟨v, hv⟩ := at_some (xs := f.places) (i := i) (by omega)
    have hnsl : (restQ s f.places i).length ≤ f.places.length := by
      unfold restQ; split
      · simp; omega
      · simp
    refine rn rfl ?_
    refine goal_cond rfl (fun hlt => ?_) (fun hlt => ?_) <;> (try simp only [gt_iff_lt, ge_iff_le, bne_iff_ne, ne_eq, bne_eq_false_iff_eq, beq_iff_eq, beq_eq_false_iff_ne, Bool.not_eq_true', Bool.not_eq_false', decide_eq_true_eq, decide_eq_false_iff_not, List.length_map] at hlt)
    · have hlt' : i < placesQ s := by omega
      have his : i < s.length := by have := placesQ_le s; omega
      obtain ⟨p, hp⟩ := at_some his
      obtain ⟨x, hx⟩ := at_some (xs := phase1 s (f.places.take i)) (i := i) (by rw [phase1_len]; exact his)
      have hpk := placed_kind.1 ((hs.placed_iff hp).2 hlt')
      have hrow := rowsM_at (cr := some (.os 6 0 (restQ s f.places i).length (restQ s f.places i).length)) (cm := some (.os 7 0 0 0)) hp hx
      have hstep := phase1_placed hs hp hlt' hv
      have hrest : restQ s f.places (i + 1) = restQ s f.places i := by
        unfold restQ; split
        · rw [List.drop_eq_nil_of_le (by simp; omega), List.drop_eq_nil_of_le (by simp; omega)]
        · rfl
      refine rn rfl ?_
      refine goal_draw' [1, 4] 12 rfl ?_
      refine drn [0, 1, 2, 3, 4, 5] (by kernel_rfl) (by kernel_rfl) rfl rfl ?_
      refine AH_did 6 rfl (by kernel_rfl) (by kernel_rfl) (by kernel_rfl) rfl rfl (dA_index (eI v) rfl rfl rfl rfl rfl rfl rfl (by omega) (by (try simp); omega) (map_at (by simpa using hv)) rfl) ?_
      refine drn [7] (by kernel_rfl) (by kernel_rfl) rfl rfl ?_
      refine AH_oneDid 8 rfl (by kernel_rfl) rfl (dA_step rfl) (mdOk rfl) ?_
      refine drn [9] (by kernel_rfl) (by kernel_rfl) rfl rfl ?_
      refine AH_data 42 [8] (y := .agg (eL ⟨true, [v], []⟩)) rfl rfl rfl ?_
      refine AH_did 10 rfl (by kernel_rfl) (by kernel_rfl) (by kernel_rfl) rfl rfl (dA_indexOwn rfl rfl rfl rfl rfl rfl rfl rfl rfl (by omega) (by (try simp); omega)) ?_
      refine AH_oneDid 11 rfl (by kernel_rfl) rfl (dA_storeEl (rowM (some (.os 6 0 (restQ s f.places i).length (restQ s f.places i).length)) (some (.os 7 0 0 0)) p x) (rowsM (some (.os 6 0 (restQ s f.places i).length (restQ s f.places i).length)) (some (.os 7 0 0 0)) s (phase1 s (f.places.take (i + 1)))) false rfl rfl rfl rfl rfl (by simpa using hrow) rfl rfl (by simp [eL, rowM]) (by rw [hstep]; refine storeRow hp (fun h0 => by omega) (fun h0 => by omega) ?_; simp) (fun h0 => by cases h0)) (mdOk rfl) ?_
      refine AH_end (by kernel_rfl) ?_
      refine rn rfl ?_
      refine round_keep (f.places.length - (i + 1)) [10, 9, 8, 7, 6, 4, 3, 2] [0, 1, 2, 3, 4, 5, 6, 7] (by omega) rfl ⟨_, i + 1, _, _, wrap64 (by omega) (by omega), by omega, rfl, hrest.symm, rfl, ?_⟩
      exact keepS_eq rfl (cons_eq rfl (cons_eq rfl (cons_eq rfl (cons_eq (reO_rows (rowsM_re (fun _ => rfl) (fun _ => rfl) _ _ _ _)) (cons_eq rfl (cons_eq rfl (cons_eq rfl (cons_eq rfl rfl))))))))
    · have hlt' : ¬ i < placesQ s := by omega
      refine rn rfl ?_
      refine goal_cond rfl (fun hge => ?_) (fun hge => ?_) <;> (try simp only [gt_iff_lt, ge_iff_le, bne_iff_ne, ne_eq, bne_eq_false_iff_eq, beq_iff_eq, beq_eq_false_iff_ne, Bool.not_eq_true', Bool.not_eq_false', decide_eq_true_eq, decide_eq_false_iff_not, List.length_map] at hge)
      · obtain ⟨p, hf, hp, hq, hlt2⟩ := idxI_find hge
        have hpk : p.kind = 2 := by simpa [kIs] using hq
        have hat : idxI (kIs 2) s 0 = ((idxI (kIs 2) s 0).toNat : Nat) := by omega
        generalize (idxI (kIs 2) s 0).toNat = j at hp hat
        rw [hat] at hlt2 ⊢
        have hjs : j < s.length := by omega
        obtain ⟨x, hx⟩ := at_some (xs := phase1 s (f.places.take i)) (i := j) (by rw [phase1_len]; exact hjs)
        have hrow := rowsM_at (cr := some (.os 6 0 (restQ s f.places i).length (restQ s f.places i).length)) (cm := some (.os 7 0 0 0)) hp hx
        rw [rowM_two hpk] at hrow
        obtain ⟨hstep, hrest⟩ := phase1_more hs hlt' hp hpk hx hv
        refine rn rfl ?_
        refine goal_drawL [1, 3, 4] [18] 19 rfl ?_
        refine drnL [0, 1, 2, 3, 4, 5, 9, 10, 11] (by kernel_rfl) (by kernel_rfl) rfl rfl ?_
        refine AHL_did 6 rfl (by kernel_rfl) (by kernel_rfl) (by kernel_rfl) (by kernel_rfl) rfl rfl (dA_indexOwn rfl rfl rfl rfl rfl rfl rfl rfl rfl (by omega) (by (try simp); omega)) ?_
        refine drnL [7] (by kernel_rfl) (by kernel_rfl) rfl rfl ?_
        refine AHL_did 8 rfl (by kernel_rfl) (by kernel_rfl) (by kernel_rfl) (by kernel_rfl) rfl rfl (dA_loadEl [.bool x.given, .os 6 0 (restQ s f.places i).length (restQ s f.places i).length, .fs (x.pairs.map eP)] rfl rfl rfl rfl (by simpa using hrow) rfl rfl rfl) ?_
        refine AHL_did 12 rfl (by kernel_rfl) (by kernel_rfl) (by kernel_rfl) (by kernel_rfl) rfl rfl (dA_index (eI v) rfl rfl rfl rfl rfl rfl rfl (by omega) (by (try simp); omega) (map_at (by simpa using hv)) rfl) ?_
        refine drnL [13] (by kernel_rfl) (by kernel_rfl) rfl rfl ?_
        refine AHL_oneDid 14 rfl (by kernel_rfl) rfl rfl (dA_step rfl) (mdOk rfl) ?_
        refine AHL_oneDid 15 rfl (by kernel_rfl) rfl rfl (dA_append (old := (restQ s f.places i).map eI) (rows := ([v] : List Int).map eI) (((restQ s f.places i) ++ ([v] : List Int)).map eI) ((restQ s f.places i).length + 1) true (Dst.own rfl rfl rfl rfl rfl (by first | (simp; done) | (simp; omega)) (whole (by first | (simp; done) | (simp; omega)))) (Src.os rfl rfl (Nat.le_refl 1) rfl) rfl rfl rfl rfl rfl rfl rfl rfl (rows_len eI_len _) (rows_len eI_len _) (by (try simp only [List.length_map, List.length_append, List.length_cons, List.length_nil, List.length_take, List.length_drop]); show _ * 8 ≤ _; omega) (by first | (simp; done) | (simp; omega)) (by simp) (by first | (simp; done) | (simp; omega)) (fun _ => noOwnR_map _ eI_noOwn _)) (mdOk rfl) ?_
        refine AHL_did 16 rfl (by kernel_rfl) (by kernel_rfl) (by kernel_rfl) (by kernel_rfl) rfl rfl (dA_indexOwn rfl rfl rfl rfl rfl rfl rfl rfl rfl (by omega) (by (try simp); omega)) ?_
        refine drnL [17] (by kernel_rfl) (by kernel_rfl) rfl rfl ?_
        refine AHL_lateDid 18 rfl (by kernel_rfl) rfl rfl (dA_storeEl [.bool x.given, .os 6 0 (restQ s f.places i).length (restQ s f.places i).length, .fs (x.pairs.map eP)] (rowsM (some (.os 9 0 ((restQ s f.places i).length + 1) ((restQ s f.places i).length + 1))) (some (.os 7 0 0 0)) s (phase1 s (f.places.take (i + 1)))) false rfl rfl rfl rfl rfl (by simpa using hrow) rfl rfl (by simp) (by rw [hstep]; refine storeRest hs hp hx hpk ?_; simp) (fun h0 => by cases h0)) ?_
        refine AH_end (by kernel_rfl) ?_
        refine rn rfl ?_
        refine round_keep (f.places.length - (i + 1)) [10, 9, 8, 7, 6, 4, 3, 2] [0, 1, 2, 3, 4, 5, 9, 7] (by omega) rfl ⟨_, i + 1, (restQ s f.places i).length + 1, restQ s f.places i ++ [v], wrap64 (by omega) (by omega), by omega, rfl, hrest.symm, by simp, ?_⟩
        exact keepS_eq rfl (cons_eq rfl (cons_eq rfl (cons_eq rfl (cons_eq (reO_rows (rowsM_re (fun _ => rfl) (fun _ => rfl) _ _ _ _)) (cons_eq rfl (cons_eq rfl (cons_eq rfl (cons_eq rfl rfl))))))))
      · have hno : s.any (kIs 2) = false := by
          cases hb : s.any (kIs 2) with
          | false => rfl
          | true => exact absurd (idxI_ge.2 hb) hge
        obtain ⟨hstep, hrest⟩ := phase1_none hs hlt' (pl := f.places) hno
        refine rn rfl ?_
        refine round_keep (f.places.length - (i + 1)) [10, 9, 8, 7, 6, 4, 3, 2] [0, 1, 2, 3, 4, 5, 6, 7] (by omega) rfl ⟨_, i + 1, _, _, wrap64 (by omega) (by omega), by omega, rfl, hrest.symm, rfl, ?_⟩
        rw [hstep]
        exact keepS_eq rfl (cons_eq rfl (cons_eq rfl (cons_eq rfl (cons_eq (reO_rows (rowsM_re (fun _ => rfl) (fun _ => rfl) _ _ _ _)) (cons_eq rfl (cons_eq rfl (cons_eq rfl (cons_eq rfl rfl))))))))
  · rw [show i = f.places.length by omega, List.take_length]
    have hfree : RestHas s (phase1 s f.places) (restQ s f.places f.places.length) := by
      have := phase1_rest hs f.places f.places.length
      rwa [List.take_length] at this
    have hnsl : (restQ s f.places f.places.length).length ≤ f.places.length := by
      unfold restQ; split
      · simp
      · simp
    refine rn rfl ?_
    refine round_ext ?_
    refine rt 12 rfl ?_
    refine goal_cutR (fun σ => σ = ⟨[(7, .one (.os 5 0 (manyQ s f.places).length (manyQ s f.places).length)), (6, .one (.op 4 0 0)), (4, .one (.op 2 0 0)), (3, .one (.op 1 0 0)), (2, .one (.op 0 0 0))],
        [oV (.fs (s.map eQ)), some ⟨2, [eF f], false, false, true⟩, oV (.fs []), oRows (rowsM none (some (.os 6 0 0 0)) s (phase1 s f.places)), oV (.os 3 0 s.length s.length), ownB (manyQ s f.places), ownP []], []⟩) ?_ ?_
    · have free : ∀ g : C → C, (∀ b, g (.bool b) = .bool b) → (∀ xs, g (.fs xs) = .fs xs) → g (.os 6 0 (restQ s f.places f.places.length).length (restQ s f.places f.places.length).length) = .fs ((restQ s f.places f.places.length).map eI) → g (.os 7 0 0 0) = .os 6 0 0 0 →
          mapR g (rowsM (some (.os 6 0 (restQ s f.places f.places.length).length (restQ s f.places f.places.length).length)) (some (.os 7 0 0 0)) s (phase1 s f.places)) = rowsM none (some (.os 6 0 0 0)) s (phase1 s f.places) := fun g g1 g2 g3 g4 => by
        rw [rowsM_re g1 g2, Option.map_some, Option.map_some, g3, g4, rowsM_freeR hfree]
      refine rn rfl ?_
      refine goal_guard rfl rfl rfl (fun h3 => ?_) (fun h3 => ?_) <;> (try simp only [gt_iff_lt, ge_iff_le, bne_iff_ne, ne_eq, bne_eq_false_iff_eq, beq_iff_eq, beq_eq_false_iff_ne, Bool.not_eq_true', Bool.not_eq_false', decide_eq_true_eq, decide_eq_false_iff_not, List.length_map] at h3)
      · refine rn rfl ?_
        refine goal_cond rfl (fun h4 => ?_) (fun h4 => ?_) <;> (try simp only [gt_iff_lt, ge_iff_le, bne_iff_ne, ne_eq, bne_eq_false_iff_eq, beq_iff_eq, beq_eq_false_iff_ne, Bool.not_eq_true', Bool.not_eq_false', decide_eq_true_eq, decide_eq_false_iff_not, List.length_map] at h4)
        · have hm : manyQ s f.places = [⟨0, []⟩] := by
            unfold manyQ
            have : s.any (kIs 2) = false := by
              cases hb : s.any (kIs 2) with
              | false => rfl
              | true => have := idxI_ge (i := 0).2 hb; omega
            rw [if_pos (by simp [this]; omega)]
          rw [hm]
          refine rn rfl ?_
          refine goal_did rfl rfl (dA_append (old := []) (rows := ([(⟨0, []⟩ : Problem)] : List Problem).map eB) (([(⟨0, []⟩ : Problem)] : List Problem).map eB) (1) true (Dst.own rfl rfl rfl rfl rfl (Nat.le_refl 0) rfl) (Src.os rfl rfl (Nat.le_refl 1) rfl) rfl rfl rfl rfl rfl rfl rfl rfl (by simp) (rows_len eB_len _) (by (try simp only [List.length_map, List.length_append, List.length_cons, List.length_nil, List.length_take, List.length_drop]); show _ * 24 ≤ _; omega) (by first | (simp; done) | (simp; omega)) (by simp) (by first | (simp; done) | (simp; omega)) (fun _ => noOwnR_map _ eB_noOwn _)) ?_
          refine rn rfl ?_
          exact cut_nrmF [7, 6, 4, 3, 2] [0, 1, 2, 3, 4, 9, 7] [6] rfl rfl (keepS_eq rfl (cons_eq rfl (cons_eq rfl (cons_eq rfl (cons_eq (reO_rows (free _ (fun _ => rfl) (fun _ => rfl) (congrArg C.fs (takeAll eI _ _ rfl)) rfl)) (cons_eq rfl (cons_eq rfl (cons_eq rfl rfl))))))))
        · have hm : manyQ s f.places = [] := by
            unfold manyQ
            have : s.any (kIs 2) = true := by
              refine idxI_ge (i := 0).1 (by omega)
            rw [if_neg (by simp [this])]
          rw [hm]
          refine rn rfl ?_
          exact cut_nrmF [7, 6, 4, 3, 2] [0, 1, 2, 3, 4, 5, 7] [6] rfl rfl (keepS_eq rfl (cons_eq rfl (cons_eq rfl (cons_eq rfl (cons_eq (reO_rows (free _ (fun _ => rfl) (fun _ => rfl) (congrArg C.fs (takeAll eI _ _ rfl)) rfl)) (cons_eq rfl (cons_eq rfl (cons_eq rfl rfl))))))))
      · have hm : manyQ s f.places = [] := by
          unfold manyQ
          rw [if_neg (by simp; omega)]
        rw [hm]
        refine rn rfl ?_
        exact cut_nrmF [7, 6, 4, 3, 2] [0, 1, 2, 3, 4, 5, 7] [6] rfl rfl (keepS_eq rfl (cons_eq rfl (cons_eq rfl (cons_eq rfl (cons_eq (reO_rows (free _ (fun _ => rfl) (fun _ => rfl) (congrArg C.fs (takeAll eI _ _ rfl)) rfl)) (cons_eq rfl (cons_eq rfl (cons_eq rfl rfl))))))))
    rintro _ rfl
    refine rn rfl ?_
    have hml := manyQ_len s f.places
    refine goal_loop_keep (fun m σ => ∃ (n : Int) (i k l : Nat) (ps wr : _) (b : Bnds), n = i ∧ i ≤ f.named.length ∧ m = f.named.length - i ∧ (f.named.take i).foldl (stepB s) (phase1 s f.places, manyQ s f.places) = (b, wr) ∧ MapHas s b ps ∧ ps.length ≤ i ∧ k = wr.length ∧ l = ps.length ∧
        σ = ⟨[(11, .one (.int .i64 n)), (7, .one (.os 5 0 k k)), (6, .one (.op 4 0 0)), (4, .one (.op 2 0 0)), (3, .one (.op 1 0 0)), (2, .one (.op 0 0 0))],
          [oV (.fs (s.map eQ)), some ⟨2, [eF f], false, false, true⟩, oV (.fs []), oRows (rowsM none (some (.os 6 0 l l)) s b), oV (.os 3 0 s.length s.length), ownB wr, ownP ps], []⟩) f.named.length
      [11, 7, 6, 4, 3, 2] [0, 1, 2, 3, 4, 5, 6] rfl ⟨_, 0, (manyQ s f.places).length, 0, [], manyQ s f.places, phase1 s f.places, rfl, by omega, by omega, rfl, phase1_map hs _, by simp, rfl, rfl,
        keepS_eq rfl (cons_eq rfl (cons_eq rfl (cons_eq rfl (cons_eq (reO_rows (rowsM_re (fun _ => rfl) (fun _ => rfl) _ _ _ _)) (cons_eq rfl (cons_eq rfl (cons_eq rfl rfl)))))))⟩ ?_
    rintro m σ ⟨n, i, k, l, ps, wr, b, rfl, hi, rfl, hfold, hmap, hpsl, rfl, rfl, rfl⟩
    have hbl : b.length = s.length := by
      have := foldB_len s (f.named.take i) (phase1 s f.places, manyQ s f.places)
      rw [hfold] at this; simpa [phase1_len] using this
    have hwl : wr.length ≤ 1 + i := by
      have := foldB_wr s (f.named.take i) (phase1 s f.places, manyQ s f.places)
      rw [hfold] at this; simp only [List.length_take] at this; omega
    refine rn rfl ?_
    refine goal_cond rfl (fun h => ?_) (fun h => ?_) <;> (try simp only [gt_iff_lt, ge_iff_le, bne_iff_ne, ne_eq, bne_eq_false_iff_eq, beq_iff_eq, beq_eq_false_iff_ne, Bool.not_eq_true', Bool.not_eq_false', decide_eq_true_eq, decide_eq_false_iff_not, List.length_map] at h)
    · obtain ⟨q, hq⟩ := at_some (xs := f.named) (i := i) (by omega)
      have hst := foldl_take_succ (stepB s) (phase1 s f.places, manyQ s f.places) hq
      rw [hfold] at hst
      refine rn rfl ?_
      refine goal_did rfl rfl (dA_index (eP q) rfl rfl rfl rfl rfl rfl rfl (by omega) (by (try simp); omega) (map_at (by simpa using hq)) rfl) ?_
      refine rn rfl ?_
      refine goal_step (step_call [] rfl rfl rfl rfl rfl rfl (stakes_ct s q.name (by omega))) ?_
      rintro σ2 ⟨r, o', ⟨rfl, rfl⟩, hσ⟩
      obtain rfl := Option.some.inj hσ
      clear hσ
      refine rn rfl ?_
      refine goal_cond rfl (fun hneg => ?_) (fun hneg => ?_) <;> (try simp only [gt_iff_lt, ge_iff_le, bne_iff_ne, ne_eq, bne_eq_false_iff_eq, beq_iff_eq, beq_eq_false_iff_ne, Bool.not_eq_true', Bool.not_eq_false', decide_eq_true_eq, decide_eq_false_iff_not, List.length_map] at hneg)
      · rw [stepB_neg hneg] at hst
        refine rn rfl ?_
        refine goal_did rfl rfl (dA_append (old := (wr).map eB) (rows := ([⟨1, q.name⟩] : List Problem).map eB) (((wr) ++ ([⟨1, q.name⟩] : List Problem)).map eB) (wr.length + 1) true (Dst.own rfl rfl rfl rfl rfl (by first | (simp; done) | (simp; omega)) (whole (by first | (simp; done) | (simp; omega)))) (Src.os rfl rfl (Nat.le_refl 1) rfl) rfl rfl rfl rfl rfl rfl rfl rfl (rows_len eB_len _) (rows_len eB_len _) (by (try simp only [List.length_map, List.length_append, List.length_cons, List.length_nil, List.length_take, List.length_drop]); show _ * 24 ≤ _; omega) (by first | (simp; done) | (simp; omega)) (by simp) (by first | (simp; done) | (simp; omega)) (fun _ => noOwnR_map _ eB_noOwn _)) ?_
        refine rn rfl ?_
        refine round_keep (f.named.length - (i + 1)) [11, 7, 6, 4, 3, 2] [0, 1, 2, 3, 4, 9, 6] (by omega) rfl ⟨_, i + 1, wr.length + 1, ps.length, ps, wr ++ [⟨1, q.name⟩], b, wrap64 (by omega) (by omega), by omega, rfl, hst, hmap, by omega, by simp, rfl, ?_⟩
        exact keepS_eq rfl (cons_eq rfl (cons_eq rfl (cons_eq rfl (cons_eq (reO_rows (rowsM_re (fun _ => rfl) (fun _ => rfl) _ _ _ _)) (cons_eq rfl (cons_eq rfl (cons_eq rfl rfl)))))))
      · obtain ⟨p, hp, hlt, hpk⟩ := takesQ_some hneg
        have hat : takesQ s q.name = ((takesQ s q.name).toNat : Nat) := by omega
        generalize (takesQ s q.name).toNat = j at hp hat
        rw [hat] at hlt ⊢
        have hjs : j < s.length := by omega
        obtain ⟨x, hx⟩ := at_some (xs := b) (i := j) (by omega)
        have hrow := rowsM_at (cr := none) (cm := some (.os 6 0 ps.length ps.length)) hp hx
        refine rn rfl ?_
        refine goal_did rfl rfl (dA_index (eQ p) rfl rfl rfl rfl rfl rfl rfl (by omega) (by simp; omega) (map_at (by simpa using hp)) rfl) ?_
        refine rn rfl ?_
        refine goal_cond rfl (fun hk => ?_) (fun hk => ?_) <;> (try simp only [gt_iff_lt, ge_iff_le, bne_iff_ne, ne_eq, bne_eq_false_iff_eq, beq_iff_eq, beq_eq_false_iff_ne, Bool.not_eq_true', Bool.not_eq_false', decide_eq_true_eq, decide_eq_false_iff_not, List.length_map] at hk)
        · have hk' : p.kind = 4 := hk
          rw [rowM_map hk'] at hrow
          have hxp := hmap j p x hp hx hk'
          rw [stepB_map hat hp hx hk', hxp] at hst
          refine rn rfl ?_
          refine goal_drawL [3, 4, 7] [14] 15 rfl ?_
          refine drnL [0, 1, 2, 3, 4, 5, 9] (by kernel_rfl) (by kernel_rfl) rfl rfl ?_
          refine AHL_did 6 rfl (by kernel_rfl) (by kernel_rfl) (by kernel_rfl) (by kernel_rfl) rfl rfl (dA_indexOwn rfl rfl rfl rfl rfl rfl rfl rfl rfl (by omega) (by (try simp); omega)) ?_
          refine drnL [7] (by kernel_rfl) (by kernel_rfl) rfl rfl ?_
          refine AHL_did 8 rfl (by kernel_rfl) (by kernel_rfl) (by kernel_rfl) (by kernel_rfl) rfl rfl (dA_loadEl [.bool x.given, .fs (x.list.map eI), .os 6 0 ps.length ps.length] rfl rfl rfl rfl (by simpa using hrow) rfl rfl rfl) ?_
          refine AHL_oneDid 10 rfl (by kernel_rfl) rfl rfl (dA_step rfl) (mdOk rfl) ?_
          refine AHL_oneDid 11 rfl (by kernel_rfl) rfl rfl (dA_append (old := (ps).map eP) (rows := ([q] : List Pair).map eP) (((ps) ++ ([q] : List Pair)).map eP) (ps.length + 1) true (Dst.own rfl rfl rfl rfl rfl (by first | (simp; done) | (simp; omega)) (whole (by first | (simp; done) | (simp; omega)))) (Src.os rfl rfl (Nat.le_refl 1) rfl) rfl rfl rfl rfl rfl rfl rfl rfl (rows_len eP_len _) (rows_len eP_len _) (by (try simp only [List.length_map, List.length_append, List.length_cons, List.length_nil, List.length_take, List.length_drop]); show _ * 24 ≤ _; omega) (by first | (simp; done) | (simp; omega)) (by simp) (by first | (simp; done) | (simp; omega)) (fun _ => noOwnR_map _ eP_noOwn _)) (mdOk rfl) ?_
          refine AHL_did 12 rfl (by kernel_rfl) (by kernel_rfl) (by kernel_rfl) (by kernel_rfl) rfl rfl (dA_indexOwn rfl rfl rfl rfl rfl rfl rfl rfl rfl (by omega) (by (try simp); omega)) ?_
          refine drnL [13] (by kernel_rfl) (by kernel_rfl) rfl rfl ?_
          refine AHL_lateDid 14 rfl (by kernel_rfl) rfl rfl (dA_storeEl [.bool x.given, .fs (x.list.map eI), .os 6 0 ps.length ps.length] (rowsM none (some (.os 9 0 (ps.length + 1) (ps.length + 1))) s (b.set j ⟨x.given, x.list, ps ++ [q]⟩)) false rfl rfl rfl rfl rfl (by simpa using hrow) rfl rfl (by simp) (by refine storePairs hs hp hx hk' ?_; simp) (fun h0 => by cases h0)) ?_
          refine AH_end (by kernel_rfl) ?_
          refine rn rfl ?_
          refine round_keep (f.named.length - (i + 1)) [11, 7, 6, 4, 3, 2] [0, 1, 2, 3, 4, 5, 9] (by omega) rfl ⟨_, i + 1, wr.length, ps.length + 1, ps ++ [q], wr, _, wrap64 (by omega) (by omega), by omega, rfl, hst, MapHas.put hs hp hk' rfl, by simp; omega, rfl, by simp, ?_⟩
          exact keepS_eq rfl (cons_eq rfl (cons_eq rfl (cons_eq rfl (cons_eq (reO_rows (rowsM_re (fun _ => rfl) (fun _ => rfl) _ _ _ _)) (cons_eq rfl (cons_eq rfl (cons_eq rfl rfl)))))))
        · have hk4 : p.kind ≠ 4 := hk
          have hk2 : p.kind ≠ 2 := by
            rcases hpk with h0 | h0
            · have := named_kind.1 h0.1; omega
            · omega
          rw [rowM_plain hk2 hk4] at hrow
          refine rn rfl ?_
          refine goal_did rfl rfl (dA_indexOwn rfl rfl rfl rfl rfl rfl rfl rfl rfl (by omega) (by (try simp); omega)) ?_
          refine goal_did rfl rfl (dA_step rfl) ?_
          refine goal_did rfl rfl (dA_loadEl (eL x) rfl rfl rfl rfl (by simpa using hrow) rfl rfl rfl) ?_
          refine rn rfl ?_
          refine goal_cond rfl (fun hg => ?_) (fun hg => ?_) <;> (try simp only [gt_iff_lt, ge_iff_le, bne_iff_ne, ne_eq, bne_eq_false_iff_eq, beq_iff_eq, beq_eq_false_iff_ne, Bool.not_eq_true', Bool.not_eq_false', decide_eq_true_eq, decide_eq_false_iff_not, List.length_map] at hg)
          · rw [stepB_twice hat hp hx hk4 hg] at hst
            refine rn rfl ?_
            refine goal_did rfl rfl (dA_append (old := (wr).map eB) (rows := ([⟨2, q.name⟩] : List Problem).map eB) (((wr) ++ ([⟨2, q.name⟩] : List Problem)).map eB) (wr.length + 1) true (Dst.own rfl rfl rfl rfl rfl (by first | (simp; done) | (simp; omega)) (whole (by first | (simp; done) | (simp; omega)))) (Src.os rfl rfl (Nat.le_refl 1) rfl) rfl rfl rfl rfl rfl rfl rfl rfl (rows_len eB_len _) (rows_len eB_len _) (by (try simp only [List.length_map, List.length_append, List.length_cons, List.length_nil, List.length_take, List.length_drop]); show _ * 24 ≤ _; omega) (by first | (simp; done) | (simp; omega)) (by simp) (by first | (simp; done) | (simp; omega)) (fun _ => noOwnR_map _ eB_noOwn _)) ?_
            refine rn rfl ?_
            refine round_keep (f.named.length - (i + 1)) [11, 7, 6, 4, 3, 2] [0, 1, 2, 3, 4, 9, 6] (by omega) rfl ⟨_, i + 1, wr.length + 1, ps.length, ps, wr ++ [⟨2, q.name⟩], b, wrap64 (by omega) (by omega), by omega, rfl, hst, hmap, by omega, by simp, rfl, ?_⟩
            exact keepS_eq rfl (cons_eq rfl (cons_eq rfl (cons_eq rfl (cons_eq (reO_rows (rowsM_re (fun _ => rfl) (fun _ => rfl) _ _ _ _)) (cons_eq rfl (cons_eq rfl (cons_eq rfl rfl)))))))
          · rw [stepB_set hat hp hx hk4 hg] at hst
            refine rn rfl ?_
            refine goal_did rfl rfl (dA_indexOwn rfl rfl rfl rfl rfl rfl rfl rfl rfl (by omega) (by (try simp); omega)) ?_
            refine goal_data 100 [8] (y := .agg (eL ⟨true, [q.value], []⟩)) rfl rfl rfl ?_
            refine goal_did rfl rfl (dA_storeEl (eL x) (rowsM none (some (.os 6 0 ps.length ps.length)) s (b.set j ⟨true, [q.value], []⟩)) false rfl rfl rfl rfl rfl (by simpa using hrow) rfl rfl (by simp [eL]) (by rw [← rowM_plain (cr := none) (cm := some (.os 6 0 ps.length ps.length)) (x := x) hk2 hk4]; refine storeRow hp (fun h0 => absurd h0 hk2) (fun h0 => absurd h0 hk4) ?_; simp) (fun h0 => by cases h0)) ?_
            refine rn rfl ?_
            refine round_keep (f.named.length - (i + 1)) [11, 7, 6, 4, 3, 2] [0, 1, 2, 3, 4, 5, 6] (by omega) rfl ⟨_, i + 1, wr.length, ps.length, ps, wr, _, wrap64 (by omega) (by omega), by omega, rfl, hst, MapHas.set hmap hp hk4, by omega, rfl, rfl, ?_⟩
            exact keepS_eq rfl (cons_eq rfl (cons_eq rfl (cons_eq rfl (cons_eq (reO_rows (rowsM_re (fun _ => rfl) (fun _ => rfl) _ _ _ _)) (cons_eq rfl (cons_eq rfl (cons_eq rfl rfl)))))))
    · rw [show i = f.named.length by omega, List.take_length] at hfold
      have hbq : boundQ s f = (b, wr) := hfold
      rw [hbq]
      refine rn rfl ?_
      refine round_ext ?_
      refine rt 26 rfl ?_
      refine goal_keepE [7, 6, 4, 3, 2] [0, 1, 2, 3, 4, 5] [6] rfl rfl rfl (cons_eq rfl (cons_eq rfl (cons_eq rfl (cons_eq (reO_rows (rows' := b.map eL) ?_) (cons_eq rfl (cons_eq rfl rfl)))))) ?_
      · refine (rowsM_re (fun _ => rfl) (fun _ => rfl) _ _ _ _).trans ?_
        show rowsM none (some (C.fs (List.take ps.length (List.drop 0 (ps.map eP))))) s b = _
        rw [takeAll eP ps _ rfl, rowsM_freeM hmap, rowsM_none hbl]
      refine goal_weakCod (Weak.cleanO (id := 3) rfl rfl (noOwnR_map _ eL_noOwn _)) ?_
      refine rn rfl ?_
      exact fin_is [3, 5] rfl ⟨rfl, rfl⟩

theorem sBindO_ct (s : Sig) (f : Flat) (hs : LenS s) (hf : LenF f) : ACalls pk 35 [.agg (eG s), .agg (eF f)] [] (fun r o => r = .tup [.agg [.os 0 0 (BindQ s f).1.length (BindQ s f).1.length], .one (.bool (BindQ s f).2)] ∧ o = [ownL (BindQ s f).1]) := by
  refine acalls_of_body Tryz.func35 rfl (by kernel_rfl) rfl ?_
  refine rn rfl ?_
  refine goal_step (step_call [] rfl rfl rfl rfl rfl rfl (goodCall_ct s f hs hf)) ?_
  rintro σ2 ⟨r, o', ⟨rfl, rfl⟩, hσ⟩
  obtain rfl := Option.some.inj hσ
  clear hσ
  refine rn rfl ?_
  refine goal_guard rfl rfl rfl (fun h => ?_) (fun h => ?_) <;> (try simp only [gt_iff_lt, ge_iff_le, bne_iff_ne, ne_eq, bne_eq_false_iff_eq, beq_iff_eq, beq_eq_false_iff_ne, Bool.not_eq_true', Bool.not_eq_false', decide_eq_true_eq, decide_eq_false_iff_not, List.length_map] at h)
  · have hb : BindQ s f = ([], false) := by simp [BindQ, h]
    rw [hb]
    refine rn rfl ?_
    exact fin_weak (Weak.adoptO 2 0 3) (fin_is [3] rfl ⟨rfl, rfl⟩)
  · have hfit := fitQ_iff.1 h
    refine rn rfl ?_
    refine goal_step (step_call [] rfl rfl rfl rfl rfl rfl (saccepts_ct s f hfit.1 hf)) ?_
    rintro σ2 ⟨r, o', ⟨rfl, rfl⟩, hσ⟩
    obtain rfl := Option.some.inj hσ
    clear hσ
    refine rn rfl ?_
    refine goal_cond rfl (fun h2 => ?_) (fun h2 => ?_) <;> (try simp only [gt_iff_lt, ge_iff_le, bne_iff_ne, ne_eq, bne_eq_false_iff_eq, beq_iff_eq, beq_eq_false_iff_ne, Bool.not_eq_true', Bool.not_eq_false', decide_eq_true_eq, decide_eq_false_iff_not, List.length_map] at h2)
    · have hb : BindQ s f = ([], false) := by simp [BindQ, h2]
      rw [hb]
      refine rn rfl ?_
      exact fin_weak (Weak.adoptO 2 0 3) (fin_is [3] rfl ⟨rfl, rfl⟩)
    · have hb : BindQ s f = ((boundQ s f).1, true) := by simp [BindQ, h, h2]
      have hl := boundQ_len s f
      rw [hb]
      simp only [hl]
      refine rn rfl ?_
      refine goal_step (step_call [] rfl rfl rfl rfl rfl rfl (sboundO_ct s f hfit.1 hf.places hf.named)) ?_
      rintro σ2 ⟨r, o', ⟨rfl, rfl⟩, hσ⟩
      obtain rfl := Option.some.inj hσ
      clear hσ
      refine rn rfl ?_
      exact rn rfl (fin_is [3] rfl ⟨rfl, rfl⟩)

theorem bind_names {s : Sig} {f : Flat} : ∀ x ∈ (BindQ s f).1, ∀ q ∈ x.pairs, q.name.length ≤ 6 := by
  intro x hx q hq
  cases h : (BindQ s f).2 with
  | true =>
    obtain ⟨o1, o2, o3, o4⟩ := bindQ_ok h
    rw [o4] at hx
    obtain ⟨i, hi⟩ := List.getElem?_of_mem hx
    obtain ⟨p, hp⟩ := at_some (xs := s) (i := i) (by rw [← boundQ_len s f]; exact lt_of_some hi)
    exact (bound_names o1 o2 (p, x) (List.mem_of_getElem? (i := i) (List.getElem?_zip_eq_some.2 ⟨hp, hi⟩))).2 q hq
  | false =>
    have : BindQ s f = ([], false) := by
      unfold BindQ at h ⊢
      split at h
      · cases h
      · rename_i h1; rw [if_neg h1]
    rw [this] at hx
    cases hx

structure MidB (b : Bnds) : Prop where
  len : b.length ≤ 8
  size : ∀ x ∈ b, x.list.length ≤ 9 ∧ x.pairs.length ≤ 8
  names : ∀ x ∈ b, ∀ q ∈ x.pairs, q.name.length ≤ 6

theorem MidB.small {b : Bnds} (h : MidB b) : SmallB b := ⟨by have := h.len; omega, fun x hx => by have := h.size x hx; omega, fun x hx q hq => by have := h.names x hx q hq; omega⟩

theorem MidB.lenB {b : Bnds} (h : MidB b) : LenB b := ⟨by have := h.len; omega, fun x hx => by have := h.size x hx; omega, fun x hx q hq => by have := h.names x hx q hq; omega⟩

theorem MidB.drop1 {b : Bnds} (h : MidB b) : MidB (b.drop 1) := ⟨by have := h.len; simp; omega, fun x hx => h.size x (List.mem_of_mem_drop hx), fun x hx => h.names x (List.mem_of_mem_drop hx)⟩

theorem MidB.set {b : Bnds} (h : MidB b) {j : Nat} {y : Slot} (h1 : y.list.length ≤ 9 ∧ y.pairs.length ≤ 8) (h2 : ∀ q ∈ y.pairs, q.name.length ≤ 6) : MidB (b.set j y) := by
  refine ⟨by rw [List.length_set]; exact h.len, fun x hx => ?_, fun x hx => ?_⟩
  · rcases List.mem_or_eq_of_mem_set hx with hx | rfl
    · exact h.size x hx
    · exact h1
  · rcases List.mem_or_eq_of_mem_set hx with hx | rfl
    · exact h.names x hx
    · exact h2

theorem bindingIn_ct (bs : Str) (k : Int) (hb : bs.length ≤ 2000) (hk : 0 ≤ k) (hk' : k ≤ 1073500000) :
    ACalls pk 44 [.one (.op 0 0 0)] [oR bs k] (fun r o => ∃ s b k', SmallS s ∧ MidB b ∧ k ≤ k' ∧ k' ≤ k + 410 ∧ r = .tup [.agg (eG s), .agg (eBi b)] ∧ o = [oR bs k']) := by
  refine acalls_of_body Tryz.func44 rfl (by kernel_rfl) rfl ?_
  refine rn rfl ?_
  refine goal_step (step_callE [0] rfl rfl rfl rfl rfl rfl rfl (signatureCall_ct bs k hb hk (by omega))) ?_
  rintro σ2 ⟨r, o', ⟨s, f, k1, hs, hf, hk1, hk2, rfl, rfl⟩, hσ⟩
  obtain rfl := Option.some.inj hσ
  clear hσ
  have ls := hs.lens
  have lf := hf.lens
  have hB := sBindO_ct s f ls lf
  obtain ⟨c1, c2⟩ := bind_small s f
  have c3 := bind_names (s := s) (f := f)
  have hmid : MidB (BindQ s f).1 := ⟨c1, fun x hx => by have := c2 x hx; omega, c3⟩
  generalize (BindQ s f).1 = B at *
  generalize (BindQ s f).2 = ok at *
  refine rn rfl ?_
  refine goal_step (step_call [] rfl rfl rfl rfl rfl rfl (hB)) ?_
  rintro σ2 ⟨r, o', ⟨rfl, rfl⟩, hσ⟩
  obtain rfl := Option.some.inj hσ
  clear hσ
  refine rn rfl ?_
  refine goal_cond rfl (fun h => ?_) (fun h => ?_) <;> (try simp only [gt_iff_lt, ge_iff_le, bne_iff_ne, ne_eq, bne_eq_false_iff_eq, beq_iff_eq, beq_eq_false_iff_ne, Bool.not_eq_true', Bool.not_eq_false', decide_eq_true_eq, decide_eq_false_iff_not, List.length_map] at h)
  · have hnil : nilRows s.length = rowsN none none s := (rowsN_none s).symm
    have hz : MidB (List.replicate s.length zL) := ⟨by have := hs.len; simp; omega, fun x hx => by rw [(List.mem_replicate.1 hx).2]; simp [zL], fun x hx => by rw [(List.mem_replicate.1 hx).2]; simp [zL]⟩
    refine rn rfl ?_
    refine goal_draw' [3] 8 rfl ?_
    refine drn [0, 1, 2, 3] (by kernel_rfl) (by kernel_rfl) rfl rfl ?_
    refine AH_two (i := 4) (j := 6) (by kernel_rfl) (step_did rfl rfl (dA_make s.length (nilRows s.length) rfl rfl rfl (by simp) (by simp) rfl rfl rfl rfl rfl (by show 56 * s.length ≤ _; have := hs.len; omega) (by have := hs.len; omega) rfl)) (mdOk rfl) (step_did rfl rfl (dA_step rfl)) (mdOk rfl) ?_ ?_
    · rintro _ rfl
      refine drn [5] (by kernel_rfl) (by kernel_rfl) rfl rfl ?_
      refine AH_oneDid 6 rfl (by kernel_rfl) rfl (dA_step rfl) (mdOk rfl) ?_
      refine AH_oneDid 7 rfl (by kernel_rfl) rfl (dA_step rfl) (mdOk rfl) ?_
      refine AH_end (by kernel_rfl) ?_
      refine rn rfl ?_
      exact fin_weak (Weak.retell (id := 7) (rows' := (List.replicate s.length zL).map eL) (cl' := true) rfl rfl (by rw [hnil]; exact (rowsN_re rfl rfl none none s).trans (rowsM_none (by simp))) (fun _ => noOwnR_map _ eL_noOwn _)) (fin_is [] rfl ⟨s, _, k1, hs, hz, by omega, by omega, congrArg (fun x => T.tup [T.agg (eG s), T.agg [C.fs x]]) (takeAll eL _ _ (by simp)), rfl⟩)
    · rintro _ rfl
      refine AH_oneDid 4 rfl (by kernel_rfl) rfl (dA_make s.length (nilRows s.length) rfl rfl rfl (by simp) (by simp) rfl rfl rfl rfl rfl (by show 56 * s.length ≤ _; have := hs.len; omega) (by have := hs.len; omega) rfl) (mdOk rfl) ?_
      refine drn [5] (by kernel_rfl) (by kernel_rfl) rfl rfl ?_
      refine AH_oneDid 7 rfl (by kernel_rfl) rfl (dA_step rfl) (mdOk rfl) ?_
      refine AH_end (by kernel_rfl) ?_
      refine rn rfl ?_
      exact fin_weak (Weak.retell (id := 7) (rows' := (List.replicate s.length zL).map eL) (cl' := true) rfl rfl (by rw [hnil]; exact (rowsN_re rfl rfl none none s).trans (rowsM_none (by simp))) (fun _ => noOwnR_map _ eL_noOwn _)) (fin_is [] rfl ⟨s, _, k1, hs, hz, by omega, by omega, congrArg (fun x => T.tup [T.agg (eG s), T.agg [C.fs x]]) (takeAll eL _ _ (by simp)), rfl⟩)
  refine rt 5 rfl ?_
  refine goal_cutR (fun σ' => ∃ (b' : Bnds) (rows : List (List C)) (k3 : Int), rows = b'.map eL ∧ MidB b' ∧ k1 ≤ k3 ∧ k3 ≤ k1 + 3 ∧ σ' = ⟨[(6, .one (.op 4 0 0)), (4, .one (.op 3 0 0)), (3, .one (.op 2 0 0)), (2, .one (.op 1 0 0)), (0, .one (.op 0 0 0))],
    [oR bs k3, some ⟨1, [[.fs []]], false, false, true⟩, some ⟨1, [[.fs []]], false, false, true⟩, some ⟨1, [eG s], false, false, true⟩, some ⟨1, [[.fs rows]], false, false, true⟩], []⟩) ?_ ?_
  · refine rn rfl ?_
    refine goal_guard rfl rfl rfl (fun h1 => ?_) (fun h1 => ?_) <;> (try simp only [gt_iff_lt, ge_iff_le, bne_iff_ne, ne_eq, bne_eq_false_iff_eq, beq_iff_eq, beq_eq_false_iff_ne, Bool.not_eq_true', Bool.not_eq_false', decide_eq_true_eq, decide_eq_false_iff_not, List.length_map] at h1)
    · refine rn rfl ?_
      refine goal_step (step_callE [0] rfl rfl rfl rfl rfl rfl (rfl) (pick_ct bs k1 16 hb (by omega) (by omega) (by omega))) ?_
      rintro σ2 ⟨r, o', ⟨⟨z, rfl, _, _⟩, rfl⟩, hσ⟩
      obtain rfl := Option.some.inj hσ
      clear hσ
      refine rn rfl ?_
      refine goal_cond rfl (fun h2 => ?_) (fun h2 => ?_) <;> (try simp only [gt_iff_lt, ge_iff_le, bne_iff_ne, ne_eq, bne_eq_false_iff_eq, beq_iff_eq, beq_eq_false_iff_ne, Bool.not_eq_true', Bool.not_eq_false', decide_eq_true_eq, decide_eq_false_iff_not, List.length_map] at h2)
      · refine rn rfl ?_
        refine goal_step (step_callE [0] rfl rfl rfl rfl rfl rfl (rfl) (pick_ct bs (k1 + 1) B.length hb (by omega) (by omega) (by omega))) ?_
        rintro σ2 ⟨r, o', ⟨⟨y, rfl, hy, _⟩, rfl⟩, hσ⟩
        obtain rfl := Option.some.inj hσ
        clear hσ
        refine rn rfl ?_
        have hy' := hy (by omega)
        obtain ⟨j, rfl⟩ : ∃ j : Nat, y = j := ⟨y.toNat, by omega⟩
        obtain ⟨x, hx⟩ := at_some (xs := B) (i := j) (by omega)
        have hrow : (B.map eL)[j]? = some (eL x) := by rw [List.getElem?_map, hx]; rfl
        have hxm := List.mem_of_getElem? hx
        have hx1 := c2 x hxm
        have hx2 := c3 x hxm
        refine rn rfl ?_
        refine goal_step (step_callE [0] rfl rfl rfl rfl rfl rfl (rfl) (pick_ct bs (k1 + 1 + 1) 4 hb (by omega) (by omega) (by omega))) ?_
        rintro σ2 ⟨r, o', ⟨⟨w, rfl, _, _⟩, rfl⟩, hσ⟩
        obtain rfl := Option.some.inj hσ
        clear hσ
        refine rn rfl ?_
        refine goal_cond rfl (fun e0 => ?_) (fun e0 => ?_) <;> (try simp only [gt_iff_lt, ge_iff_le, bne_iff_ne, ne_eq, bne_eq_false_iff_eq, beq_iff_eq, beq_eq_false_iff_ne, Bool.not_eq_true', Bool.not_eq_false', decide_eq_true_eq, decide_eq_false_iff_not, List.length_map] at e0)
        · refine rn rfl ?_
          refine goal_data 53 [] (y := .agg (eL zL)) rfl rfl rfl ?_
          refine goal_did rfl rfl (dA_indexOwn rfl rfl rfl rfl rfl rfl rfl rfl rfl (by omega) (by (try simp); omega)) ?_
          refine goal_did rfl rfl (dA_storeEl (eL x) ((B.set j zL).map eL) true rfl rfl rfl rfl rfl (by simpa using hrow) rfl rfl (by simp [eL]) (by rw [show 0 + (j : Int).toNat = j by simp, map_set]; rfl) (fun _ => noOwnR_map _ eL_noOwn _)) ?_
          refine rn rfl ?_
          exact cut_nrmF [6, 4, 3, 2, 0] [1, 2, 3, 6] [5] rfl rfl ⟨B.set j zL, _, k1 + 1 + 1 + 1, takeAll eL _ _ (by simp), hmid.set (by simp [zL]) (by simp [zL]), by omega, by omega, rfl⟩
        · refine rn rfl ?_
          refine goal_cond rfl (fun e1 => ?_) (fun e1 => ?_) <;> (try simp only [gt_iff_lt, ge_iff_le, bne_iff_ne, ne_eq, bne_eq_false_iff_eq, beq_iff_eq, beq_eq_false_iff_ne, Bool.not_eq_true', Bool.not_eq_false', decide_eq_true_eq, decide_eq_false_iff_not, List.length_map] at e1)
          · refine rn rfl ?_
            refine goal_drawL [5, 6] [12] 13 rfl ?_
            refine drnL [0, 1, 2, 3, 4, 5] (by kernel_rfl) (by kernel_rfl) rfl rfl ?_
            refine AHL_did 6 rfl (by kernel_rfl) (by kernel_rfl) (by kernel_rfl) (by kernel_rfl) rfl rfl (dA_indexOwn rfl rfl rfl rfl rfl rfl rfl rfl rfl (by omega) (by (try simp); omega)) ?_
            refine drnL [7] (by kernel_rfl) (by kernel_rfl) rfl rfl ?_
            refine AHL_did 8 rfl (by kernel_rfl) (by kernel_rfl) (by kernel_rfl) (by kernel_rfl) rfl rfl (dA_loadEl (eL x) rfl rfl rfl rfl (map_at (by simpa using hx)) rfl rfl rfl) ?_
            refine drnL [9] (by kernel_rfl) (by kernel_rfl) rfl rfl ?_
            refine AHL_did 10 rfl (by kernel_rfl) (by kernel_rfl) (by kernel_rfl) (by kernel_rfl) rfl rfl (dA_indexOwn rfl rfl rfl rfl rfl rfl rfl rfl rfl (by omega) (by (try simp); omega)) ?_
            refine drnL [11] (by kernel_rfl) (by kernel_rfl) rfl rfl ?_
            refine AHL_lateDid 12 rfl (by kernel_rfl) rfl rfl (dA_storeEl (eL x) ((B.set j ⟨!x.given, x.list, x.pairs⟩).map eL) true rfl rfl rfl rfl rfl (by simpa using hrow) rfl rfl (by simp [eL]) (by rw [show 0 + (j : Int).toNat = j by simp, map_set]; rfl) (fun _ => noOwnR_map _ eL_noOwn _)) ?_
            refine AH_end (by kernel_rfl) ?_
            refine rn rfl ?_
            exact cut_nrmF [6, 4, 3, 2, 0] [1, 2, 3, 6] [5] rfl rfl ⟨B.set j ⟨!x.given, x.list, x.pairs⟩, _, k1 + 1 + 1 + 1, takeAll eL _ _ (by simp), hmid.set (by simp; omega) hx2, by omega, by omega, rfl⟩
          · refine rn rfl ?_
            refine goal_cond rfl (fun e2 => ?_) (fun e2 => ?_) <;> (try simp only [gt_iff_lt, ge_iff_le, bne_iff_ne, ne_eq, bne_eq_false_iff_eq, beq_iff_eq, beq_eq_false_iff_ne, Bool.not_eq_true', Bool.not_eq_false', decide_eq_true_eq, decide_eq_false_iff_not, List.length_map] at e2)
            · refine rn rfl ?_
              refine goal_drawL [5, 6] [15] 16 rfl ?_
              refine drnL [0, 1, 2, 4, 5, 6] (by kernel_rfl) (by kernel_rfl) rfl rfl ?_
              refine AHL_did 7 rfl (by kernel_rfl) (by kernel_rfl) (by kernel_rfl) (by kernel_rfl) rfl rfl (dA_indexOwn rfl rfl rfl rfl rfl rfl rfl rfl rfl (by omega) (by (try simp); omega)) ?_
              refine drnL [8] (by kernel_rfl) (by kernel_rfl) rfl rfl ?_
              refine AHL_did 9 rfl (by kernel_rfl) (by kernel_rfl) (by kernel_rfl) (by kernel_rfl) rfl rfl (dA_loadEl (eL x) rfl rfl rfl rfl (map_at (by simpa using hx)) rfl rfl rfl) ?_
              refine AHL_two (i := 3) (j := 11) (by kernel_rfl) rfl rfl (step_did rfl rfl (dA_step rfl)) (mdOk rfl) (step_did rfl rfl (dA_step rfl)) (mdOk rfl) ?_ ?_
              · rintro _ rfl
                refine AHL_two (i := 10) (j := 11) (by kernel_rfl) rfl rfl (step_did rfl rfl (dA_append (old := []) (rows := (x.list : List Int).map eI) ((x.list : List Int).map eI) (x.list.length) true (Dst.own rfl rfl rfl rfl rfl (Nat.le_refl 0) rfl) (Src.fs rfl) rfl rfl rfl rfl rfl rfl rfl rfl (by simp) (rows_len eI_len _) (by (try simp only [List.length_map, List.length_append, List.length_cons, List.length_nil, List.length_take, List.length_drop]); show _ * 8 ≤ _; omega) (by first | (simp; done) | (simp; omega)) (by simp) (by first | (simp; done) | (simp; omega)) (fun _ => noOwnR_map _ eI_noOwn _))) (mdOk rfl) (step_did rfl rfl (dA_step rfl)) (mdOk rfl) ?_ ?_
                · rintro _ rfl
                  refine AHL_oneDid 11 rfl (by kernel_rfl) rfl rfl (dA_step rfl) (mdOk rfl) ?_
                  refine AHL_oneDid 12 rfl (by kernel_rfl) rfl rfl (dA_append (old := (x.list).map eI) (rows := ([5] : List Int).map eI) (((x.list) ++ ([5] : List Int)).map eI) (x.list.length + 1) true (Dst.own rfl rfl rfl rfl rfl (by first | (simp; done) | (simp; omega)) (whole (by first | (simp; done) | (simp; omega)))) (Src.os rfl rfl (Nat.le_refl 1) rfl) rfl rfl rfl rfl rfl rfl rfl rfl (rows_len eI_len _) (rows_len eI_len _) (by (try simp only [List.length_map, List.length_append, List.length_cons, List.length_nil, List.length_take, List.length_drop]); show _ * 8 ≤ _; omega) (by first | (simp; done) | (simp; omega)) (by simp) (by first | (simp; done) | (simp; omega)) (fun _ => noOwnR_map _ eI_noOwn _)) (mdOk rfl) ?_
                  refine AHL_data 83 [10] (y := .one (.fs ((x.list ++ [5]).map eI))) rfl rfl (congrArg (fun x => T.one (C.fs x)) (takeAll eI _ _ (by simp))) ?_
                  refine AHL_did 13 rfl (by kernel_rfl) (by kernel_rfl) (by kernel_rfl) (by kernel_rfl) rfl rfl (dA_indexOwn rfl rfl rfl rfl rfl rfl rfl rfl rfl (by omega) (by (try simp); omega)) ?_
                  refine drnL [14] (by kernel_rfl) (by kernel_rfl) rfl rfl ?_
                  refine AHL_lateDid 15 rfl (by kernel_rfl) rfl rfl (dA_storeEl (eL x) ((B.set j ⟨x.given, x.list ++ [5], x.pairs⟩).map eL) true rfl rfl rfl rfl rfl (by simpa using hrow) rfl rfl (by simp [eL]) (by rw [show 0 + (j : Int).toNat = j by simp, map_set]; rfl) (fun _ => noOwnR_map _ eL_noOwn _)) ?_
                  refine AH_end (by kernel_rfl) ?_
                  refine rn rfl ?_
                  exact cut_nrmF [6, 4, 3, 2, 0] [1, 2, 3, 6] [5] rfl rfl ⟨B.set j ⟨x.given, x.list ++ [5], x.pairs⟩, _, k1 + 1 + 1 + 1, takeAll eL _ _ (by simp), hmid.set (by simp; omega) hx2, by omega, by omega, rfl⟩
                · rintro _ rfl
                  refine AHL_oneDid 10 rfl (by kernel_rfl) rfl rfl (dA_append (old := []) (rows := (x.list : List Int).map eI) ((x.list : List Int).map eI) (x.list.length) true (Dst.own rfl rfl rfl rfl rfl (Nat.le_refl 0) rfl) (Src.fs rfl) rfl rfl rfl rfl rfl rfl rfl rfl (by simp) (rows_len eI_len _) (by (try simp only [List.length_map, List.length_append, List.length_cons, List.length_nil, List.length_take, List.length_drop]); show _ * 8 ≤ _; omega) (by first | (simp; done) | (simp; omega)) (by simp) (by first | (simp; done) | (simp; omega)) (fun _ => noOwnR_map _ eI_noOwn _)) (mdOk rfl) ?_
                  refine AHL_oneDid 12 rfl (by kernel_rfl) rfl rfl (dA_append (old := (x.list).map eI) (rows := ([5] : List Int).map eI) (((x.list) ++ ([5] : List Int)).map eI) (x.list.length + 1) true (Dst.own rfl rfl rfl rfl rfl (by first | (simp; done) | (simp; omega)) (whole (by first | (simp; done) | (simp; omega)))) (Src.os rfl rfl (Nat.le_refl 1) rfl) rfl rfl rfl rfl rfl rfl rfl rfl (rows_len eI_len _) (rows_len eI_len _) (by (try simp only [List.length_map, List.length_append, List.length_cons, List.length_nil, List.length_take, List.length_drop]); show _ * 8 ≤ _; omega) (by first | (simp; done) | (simp; omega)) (by simp) (by first | (simp; done) | (simp; omega)) (fun _ => noOwnR_map _ eI_noOwn _)) (mdOk rfl) ?_
                  refine AHL_data 83 [10] (y := .one (.fs ((x.list ++ [5]).map eI))) rfl rfl (congrArg (fun x => T.one (C.fs x)) (takeAll eI _ _ (by simp))) ?_
                  refine AHL_did 13 rfl (by kernel_rfl) (by kernel_rfl) (by kernel_rfl) (by kernel_rfl) rfl rfl (dA_indexOwn rfl rfl rfl rfl rfl rfl rfl rfl rfl (by omega) (by (try simp); omega)) ?_
                  refine drnL [14] (by kernel_rfl) (by kernel_rfl) rfl rfl ?_
                  refine AHL_lateDid 15 rfl (by kernel_rfl) rfl rfl (dA_storeEl (eL x) ((B.set j ⟨x.given, x.list ++ [5], x.pairs⟩).map eL) true rfl rfl rfl rfl rfl (by simpa using hrow) rfl rfl (by simp [eL]) (by rw [show 0 + (j : Int).toNat = j by simp, map_set]; rfl) (fun _ => noOwnR_map _ eL_noOwn _)) ?_
                  refine AH_end (by kernel_rfl) ?_
                  refine rn rfl ?_
                  exact cut_nrmF [6, 4, 3, 2, 0] [1, 2, 3, 6] [5] rfl rfl ⟨B.set j ⟨x.given, x.list ++ [5], x.pairs⟩, _, k1 + 1 + 1 + 1, takeAll eL _ _ (by simp), hmid.set (by simp; omega) hx2, by omega, by omega, rfl⟩
              · rintro _ rfl
                refine AHL_oneDid 3 rfl (by kernel_rfl) rfl rfl (dA_step rfl) (mdOk rfl) ?_
                refine AHL_oneDid 10 rfl (by kernel_rfl) rfl rfl (dA_append (old := []) (rows := (x.list : List Int).map eI) ((x.list : List Int).map eI) (x.list.length) true (Dst.own rfl rfl rfl rfl rfl (Nat.le_refl 0) rfl) (Src.fs rfl) rfl rfl rfl rfl rfl rfl rfl rfl (by simp) (rows_len eI_len _) (by (try simp only [List.length_map, List.length_append, List.length_cons, List.length_nil, List.length_take, List.length_drop]); show _ * 8 ≤ _; omega) (by first | (simp; done) | (simp; omega)) (by simp) (by first | (simp; done) | (simp; omega)) (fun _ => noOwnR_map _ eI_noOwn _)) (mdOk rfl) ?_
                refine AHL_oneDid 12 rfl (by kernel_rfl) rfl rfl (dA_append (old := (x.list).map eI) (rows := ([5] : List Int).map eI) (((x.list) ++ ([5] : List Int)).map eI) (x.list.length + 1) true (Dst.own rfl rfl rfl rfl rfl (by first | (simp; done) | (simp; omega)) (whole (by first | (simp; done) | (simp; omega)))) (Src.os rfl rfl (Nat.le_refl 1) rfl) rfl rfl rfl rfl rfl rfl rfl rfl (rows_len eI_len _) (rows_len eI_len _) (by (try simp only [List.length_map, List.length_append, List.length_cons, List.length_nil, List.length_take, List.length_drop]); show _ * 8 ≤ _; omega) (by first | (simp; done) | (simp; omega)) (by simp) (by first | (simp; done) | (simp; omega)) (fun _ => noOwnR_map _ eI_noOwn _)) (mdOk rfl) ?_
                refine AHL_data 83 [10] (y := .one (.fs ((x.list ++ [5]).map eI))) rfl rfl (congrArg (fun x => T.one (C.fs x)) (takeAll eI _ _ (by simp))) ?_
                refine AHL_did 13 rfl (by kernel_rfl) (by kernel_rfl) (by kernel_rfl) (by kernel_rfl) rfl rfl (dA_indexOwn rfl rfl rfl rfl rfl rfl rfl rfl rfl (by omega) (by (try simp); omega)) ?_
                refine drnL [14] (by kernel_rfl) (by kernel_rfl) rfl rfl ?_
                refine AHL_lateDid 15 rfl (by kernel_rfl) rfl rfl (dA_storeEl (eL x) ((B.set j ⟨x.given, x.list ++ [5], x.pairs⟩).map eL) true rfl rfl rfl rfl rfl (by simpa using hrow) rfl rfl (by simp [eL]) (by rw [show 0 + (j : Int).toNat = j by simp, map_set]; rfl) (fun _ => noOwnR_map _ eL_noOwn _)) ?_
                refine AH_end (by kernel_rfl) ?_
                refine rn rfl ?_
                exact cut_nrmF [6, 4, 3, 2, 0] [1, 2, 3, 6] [5] rfl rfl ⟨B.set j ⟨x.given, x.list ++ [5], x.pairs⟩, _, k1 + 1 + 1 + 1, takeAll eL _ _ (by simp), hmid.set (by simp; omega) hx2, by omega, by omega, rfl⟩
            · refine rn rfl ?_
              refine goal_did rfl rfl (dA_sliceOwn 1 B.length B.length 1 (B.length - 1) (B.length - 1) rfl rfl rfl rfl rfl rfl rfl (Bnd.some_ rfl rfl) Bnd.none_ (.inl ⟨rfl, rfl⟩) (by omega) (by omega) (Nat.le_refl _) (by simp) rfl rfl rfl rfl) ?_
              refine rn rfl ?_
              exact cut_nrmF [6, 4, 3, 2, 0] [1, 2, 3, 6] [5] rfl rfl ⟨B.drop 1, _, k1 + 1 + 1 + 1, (by rw [List.map_drop, List.take_of_length_le (by simp)]), hmid.drop1, by omega, by omega, rfl⟩
      · refine rn rfl ?_
        exact cut_nrmF [6, 4, 3, 2, 0] [1, 2, 3, 6] [5] rfl rfl ⟨B, _, k1 + 1, takeAll eL _ _ rfl, hmid, by omega, by omega, rfl⟩
    · refine rn rfl ?_
      exact cut_nrmF [6, 4, 3, 2, 0] [1, 2, 3, 6] [5] rfl rfl ⟨B, _, k1, takeAll eL _ _ rfl, hmid, by omega, by omega, rfl⟩
  rintro _ ⟨b', rows, k3, rfl, hm, hk3, hk4, rfl⟩
  refine rn rfl ?_
  refine goal_draw' [3, 4] 4 rfl ?_
  refine drn [0, 1] (by kernel_rfl) (by kernel_rfl) rfl rfl ?_
  refine AH_oneDid 2 rfl (by kernel_rfl) rfl (dA_step rfl) (mdOk rfl) ?_
  refine AH_oneDid 3 rfl (by kernel_rfl) rfl (dA_step rfl) (mdOk rfl) ?_
  refine AH_end (by kernel_rfl) ?_
  refine rn rfl ?_
  exact rn rfl (fin_is [] rfl ⟨s, b', k3, hs, hm, by omega, by omega, rfl, rfl⟩)

section

variable {s : Sig} {f : Flat} {b : Bnds}

theorem Given.more (h : Given s f b) : f.places.length ≤ (unbQ s b).places.length := by
  obtain ⟨op, V, R, X, Y, I⟩ := h.unb
  rw [I.places, List.length_append]
  have hV : V.length ≤ placesQ s := by have := I.vlen; omega
  by_cases hlt : V.length < placesQ s
  · have := (h.gap I hlt).1; omega
  · by_cases h2 : ∃ (j : Nat) (p : Param), s[j]? = some p ∧ p.kind = 2
    · obtain ⟨j, p, hp, hk⟩ := h2
      have hR := I.rest j p _ (lt_of_some hp) hp (h.get hp) hk
      rw [give_rest hk] at hR
      have : R.length = f.places.length - placesQ s := by rw [hR]; simp
      omega
    · have h1 := ((acc_iff h.sig h.flat).1 h.acc).1
      have : ¬ placesQ s < f.places.length := fun h0 => by
        obtain ⟨p, hp, hk⟩ := List.any_eq_true.1 (h1 h0)
        obtain ⟨j, hj⟩ := List.getElem?_of_mem hp
        exact h2 ⟨j, p, hj, by simpa [kIs] using hk⟩
      omega

end

theorem drawFill_ct (bs : Str) : ACalls pk 19 [.one (.fs (bs.map rowB))] [] (fun r o => ∃ s b, SmallS s ∧ MidB b ∧ r = .tup [.agg (eG s), .agg (eBi b)] ∧ o = []) := by
  have hb : (bs.take 2000).length ≤ 2000 := by simp; omega
  refine acalls_of_body Tryz.func19 rfl (by kernel_rfl) rfl ?_
  refine rn rfl ?_
  refine goal_step (step_call [] rfl rfl rfl rfl rfl rfl (newReader_ct bs)) ?_
  rintro σ2 ⟨r, o', ⟨rfl, rfl⟩, hσ⟩
  obtain rfl := Option.some.inj hσ
  clear hσ
  refine rn rfl ?_
  refine goal_step (step_callE [2] rfl rfl rfl rfl rfl rfl rfl (bindingIn_ct (bs.take 2000) 0 hb (by omega) (by omega))) ?_
  rintro σ2 ⟨r, o', ⟨s, b, k1, hs, hbb, hk1, hk2, rfl, rfl⟩, hσ⟩
  obtain rfl := Option.some.inj hσ
  clear hσ
  exact rn rfl (fin_is [] rfl ⟨s, b, hs, hbb, rfl, rfl⟩)

def FillF (s : Sig) (b : Bnds) : Bnds := if VBi s b then fillQ s b else []

theorem vb_small {s : Sig} {b : Bnds} (h : VBi s b = true) : b.length = s.length ∧ s.length ≤ 8 ∧ ∀ x ∈ b, x.list.length ≤ 8 ∧ x.pairs.length ≤ 8 := by
  have G := VBi_given h
  obtain ⟨c1, c2⟩ := bound_small G.sig G.flat
  rw [← G.eq] at c1 c2
  exact ⟨G.len, G.sig.len, c2⟩

theorem iFill_ct (s : Sig) (b : Bnds) (hs : LenS s) (hb : SmallB b) : ACalls pk 20 [.agg (eG s), .agg (eBi b)] [] (fun r o => r = .agg (eBi (FillF s b)) ∧ o = []) := by
  refine acalls_of_body Tryz.func20 rfl (by kernel_rfl) rfl ?_
  refine rn rfl ?_
  refine goal_step (step_call [] rfl rfl rfl rfl rfl rfl (ivalidBinding_ct s b hs hb)) ?_
  rintro σ2 ⟨r, o', ⟨rfl, rfl⟩, hσ⟩
  obtain rfl := Option.some.inj hσ
  clear hσ
  refine rn rfl ?_
  refine goal_cond rfl (fun h => ?_) (fun h => ?_) <;> (try simp only [gt_iff_lt, ge_iff_le, bne_iff_ne, ne_eq, bne_eq_false_iff_eq, beq_iff_eq, beq_eq_false_iff_ne, Bool.not_eq_true', Bool.not_eq_false', decide_eq_true_eq, decide_eq_false_iff_not, List.length_map] at h)
  · refine rn rfl (fin_is [] rfl ⟨?_, rfl⟩)
    simp [FillF, h]; rfl
  · have hV : VBi s b = true := by simpa using h
    obtain ⟨v1, v2, v3⟩ := vb_small hV
    have : FillF s b = fillQ s b := by simp [FillF, hV]
    rw [this]
    refine rn rfl ?_
    refine goal_step (step_call [] rfl rfl rfl rfl rfl rfl (ifill_ct s b v1 v2 (fun x hx => by have := v3 x hx; omega))) ?_
    rintro σ2 ⟨r, o', ⟨rfl, rfl⟩, hσ⟩
    obtain rfl := Option.some.inj hσ
    clear hσ
    refine rn rfl ?_
    exact rn rfl (fin_is [] rfl ⟨rfl, rfl⟩)

theorem sFill_ct (s : Sig) (b : Bnds) (hs : LenS s) (hb : LenB b) : ACalls pk 22 [.agg (eG s), .agg (eBi b)] [] (fun r o => r = .agg (eBi (FillF s b)) ∧ o = []) := by
  have hv := svalidB_ct s b hs hb
  rw [VB_eq] at hv
  refine acalls_of_body Tryz.func22 rfl (by kernel_rfl) rfl ?_
  refine rn rfl ?_
  refine goal_step (step_call [] rfl rfl rfl rfl rfl rfl (hv)) ?_
  rintro σ2 ⟨r, o', ⟨rfl, rfl⟩, hσ⟩
  obtain rfl := Option.some.inj hσ
  clear hσ
  refine rn rfl ?_
  refine goal_cond rfl (fun h => ?_) (fun h => ?_) <;> (try simp only [gt_iff_lt, ge_iff_le, bne_iff_ne, ne_eq, bne_eq_false_iff_eq, beq_iff_eq, beq_eq_false_iff_ne, Bool.not_eq_true', Bool.not_eq_false', decide_eq_true_eq, decide_eq_false_iff_not, List.length_map] at h)
  · refine rn rfl (fin_is [] rfl ⟨?_, rfl⟩)
    simp [FillF, h]; rfl
  · have hV : VBi s b = true := by simpa using h
    obtain ⟨v1, v2, v3⟩ := vb_small hV
    have : FillF s b = fillQ s b := by simp [FillF, hV]
    rw [this]
    refine rn rfl ?_
    refine goal_step (step_call [] rfl rfl rfl rfl rfl rfl (sfill_ct s b v1 v2 (fun x hx => by have := v3 x hx; omega))) ?_
    rintro σ2 ⟨r, o', ⟨rfl, rfl⟩, hσ⟩
    obtain rfl := Option.some.inj hσ
    clear hσ
    refine rn rfl ?_
    exact rn rfl (fin_is [] rfl ⟨rfl, rfl⟩)

theorem fillF_small {s : Sig} {b : Bnds} : (FillF s b).length ≤ 8 ∧ ∀ x ∈ FillF s b, x.list.length ≤ 9 ∧ x.pairs.length ≤ 8 := by
  unfold FillF
  split
  · rename_i h
    obtain ⟨v1, v2, v3⟩ := vb_small h
    refine ⟨by rw [fillQ_len v1]; omega, fun x hx => ?_⟩
    obtain ⟨i, hi⟩ := List.getElem?_of_mem hx
    obtain ⟨p, hp⟩ := at_some (xs := s) (i := i) (by rw [← fillQ_len v1]; exact lt_of_some hi)
    obtain ⟨y, hy⟩ := at_some (xs := b) (i := i) (by rw [v1]; exact lt_of_some hp)
    have := fillQ_at hp hy
    rw [hi] at this
    cases this
    have := v3 y (List.mem_of_getElem? hy)
    unfold fill1
    split
    · simp
    · omega
  · simp

def ValF (s : Sig) (b : Bnds) (n : Str) : Int × Bool :=
  if VBi s b then (match s[(idxI (qIs n) s 0).toNat]?, (fillQ s b)[(idxI (qIs n) s 0).toNat]? with
    | some p, some y => if decide (0 ≤ idxI (qIs n) s 0) && singleQ p then (hd0 y.list, true) else (0, false)
    | _, _ => (0, false)) else (0, false)

theorem fill_one {s : Sig} {b : Bnds} {i : Nat} {p : Param} {y : Slot} (h : VBi s b = true) (hp : s[i]? = some p) (hy : (fillQ s b)[i]? = some y) (hsg : singleQ p = true) : y = ⟨true, [hd0 y.list], []⟩ := by
  have G := VBi_given h
  have hx := G.get hp
  have hf := fillQ_at hp hx
  rw [hy] at hf
  cases hf
  have hsh := give_shape (s := s) (pl := (unbQ s b).places) (qs := (unbQ s b).named) (i := i) (p := p) hsg
  cases hg : (giveQ s (unbQ s b).places (unbQ s b).named i p).given with
  | true =>
    have e := hsh.1 hg
    have : fill1 p (giveQ s (unbQ s b).places (unbQ s b).named i p) = giveQ s (unbQ s b).places (unbQ s b).named i p := by simp [fill1, hg]
    rw [this]; exact e
  | false =>
    have : fill1 p (giveQ s (unbQ s b).places (unbQ s b).named i p) = ⟨true, [p.dflt], []⟩ := by simp [fill1, hg, hsg]
    rw [this]; rfl

theorem iValue_ct (s : Sig) (b : Bnds) (n : Str) (hs : LenS s) (hb : SmallB b) : ACalls pk 24 [.agg (eG s), .agg (eBi b), .one (.str n)] [] (fun r o => r = .tup [.one (.int .i64 (ValF s b n).1), .one (.bool (ValF s b n).2)] ∧ o = []) := by
  obtain ⟨s1, s2⟩ := id hs
  refine acalls_of_body Tryz.func24 rfl (by kernel_rfl) rfl ?_
  refine rn rfl ?_
  refine goal_step (step_call [] rfl rfl rfl rfl rfl rfl (ivalidBinding_ct s b hs hb)) ?_
  rintro σ2 ⟨r, o', ⟨rfl, rfl⟩, hσ⟩
  obtain rfl := Option.some.inj hσ
  clear hσ
  refine rn rfl ?_
  refine goal_cond rfl (fun h => ?_) (fun h => ?_) <;> (try simp only [gt_iff_lt, ge_iff_le, bne_iff_ne, ne_eq, bne_eq_false_iff_eq, beq_iff_eq, beq_eq_false_iff_ne, Bool.not_eq_true', Bool.not_eq_false', decide_eq_true_eq, decide_eq_false_iff_not, List.length_map] at h)
  · refine rn rfl (fin_is [] rfl ⟨?_, rfl⟩)
    simp [ValF, h]
  · have hV : VBi s b = true := by simpa using h
    obtain ⟨v1, v2, v3⟩ := vb_small hV
    refine rn rfl ?_
    refine goal_step (step_call [] rfl rfl rfl rfl rfl rfl (find_ct s n (by omega))) ?_
    rintro σ2 ⟨r, o', ⟨rfl, rfl⟩, hσ⟩
    obtain rfl := Option.some.inj hσ
    clear hσ
    refine rn rfl ?_
    refine goal_guard rfl rfl rfl (fun h1 => ?_) (fun h1 => ?_) <;> (try simp only [gt_iff_lt, ge_iff_le, bne_iff_ne, ne_eq, bne_eq_false_iff_eq, beq_iff_eq, beq_eq_false_iff_ne, Bool.not_eq_true', Bool.not_eq_false', decide_eq_true_eq, decide_eq_false_iff_not, List.length_map] at h1)
    · have hn : ValF s b n = (0, false) := by
        unfold ValF
        rw [if_pos hV]
        have : decide (0 ≤ idxI (qIs n) s 0) = false := by simp; omega
        split
        · rw [this]; rfl
        · rfl
      rw [hn]
      exact rn rfl (fin_is [] rfl ⟨rfl, rfl⟩)
    · have h1' : 0 ≤ idxI (qIs n) s 0 := by omega
      obtain ⟨p, _, hp, _, hlt⟩ := idxI_find h1'
      obtain ⟨j, hj⟩ : ∃ j : Nat, idxI (qIs n) s 0 = j := ⟨(idxI (qIs n) s 0).toNat, by omega⟩
      obtain ⟨y, hy⟩ := at_some (xs := fillQ s b) (i := (idxI (qIs n) s 0).toNat) (by rw [fillQ_len v1]; omega)
      have hv : ValF s b n = if singleQ p then (hd0 y.list, true) else (0, false) := by
        unfold ValF
        rw [if_pos hV, hp, hy]
        simp [h1']
      have hfi := ifill_ct s b v1 v2 (fun x hx => by have := v3 x hx; omega)
      have hone := fill_one hV hp hy
      have hfl := fillQ_len v1
      rw [hv]
      rw [hj] at hlt hp hy ⊢
      simp only [Int.toNat_natCast] at hp hy
      generalize fillQ s b = F at *
      refine rn rfl ?_
      refine goal_did rfl rfl (dA_index (eQ p) rfl rfl rfl rfl rfl rfl rfl (by omega) (by (try simp); omega) (map_at (by simpa using hp)) rfl) ?_
      refine rn rfl ?_
      refine goal_step (step_call [] rfl rfl rfl rfl rfl rfl (isingle_ct p)) ?_
      rintro σ2 ⟨r, o', ⟨rfl, rfl⟩, hσ⟩
      obtain rfl := Option.some.inj hσ
      clear hσ
      refine rn rfl ?_
      refine goal_cond rfl (fun h2 => ?_) (fun h2 => ?_) <;> (try simp only [gt_iff_lt, ge_iff_le, bne_iff_ne, ne_eq, bne_eq_false_iff_eq, beq_iff_eq, beq_eq_false_iff_ne, Bool.not_eq_true', Bool.not_eq_false', decide_eq_true_eq, decide_eq_false_iff_not, List.length_map] at h2)
      · rw [h2]
        exact rn rfl (fin_is [] rfl ⟨rfl, rfl⟩)
      · have hsg : singleQ p = true := by simpa using h2
        rw [hsg]
        have hye := hone hsg
        refine rn rfl ?_
        refine goal_step (step_call [] rfl rfl rfl rfl rfl rfl (hfi)) ?_
        rintro σ2 ⟨r, o', ⟨rfl, rfl⟩, hσ⟩
        obtain rfl := Option.some.inj hσ
        clear hσ
        refine rn rfl ?_
        have hv0 : y.list[0]? = some (hd0 y.list) := by rw [hye]; rfl
        have hyl : y.list.length = 1 := by rw [hye]; rfl
        refine goal_did rfl rfl (dA_index (eL y) rfl rfl rfl rfl rfl rfl rfl (by omega) (by (try simp); omega) (map_at (by simpa using hy)) rfl) ?_
        refine rn rfl ?_
        refine goal_did rfl rfl (dA_index (eI (hd0 y.list)) rfl rfl rfl rfl rfl rfl rfl (by omega) (by rw [List.length_map, hyl]; omega) (map_at hv0) rfl) ?_
        refine rn rfl ?_
        exact rn rfl (fin_is [] rfl ⟨rfl, rfl⟩)

theorem find_self {s : Sig} (hs : OkS s) {i : Nat} {p : Param} (hp : s[i]? = some p) : idxI (qIs p.name) s 0 = (i : Int) := by
  have h1 := (idxI_le (k := 0) (pred := qIs p.name) hp (by simp [qIs])).1
  obtain ⟨q, _, hq, hqn, hlt⟩ := idxI_find h1
  have hqn' : q.name = p.name := by simpa [qIs] using hqn
  have hnd := hs.nodup
  rw [List.nodup_iff_pairwise_ne, List.pairwise_iff_getElem] at hnd
  generalize hj : (idxI (qIs p.name) s 0).toNat = j at hq
  have hjl := lt_of_some hq
  have hil := lt_of_some hp
  have hij : j = i := by
    rcases Nat.lt_trichotomy j i with h | h | h
    · exfalso
      have := hnd j i (by simpa using hjl) (by simpa using hil) h
      simp only [List.getElem_map] at this
      rw [List.getElem?_eq_getElem hjl] at hq
      rw [List.getElem?_eq_getElem hil] at hp
      simp only [Option.some.injEq] at hq hp
      rw [hq, hp] at this
      exact this hqn'
    · exact h
    · exfalso
      have := hnd i j (by simpa using hil) (by simpa using hjl) h
      simp only [List.getElem_map] at this
      rw [List.getElem?_eq_getElem hjl] at hq
      rw [List.getElem?_eq_getElem hil] at hp
      simp only [Option.some.injEq] at hq hp
      rw [hq, hp] at this
      exact this hqn'.symm
  omega

theorem val_at {s : Sig} {b : Bnds} {i : Nat} {p : Param} {y : Slot} (h : VBi s b = true) (hp : s[i]? = some p) (hy : (fillQ s b)[i]? = some y) (hsg : singleQ p = true) : ValF s b p.name = (hd0 y.list, true) := by
  have G := VBi_given h
  have hi := find_self G.sig hp
  unfold ValF
  rw [if_pos h, hi]
  simp only [Int.toNat_natCast, hp, hy]
  simp [hsg]

theorem fnFillDefaults_ct (bs : Str) (hl : bs.length ≤ 9223372036854775807) : ACalls pk 5 [.one (.fs (bs.map rowB))] [] (fun r o => r = .one (.bool true) ∧ o = []) := by
  refine acalls_of_body Tryz.func5 rfl (by kernel_rfl) rfl ?_
  refine rn rfl ?_
  refine goal_cond rfl (fun h => ?_) (fun h => ?_) <;> (try simp only [gt_iff_lt, ge_iff_le, bne_iff_ne, ne_eq, bne_eq_false_iff_eq, beq_iff_eq, beq_eq_false_iff_ne, Bool.not_eq_true', Bool.not_eq_false', decide_eq_true_eq, decide_eq_false_iff_not, List.length_map] at h)
  · exact rn rfl (fin_is [] rfl ⟨rfl, rfl⟩)
  · refine rn rfl ?_
    refine goal_step (step_call [] rfl rfl rfl rfl rfl rfl (drawFill_ct bs)) ?_
    rintro σ2 ⟨r, o', ⟨s, b, hs, hb, rfl, rfl⟩, hσ⟩
    obtain rfl := Option.some.inj hσ
    clear hσ
    have ls := hs.lens
    have hsl := hs.len
    have hI := iFill_ct s b ls hb.small
    have hS := sFill_ct s b ls hb.lenB
    have hV := ivalidBinding_ct s b ls hb.small
    have hVal := fun n => iValue_ct s b n ls hb.small
    obtain ⟨f1, f2⟩ := fillF_small (s := s) (b := b)
    have hEq := equalBi_ct (FillF s b) (by omega) (fun x hx => by have := f2 x hx; omega)
    have hF : VBi s b = true → FillF s b = fillQ s b := fun h => if_pos h
    generalize FillF s b = F at *
    refine rn rfl ?_
    refine goal_step (step_call [] rfl rfl rfl rfl rfl rfl (hI)) ?_
    rintro σ2 ⟨r, o', ⟨rfl, rfl⟩, hσ⟩
    obtain rfl := Option.some.inj hσ
    clear hσ
    refine rn rfl ?_
    refine rn rfl ?_
    refine goal_draw' [0, 1, 2] 12 rfl ?_
    refine drn [0, 1, 2] (by kernel_rfl) (by kernel_rfl) rfl rfl ?_
    refine AH_one (i := 3) (by kernel_rfl) (step_call [] rfl rfl rfl rfl rfl rfl (hS)) (by simp) ?_
    rintro σ2 ⟨r, o', ⟨rfl, rfl⟩, hσ⟩
    obtain rfl := Option.some.inj hσ
    clear hσ
    refine AH_one (i := 4) (by kernel_rfl) (step_call [] rfl rfl rfl rfl rfl rfl (hEq)) (by simp) ?_
    rintro σ2 ⟨r, o', ⟨rfl, rfl⟩, hσ⟩
    obtain rfl := Option.some.inj hσ
    clear hσ
    refine drn [5, 6] (by kernel_rfl) (by kernel_rfl) rfl rfl ?_
    refine AH_guard (i := 7) rfl rfl rfl (fun h1 => ?_) (fun h1 => ?_) <;> (try simp only [gt_iff_lt, ge_iff_le, bne_iff_ne, ne_eq, bne_eq_false_iff_eq, beq_iff_eq, beq_eq_false_iff_ne, Bool.not_eq_true', Bool.not_eq_false', decide_eq_true_eq, decide_eq_false_iff_not, List.length_map] at h1)
    · exact absurd h1 (by simp)
    · refine drn [7, 8] (by kernel_rfl) (by kernel_rfl) rfl rfl ?_
      refine AH_one (i := 9) (by kernel_rfl) (step_call [] rfl rfl rfl rfl rfl rfl (hV)) (by simp) ?_
      rintro σ2 ⟨r, o', ⟨rfl, rfl⟩, hσ⟩
      obtain rfl := Option.some.inj hσ
      clear hσ
      refine drn [10, 11] (by kernel_rfl) (by kernel_rfl) rfl rfl ?_
      refine AH_end (by kernel_rfl) ?_
      refine rn rfl ?_
      refine goal_cond rfl (fun h2 => ?_) (fun h2 => ?_)
      · refine rn rfl ?_
        refine goal_draw' [0, 1, 2] 6 rfl ?_
        refine drn [0, 1, 2] (by kernel_rfl) (by kernel_rfl) rfl rfl ?_
        refine AH_one (i := 3) (by kernel_rfl) (step_call [] rfl rfl rfl rfl rfl rfl (hS)) (by simp) ?_
        rintro σ2 ⟨r, o', ⟨rfl, rfl⟩, hσ⟩
        obtain rfl := Option.some.inj hσ
        clear hσ
        refine AH_one (i := 4) (by kernel_rfl) (step_call [] rfl rfl rfl rfl rfl rfl (hEq)) (by simp) ?_
        rintro σ2 ⟨r, o', ⟨rfl, rfl⟩, hσ⟩
        obtain rfl := Option.some.inj hσ
        clear hσ
        refine drn [5] (by kernel_rfl) (by kernel_rfl) rfl rfl ?_
        refine AH_end (by kernel_rfl) ?_
        refine rn rfl ?_
        exact rn rfl (fin_is [] rfl ⟨rfl, rfl⟩)
      · have hv : VBi s b = true := by simpa using h2
        have hFq := hF hv
        obtain ⟨v1, v2, v3⟩ := vb_small hv
        have hFl : F.length = s.length := by rw [hFq]; exact fillQ_len v1
        refine rn rfl ?_
        refine goal_loop_keep (fun m σ => ∃ (q : Int) (i : Nat), q = i ∧ i ≤ s.length ∧ m = s.length - i ∧
            σ = ⟨[(6, .one (.int .i64 q)), (5, .one (.op 2 0 0)), (4, .one (.op 1 0 0)), (3, .one (.op 0 0 0))],
              [some ⟨1, [eG s], false, false, true⟩, some ⟨1, [eBi b], false, false, true⟩, some ⟨1, [eBi F], false, false, true⟩], []⟩) s.length [6, 5, 4, 3] [0, 1, 2] rfl
          ⟨_, 0, rfl, by omega, by omega, rfl⟩ ?_
        rintro m σ ⟨q, i, rfl, hi, rfl, rfl⟩
        refine rn rfl ?_
        refine goal_cond rfl (fun h3 => ?_) (fun h3 => ?_) <;> (try simp only [gt_iff_lt, ge_iff_le, bne_iff_ne, ne_eq, bne_eq_false_iff_eq, beq_iff_eq, beq_eq_false_iff_ne, Bool.not_eq_true', Bool.not_eq_false', decide_eq_true_eq, decide_eq_false_iff_not, List.length_map] at h3)
        · obtain ⟨p, hp⟩ := at_some (xs := s) (i := i) (by omega)
          obtain ⟨x, hx⟩ := at_some (xs := b) (i := i) (by omega)
          obtain ⟨y, hy⟩ := at_some (xs := F) (i := i) (by omega)
          refine rn rfl ?_
          refine goal_did rfl rfl (dA_index (eQ p) rfl rfl rfl rfl rfl rfl rfl (by omega) (by (try simp); omega) (map_at (by simpa using hp)) rfl) ?_
          refine rn rfl ?_
          refine goal_step (step_call [] rfl rfl rfl rfl rfl rfl (lawSingle_ct p)) ?_
          rintro σ2 ⟨r, o', ⟨rfl, rfl⟩, hσ⟩
          obtain rfl := Option.some.inj hσ
          clear hσ
          refine rn rfl ?_
          refine goal_cond rfl (fun h4 => ?_) (fun h4 => ?_) <;> (try simp only [gt_iff_lt, ge_iff_le, bne_iff_ne, ne_eq, bne_eq_false_iff_eq, beq_iff_eq, beq_eq_false_iff_ne, Bool.not_eq_true', Bool.not_eq_false', decide_eq_true_eq, decide_eq_false_iff_not, List.length_map] at h4)
          · refine rn rfl ?_
            refine round_keep (s.length - (i + 1)) [6, 5, 4, 3] [0, 1, 2] (by omega) rfl ⟨_, i + 1, wrap64 (by omega) (by omega), by omega, rfl, rfl⟩
          · have hsg : singleQ p = true := by simpa using h4
            have hy' : (fillQ s b)[i]? = some y := by rw [← hFq]; exact hy
            have hye := fill_one hv hp hy' hsg
            have hval := val_at hv hp hy' hsg
            have hV2 := hVal p.name
            rw [hval] at hV2
            dsimp only at hV2
            have hfx := fillQ_at hp hx
            rw [hy'] at hfx
            have hyf : y = fill1 p x := by simpa using hfx
            refine rn rfl ?_
            refine goal_step (step_call [] rfl rfl rfl rfl rfl rfl (hV2)) ?_
            rintro σ2 ⟨r, o', ⟨rfl, rfl⟩, hσ⟩
            obtain rfl := Option.some.inj hσ
            clear hσ
            refine rn rfl ?_
            refine goal_guard rfl rfl rfl (fun h5 => by cases h5) (fun _ => ?_)
            have hv0 : y.list[0]? = some (hd0 y.list) := by rw [hye]; rfl
            have hyl : y.list.length = 1 := by rw [hye]; rfl
            have hyg : y.given = true := by rw [hye]
            refine rn rfl ?_
            refine goal_did rfl rfl (dA_index (eL y) rfl rfl rfl rfl rfl rfl rfl (by omega) (by (try simp); omega) (map_at (by simpa using hy)) rfl) ?_
            refine rn rfl ?_
            refine goal_guard rfl rfl rfl (fun h6 => by rw [hyg] at h6; cases h6) (fun _ => ?_)
            refine rn rfl ?_
            refine goal_did rfl rfl (dA_index (eL y) rfl rfl rfl rfl rfl rfl rfl (by omega) (by (try simp); omega) (map_at (by simpa using hy)) rfl) ?_
            refine rn rfl ?_
            refine goal_did rfl rfl (dA_index (eI (hd0 y.list)) rfl rfl rfl rfl rfl rfl rfl (by omega) (by rw [List.length_map, hyl]; omega) (map_at hv0) rfl) ?_
            refine rn rfl ?_
            refine goal_guard rfl rfl rfl (fun h6 => by simp at h6) (fun _ => ?_)
            refine rn rfl ?_
            refine goal_did rfl rfl (dA_index (eL x) rfl rfl rfl rfl rfl rfl rfl (by omega) (by (try simp); omega) (map_at (by simpa using hx)) rfl) ?_
            refine rn rfl ?_
            refine goal_guard rfl rfl rfl (fun h7 => ?_) (fun h7 => ?_) <;> (try simp only [gt_iff_lt, ge_iff_le, bne_iff_ne, ne_eq, bne_eq_false_iff_eq, beq_iff_eq, beq_eq_false_iff_ne, Bool.not_eq_true', Bool.not_eq_false', decide_eq_true_eq, decide_eq_false_iff_not, List.length_map] at h7)
            · have hyd : hd0 y.list = p.dflt := by rw [hyf]; unfold fill1; rw [if_pos (by simp [hsg, h7])]; rfl
              refine rn rfl ?_
              refine goal_cond rfl (fun h8 => by rw [hyd] at h8; simp at h8) (fun _ => ?_)
              refine rn rfl ?_
              refine round_keep (s.length - (i + 1)) [6, 5, 4, 3] [0, 1, 2] (by omega) rfl ⟨_, i + 1, wrap64 (by omega) (by omega), by omega, rfl, rfl⟩
            · refine rn rfl ?_
              refine round_keep (s.length - (i + 1)) [6, 5, 4, 3] [0, 1, 2] (by omega) rfl ⟨_, i + 1, wrap64 (by omega) (by omega), by omega, rfl, rfl⟩
        · refine rn rfl (round_ext ?_)
          refine rn rfl (fin_is [] rfl ⟨?_, rfl⟩)
          simp [hFl, v1]

end Go.Proofs.YtdkfjnledldojaaGreat
