/- Part 3 of the proof: an abstract machine over the model; contracts of the functions that the law reaches. -/
import Derived.Test.YtodggffbepfemaaKDropName2
set_option linter.unusedVariables false
set_option linter.unusedSimpArgs false
namespace Go.Proofs.Ytodggffbepfemaa
open Go
set_option maxRecDepth 100000

theorem dropPair_ct (xs : List Pair) (i : Nat) (hl : xs.length ≤ 1048576) (hi : i < xs.length) :
    ACalls pk 78 [.one (.fs (xs.map eP)), .one (.int .i64 i)] [] (fun r o => r = .one (.os 0 0 (xs.length - 1) (xs.length - 1)) ∧ o = [ownP (xs.take i ++ xs.drop (i + 1))]) := by
  refine acalls_of_body Try.func78 rfl (by kernel_rfl) rfl ?_
  refine rn rfl ?_
  have hw : IntKind.i64.wrap ((i : Int) + 1) = ((i + 1 : Nat) : Int) := by rw [wrap64] <;> omega
  refine goal_draw' [] 11 rfl ?_
  refine drn [1, 2, 5, 6, 7] (by kernel_rfl) (by kernel_rfl) rfl rfl ?_
  refine AH_did 3 rfl (by kernel_rfl) (by kernel_rfl) (by kernel_rfl) rfl rfl (dA_slice 0 i ((xs.take i).map eP) rfl rfl rfl rfl rfl Bnd.none_ (Bnd.some_ rfl rfl) (rows_len eP_len _) (by omega) (by simp; omega) rfl (by simp)) ?_
  refine AH_did 8 rfl (by kernel_rfl) (by kernel_rfl) (by kernel_rfl) rfl rfl (dA_slice (i + 1) xs.length ((xs.drop (i + 1)).map eP) rfl rfl rfl rfl rfl (Bnd.some_ rfl hw) (by simp [Bnd]) (rows_len eP_len _) (by omega) (by simp) rfl (tailRows (Nat.le_refl _))) ?_
  refine AH_oneDid 0 rfl (by kernel_rfl) rfl (dA_step rfl) (mdOk rfl) ?_
  refine AH_oneDid 4 rfl (by kernel_rfl) rfl (dA_append (old := []) ((xs.take i).map eP) i true (Dst.own rfl rfl rfl rfl rfl (Nat.le_refl 0) rfl) (Src.fs rfl) rfl rfl rfl rfl rfl rfl rfl rfl (by simp) (rows_len eP_len _) (by simp only [List.length_map, List.length_nil, List.length_take]; show _ * 24 ≤ _; omega) (by simp; omega) rfl (by simp; omega) (fun _ => noOwnR_map _ eP_noOwn _)) (mdOk rfl) ?_
  refine AH_oneDid 9 rfl (by kernel_rfl) rfl (dA_append (old := (xs.take i).map eP) (rows := (xs.drop (i + 1)).map eP) ((xs.take i ++ xs.drop (i + 1)).map eP) (xs.length - 1) true (Dst.own rfl rfl rfl rfl rfl (by simp; omega) (whole (by simp; omega))) (Src.fs rfl) rfl rfl rfl rfl rfl rfl rfl rfl (rows_len eP_len _) (rows_len eP_len _) (by simp only [List.length_map, List.length_take, List.length_drop]; show _ * 24 ≤ _; omega) (by simp; omega) (by simp) (by simp; omega) (fun _ => noOwnR_map _ eP_noOwn _)) (mdOk rfl) ?_
  refine drn [10] (by kernel_rfl) (by kernel_rfl) rfl rfl ?_
  refine AH_end (by kernel_rfl) ?_
  exact rn rfl (fin_is [2] rfl ⟨rfl, rfl⟩)

/-- A flat without a name, and whether it had it. -/
def dropF (f : Flat) (n : Str) : Flat × Bool :=
  if okFlat f && f.named.any (nameIs n) then (⟨f.places, f.named.take (f.named.findIdx (nameIs n)) ++ f.named.drop (f.named.findIdx (nameIs n) + 1)⟩, true) else (zF, false)

theorem pairIx_some {ps : List Pair} {n : Str} (h : ps.any (nameIs n) = true) : pairIx ps n = (ps.findIdx (nameIs n) : Nat) ∧ ps.findIdx (nameIs n) < ps.length := by
  refine ⟨by rw [pairIx, idxI_some h]; simp, ?_⟩
  rw [List.findIdx_lt_length]
  simpa using h

theorem copyFlat_ct (f : Flat) (h1 : f.places.length ≤ 2097152) (h2 : f.named.length ≤ 2097152) :
    ACalls pk 77 [.agg (eF f)] [] (fun r o => r = rF f ∧ o = oF f) := by
  refine acalls_of_body Try.func77 rfl (by kernel_rfl) rfl ?_
  refine rn rfl ?_
  refine goal_draw' [0] 10 rfl ?_
  refine drn [1, 2, 5, 6] (by kernel_rfl) (by kernel_rfl) rfl rfl ?_
  refine AH_two (i := 0) (j := 4) (by kernel_rfl) (step_did rfl rfl (dA_step rfl)) (mdOk rfl) (step_did rfl rfl (dA_step rfl)) (mdOk rfl) ?_ ?_ <;> rintro _ rfl
  · refine AH_two (i := 3) (j := 4) (by kernel_rfl) (step_did rfl rfl (dA_append (old := []) (f.places.map eI) f.places.length true (Dst.own rfl rfl rfl rfl rfl (Nat.le_refl 0) rfl) (Src.fs rfl) rfl rfl rfl rfl rfl rfl rfl rfl (by simp) (rows_len eI_len _) (by simp only [List.length_map, List.length_nil]; show _ * 8 ≤ _; omega) (by simp; omega) rfl (by simp) (fun _ => noOwnR_map _ eI_noOwn _))) (mdOk rfl) (step_did rfl rfl (dA_step rfl)) (mdOk rfl) ?_ ?_ <;> rintro _ rfl
    · refine AH_oneDid 4 rfl (by kernel_rfl) rfl (dA_step rfl) (mdOk rfl) ?_
      refine AH_oneDid 7 rfl (by kernel_rfl) rfl (dA_append (old := []) (f.named.map eP) f.named.length true (Dst.own rfl rfl rfl rfl rfl (Nat.le_refl 0) rfl) (Src.fs rfl) rfl rfl rfl rfl rfl rfl rfl rfl (by simp) (rows_len eP_len _) (by simp only [List.length_map, List.length_nil]; show _ * 24 ≤ _; omega) (by simp; omega) rfl (by simp) (fun _ => noOwnR_map _ eP_noOwn _)) (mdOk rfl) ?_
      refine drn [8] (by kernel_rfl) (by kernel_rfl) rfl rfl ?_
      refine AH_oneDid 9 rfl (by kernel_rfl) rfl (dA_step rfl) (mdOk rfl) ?_
      refine AH_end (by kernel_rfl) ?_
      exact rn rfl (fin_is [3, 5] rfl ⟨rfl, rfl⟩)
    · refine AH_oneDid 3 rfl (by kernel_rfl) rfl (dA_append (old := []) (f.places.map eI) f.places.length true (Dst.own rfl rfl rfl rfl rfl (Nat.le_refl 0) rfl) (Src.fs rfl) rfl rfl rfl rfl rfl rfl rfl rfl (by simp) (rows_len eI_len _) (by simp only [List.length_map, List.length_nil]; show _ * 8 ≤ _; omega) (by simp; omega) rfl (by simp) (fun _ => noOwnR_map _ eI_noOwn _)) (mdOk rfl) ?_
      refine AH_oneDid 7 rfl (by kernel_rfl) rfl (dA_append (old := []) (f.named.map eP) f.named.length true (Dst.own rfl rfl rfl rfl rfl (Nat.le_refl 0) rfl) (Src.fs rfl) rfl rfl rfl rfl rfl rfl rfl rfl (by simp) (rows_len eP_len _) (by simp only [List.length_map, List.length_nil]; show _ * 24 ≤ _; omega) (by simp; omega) rfl (by simp) (fun _ => noOwnR_map _ eP_noOwn _)) (mdOk rfl) ?_
      refine drn [8] (by kernel_rfl) (by kernel_rfl) rfl rfl ?_
      refine AH_oneDid 9 rfl (by kernel_rfl) rfl (dA_step rfl) (mdOk rfl) ?_
      refine AH_end (by kernel_rfl) ?_
      exact rn rfl (fin_is [4, 5] rfl ⟨rfl, rfl⟩)
  · refine AH_oneDid 0 rfl (by kernel_rfl) rfl (dA_step rfl) (mdOk rfl) ?_
    refine AH_oneDid 3 rfl (by kernel_rfl) rfl (dA_append (old := []) (f.places.map eI) f.places.length true (Dst.own rfl rfl rfl rfl rfl (Nat.le_refl 0) rfl) (Src.fs rfl) rfl rfl rfl rfl rfl rfl rfl rfl (by simp) (rows_len eI_len _) (by simp only [List.length_map, List.length_nil]; show _ * 8 ≤ _; omega) (by simp; omega) rfl (by simp) (fun _ => noOwnR_map _ eI_noOwn _)) (mdOk rfl) ?_
    refine AH_oneDid 7 rfl (by kernel_rfl) rfl (dA_append (old := []) (f.named.map eP) f.named.length true (Dst.own rfl rfl rfl rfl rfl (Nat.le_refl 0) rfl) (Src.fs rfl) rfl rfl rfl rfl rfl rfl rfl rfl (by simp) (rows_len eP_len _) (by simp only [List.length_map, List.length_nil]; show _ * 24 ≤ _; omega) (by simp; omega) rfl (by simp) (fun _ => noOwnR_map _ eP_noOwn _)) (mdOk rfl) ?_
    refine drn [8] (by kernel_rfl) (by kernel_rfl) rfl rfl ?_
    refine AH_oneDid 9 rfl (by kernel_rfl) rfl (dA_step rfl) (mdOk rfl) ?_
    refine AH_end (by kernel_rfl) ?_
    exact rn rfl (fin_is [4, 5] rfl ⟨rfl, rfl⟩)

theorem adF (f : Flat) (i : Nat) (hi : i < f.named.length) : [T.one (C.fs (List.take (f.named.length - 1) (List.drop 0 ((f.named.take i ++ f.named.drop (i + 1) ++ [zP]).map eP))))] = [T.one (C.fs ((f.named.take i ++ f.named.drop (i + 1)).map eP))] := by
  rw [List.drop_zero, ← List.map_take, List.take_append_of_le_length (by simp; omega), List.take_of_length_le (by simp; omega)]

theorem idropName_ct (f : Flat) (n : Str) (h1 : f.places.length ≤ 1048576) (h2 : f.named.length ≤ 1048576) (hn : ∀ p ∈ f.named, p.name.length ≤ 9223372036854775807) :
    ACalls pk 19 [.agg (eF f), .one (.str n)] [] (fun r o => r = .tup [rF (dropF f n).1, .one (.bool (dropF f n).2)] ∧ o = oF (dropF f n).1) := by
  refine acalls_of_body Try.func19 rfl (by kernel_rfl) rfl ?_
  refine rn rfl ?_
  refine goal_step (step_call [] rfl rfl rfl rfl rfl rfl (ipairAt_ct f.named n (by omega))) ?_
  rintro σ2 ⟨r, o', ⟨rfl, rfl⟩, hσ⟩
  obtain rfl := Option.some.inj hσ
  clear hσ
  refine rn rfl ?_
  refine goal_step (step_call [] rfl rfl rfl rfl rfl rfl (ivalidFlat_ct f (by omega) (by omega) hn)) ?_
  rintro σ2 ⟨r, o', ⟨rfl, rfl⟩, hσ⟩
  obtain rfl := Option.some.inj hσ
  clear hσ
  refine rn rfl ?_
  refine goal_guard rfl rfl rfl (fun h => ?_) (fun h => ?_) <;> simp only [Bool.not_eq_true', Bool.not_eq_false'] at h
  · refine rn rfl ?_
    refine goal_condT rfl ?_
    refine rn rfl ?_
    refine fin_weak (Weak.adoptO 1 0 1) (fin_weak (Weak.adoptO 1 1 2) (fin_is [2, 3] rfl ⟨?_, ?_⟩))
    · simp [dropF, h]; rfl
    · simp [dropF, h]; rfl
  · refine rn rfl ?_
    refine goal_cond rfl (fun h3 => ?_) (fun h3 => ?_) <;> simp only [decide_eq_true_eq, decide_eq_false_iff_not] at h3
    · have hno : f.named.any (nameIs n) = false := by
        cases hb : f.named.any (nameIs n) with
        | false => rfl
        | true => have := (pairIx_some hb).1; omega
      refine rn rfl ?_
      refine fin_weak (Weak.adoptO 1 0 1) (fin_weak (Weak.adoptO 1 1 2) (fin_is [2, 3] rfl ⟨?_, ?_⟩))
      · simp [dropF, hno]; rfl
      · simp [dropF, hno]; rfl
    · have hyes : f.named.any (nameIs n) = true := by
        rw [any_nameIs, ← pairIx_ge]; omega
      obtain ⟨hix, hlt⟩ := pairIx_some hyes
      have hd : dropF f n = (⟨f.places, f.named.take (f.named.findIdx (nameIs n)) ++ f.named.drop (f.named.findIdx (nameIs n) + 1)⟩, true) := by simp [dropF, h, hyes]
      rw [hd]
      generalize hi : f.named.findIdx (nameIs n) = i at *
      rw [hix]
      refine rn rfl ?_
      refine goal_step (step_call [] rfl rfl rfl rfl rfl rfl (copyOf_ct f (by omega) (by omega))) ?_
      rintro σ2 ⟨r, o', ⟨rfl, rfl⟩, hσ⟩
      obtain rfl := Option.some.inj hσ
      clear hσ
      have hw : IntKind.i64.wrap ((i : Int) + 1) = (i : Int) + 1 := by rw [wrap64] <;> omega
      refine rn rfl ?_
      refine goal_step (step_callE [3] rfl rfl rfl rfl rfl rfl (by rw [hw]; rfl) (delete_ct f.named i f.named.length h2 hlt (Nat.le_refl _))) ?_
      rintro σ2 ⟨r, o', ⟨rfl, rfl⟩, hσ⟩
      obtain rfl := Option.some.inj hσ
      clear hσ
      refine goal_step (step_callE [] rfl rfl rfl rfl rfl rfl (adF f i hlt) (clonPair_ct (f.named.take i ++ f.named.drop (i + 1)) (by simp; omega))) ?_
      rintro σ2 ⟨r, o', ⟨rfl, rfl⟩, hσ⟩
      obtain rfl := Option.some.inj hσ
      clear hσ
      exact rn rfl (fin_is [2, 5] rfl ⟨rfl, rfl⟩)

theorem sdropName_ct (f : Flat) (n : Str) (h1 : f.places.length ≤ 1048576) (h2 : f.named.length ≤ 1048576) (hn : ∀ p ∈ f.named, p.name.length ≤ 9223372036854775807) :
    ACalls pk 20 [.agg (eF f), .one (.str n)] [] (fun r o => r = .tup [rF (dropF f n).1, .one (.bool (dropF f n).2)] ∧ o = oF (dropF f n).1) := by
  refine acalls_of_body Try.func20 rfl (by kernel_rfl) rfl ?_
  refine rn rfl ?_
  refine goal_step (step_call [] rfl rfl rfl rfl rfl rfl (spairAt_ct f.named n (by omega))) ?_
  rintro σ2 ⟨r, o', ⟨rfl, rfl⟩, hσ⟩
  obtain rfl := Option.some.inj hσ
  clear hσ
  refine rn rfl ?_
  refine goal_step (step_call [] rfl rfl rfl rfl rfl rfl (svalidFlat_ct f (by omega) (by omega) hn)) ?_
  rintro σ2 ⟨r, o', ⟨rfl, rfl⟩, hσ⟩
  obtain rfl := Option.some.inj hσ
  clear hσ
  refine rn rfl ?_
  refine goal_guard rfl rfl rfl (fun h => ?_) (fun h => ?_) <;> simp only [Bool.not_eq_true', Bool.not_eq_false'] at h
  · refine rn rfl ?_
    refine goal_condT rfl ?_
    refine rn rfl ?_
    refine fin_weak (Weak.adoptO 1 0 1) (fin_weak (Weak.adoptO 1 1 2) (fin_is [2, 3] rfl ⟨?_, ?_⟩))
    · simp [dropF, h]; rfl
    · simp [dropF, h]; rfl
  · refine rn rfl ?_
    refine goal_cond rfl (fun h3 => ?_) (fun h3 => ?_) <;> simp only [decide_eq_true_eq, decide_eq_false_iff_not] at h3
    · have hno : f.named.any (nameIs n) = false := by
        cases hb : f.named.any (nameIs n) with
        | false => rfl
        | true => have := (pairIx_some hb).1; omega
      refine rn rfl ?_
      refine fin_weak (Weak.adoptO 1 0 1) (fin_weak (Weak.adoptO 1 1 2) (fin_is [2, 3] rfl ⟨?_, ?_⟩))
      · simp [dropF, hno]; rfl
      · simp [dropF, hno]; rfl
    · have hyes : f.named.any (nameIs n) = true := by
        rw [any_nameIs, ← pairIx_ge]; omega
      obtain ⟨hix, hlt⟩ := pairIx_some hyes
      have hd : dropF f n = (⟨f.places, f.named.take (f.named.findIdx (nameIs n)) ++ f.named.drop (f.named.findIdx (nameIs n) + 1)⟩, true) := by simp [dropF, h, hyes]
      rw [hd]
      generalize hi : f.named.findIdx (nameIs n) = i at *
      rw [hix]
      refine rn rfl ?_
      refine goal_step (step_call [] rfl rfl rfl rfl rfl rfl (copyFlat_ct f (by omega) (by omega))) ?_
      rintro σ2 ⟨r, o', ⟨rfl, rfl⟩, hσ⟩
      obtain rfl := Option.some.inj hσ
      clear hσ
      refine rn rfl ?_
      have hfr : [T.one (C.fs (List.take f.named.length (List.drop 0 (f.named.map eP)))), T.one (.int .i64 i)] = [T.one (C.fs (f.named.map eP)), T.one (.int .i64 i)] := by simp [List.take_of_length_le]
      refine goal_step (step_callE [] rfl rfl rfl rfl rfl rfl hfr (dropPair_ct f.named i h2 hlt)) ?_
      rintro σ2 ⟨r, o', ⟨rfl, rfl⟩, hσ⟩
      obtain rfl := Option.some.inj hσ
      clear hσ
      have hlen : (f.named.take i ++ f.named.drop (i + 1)).length = f.named.length - 1 := by simp; omega
      exact rn rfl (fin_is [2, 5] rfl ⟨by simp only [rF, hlen]; done, rfl⟩)

def putP (ps : List Pair) (n : Str) (v : Int) : List Pair :=
  if ps.any (nameIs n) then ps.modify (ps.findIdx (nameIs n)) (fun p => ⟨p.name, v⟩) else ps ++ [⟨n, v⟩]

def putF (f : Flat) (n : Str) (v : Int) : Flat := ⟨f.places, putP f.named n v⟩

theorem modify_set {ps : List Pair} {i : Nat} {p : Pair} (v : Int) (h : ps[i]? = some p) : ps.modify i (fun p => ⟨p.name, v⟩) = ps.set i ⟨p.name, v⟩ := by
  apply List.ext_getElem?
  intro j
  rw [List.getElem?_modify, List.getElem?_set]
  by_cases hj : i = j
  · subst hj
    rw [h, if_pos rfl, if_pos (lt_of_some h)]; simp
  · simp [hj]

theorem put_ct (f : Flat) (n : Str) (v : Int) (h1 : f.places.length ≤ 1048576) (h2 : f.named.length ≤ 1048576) :
    ACalls pk 82 [.agg (eF f), .one (.str n), .one (.int .i64 v)] [] (fun r o => r = rF (putF f n v) ∧ o = oF (putF f n v)) := by
  refine acalls_of_body Try.func82 rfl (by kernel_rfl) rfl ?_
  refine rn rfl ?_
  refine goal_step (step_call [] rfl rfl rfl rfl rfl rfl (copyOf_ct f (by omega) (by omega))) ?_
  rintro σ2 ⟨r, o', ⟨rfl, rfl⟩, hσ⟩
  obtain rfl := Option.some.inj hσ
  clear hσ
  refine rn rfl ?_
  have hfr : [T.one (C.fs (List.take f.named.length (List.drop 0 (f.named.map eP)))), T.one (.str n)] = [T.one (C.fs (f.named.map eP)), T.one (.str n)] := by simp [List.take_of_length_le]
  refine goal_step (step_lendE [] rfl rfl rfl rfl rfl rfl rfl hfr (ipairAt_ct f.named n (by omega)) (by rintro r o ⟨rfl, rfl⟩; exact ⟨rfl, rfl⟩)) ?_
  rintro σ2 ⟨r, o', ⟨rfl, rfl⟩, hσ⟩
  obtain rfl := Option.some.inj hσ
  clear hσ
  refine rn rfl ?_
  refine goal_cond rfl (fun h => ?_) (fun h => ?_) <;> simp only [ge_iff_le, decide_eq_true_eq, decide_eq_false_iff_not] at h
  · have hyes : f.named.any (nameIs n) = true := by rw [any_nameIs, ← pairIx_ge]; omega
    obtain ⟨hix, hlt⟩ := pairIx_some hyes
    generalize hi : f.named.findIdx (nameIs n) = i at *
    obtain ⟨p, hp⟩ := at_some hlt
    have hput : putF f n v = ⟨f.places, f.named.set i ⟨p.name, v⟩⟩ := by simp only [putF, putP, hyes, if_true, hi, modify_set v hp]
    rw [hput, hix]
    refine rn rfl ?_
    refine goal_did rfl rfl (dA_indexOwn rfl rfl rfl rfl rfl rfl rfl rfl rfl (by omega) (by omega)) ?_
    refine goal_did rfl rfl (dA_step rfl) ?_
    refine goal_did rfl rfl (dA_storeEl (eP p) ((f.named.set i ⟨p.name, v⟩).map eP) true rfl rfl rfl rfl rfl (map_at (by simpa using hp)) rfl rfl (by simp [eP]) (by rw [map_set]; simp [patch, eP]) (fun _ => noOwnR_map _ eP_noOwn _)) ?_
    exact rn rfl (fin_is [2, 3] rfl ⟨by simp only [rF, List.length_set]; done, rfl⟩)
  · have hno : f.named.any (nameIs n) = false := by
      cases hb : f.named.any (nameIs n) with
      | false => rfl
      | true => have := (pairIx_some hb).1; omega
    have hput : putF f n v = ⟨f.places, f.named ++ [⟨n, v⟩]⟩ := by simp [putF, putP, hno]
    rw [hput]
    refine rn rfl ?_
    refine goal_did rfl rfl (dA_append (old := f.named.map eP) (rows := [(⟨n, v⟩ : Pair)].map eP) ((f.named ++ [(⟨n, v⟩ : Pair)]).map eP) (f.named.length + 1) true (Dst.own rfl rfl rfl rfl rfl (by simp) (whole (by simp))) (Src.os rfl rfl (Nat.le_refl 1) rfl) rfl rfl rfl rfl rfl rfl rfl rfl (rows_len eP_len _) (rows_len eP_len _) (by simp only [List.length_map, List.length_cons, List.length_nil]; show _ * 24 ≤ _; omega) (by simp; omega) (by simp) (by simp) (fun _ => noOwnR_map _ eP_noOwn _)) ?_
    exact rn rfl (fin_is [2, 6] rfl ⟨by simp only [rF, List.length_append, List.length_cons, List.length_nil]; done, rfl⟩)

/-- A flat if it is valid, and whether it is. -/
def checkF (f : Flat) (ok : Bool) : Flat × Bool := if ok && okFlat f then (f, true) else (zF, false)

theorem checked_ct (f : Flat) (ok : Bool) (h1 : f.places.length ≤ 2097152) (h2 : f.named.length ≤ 2097152) (hn : ∀ p ∈ f.named, p.name.length ≤ 9223372036854775807) :
    ACalls pk 81 [.agg (eF f), .one (.bool ok)] [] (fun r o => r = .tup [rF (checkF f ok).1, .one (.bool (checkF f ok).2)] ∧ o = oF (checkF f ok).1) := by
  refine acalls_of_body Try.func81 rfl (by kernel_rfl) rfl ?_
  refine rn rfl ?_
  refine goal_guard rfl rfl rfl (fun h => ?_) (fun h => ?_) <;> simp only [Bool.not_eq_true', Bool.not_eq_false'] at h
  · refine rn rfl ?_
    refine goal_condT rfl ?_
    refine rn rfl ?_
    refine fin_weak (Weak.adoptO 1 0 1) (fin_weak (Weak.adoptO 1 1 2) (fin_is [2, 3] rfl ⟨?_, ?_⟩))
    · simp [checkF, h]; rfl
    · simp [checkF, h]; rfl
  · refine rn rfl ?_
    refine goal_step (step_call [] rfl rfl rfl rfl rfl rfl (ivalidFlat_ct f h1 h2 hn)) ?_
    rintro σ2 ⟨r, o', ⟨rfl, rfl⟩, hσ⟩
    obtain rfl := Option.some.inj hσ
    clear hσ
    refine rn rfl ?_
    refine goal_cond rfl (fun h3 => ?_) (fun h3 => ?_) <;> simp only [Bool.not_eq_true', Bool.not_eq_false'] at h3
    · refine rn rfl ?_
      refine fin_weak (Weak.adoptO 1 0 1) (fin_weak (Weak.adoptO 1 1 2) (fin_is [2, 3] rfl ⟨?_, ?_⟩))
      · simp [checkF, h3]; rfl
      · simp [checkF, h3]; rfl
    · refine rn rfl ?_
      refine goal_step (step_call [] rfl rfl rfl rfl rfl rfl (copyOf_ct f h1 h2)) ?_
      rintro σ2 ⟨r, o', ⟨rfl, rfl⟩, hσ⟩
      obtain rfl := Option.some.inj hσ
      clear hσ
      have hc : checkF f ok = (f, true) := by simp [checkF, h, h3]
      rw [hc]
      exact rn rfl (fin_is [2, 3] rfl ⟨rfl, rfl⟩)

theorem asFb (f : Flat) (b : Bool) : [T.agg [C.fs (List.take f.places.length (List.drop 0 (f.places.map eI))), C.fs (List.take f.named.length (List.drop 0 (f.named.map eP)))], T.one (.bool b)] = [T.agg (eF f), T.one (.bool b)] := by
  simp [eF, List.take_of_length_le]

theorem putP_length (ps : List Pair) (n : Str) (v : Int) : (putP ps n v).length ≤ ps.length + 1 := by
  unfold putP; split <;> simp

theorem putP_mem {ps : List Pair} {n : Str} {v : Int} {p : Pair} (h : p ∈ putP ps n v) : p.name = n ∨ ∃ q ∈ ps, p.name = q.name := by
  unfold putP at h
  split at h
  · rename_i hy
    obtain ⟨j, hj⟩ := List.getElem?_of_mem h
    rw [List.getElem?_modify] at hj
    cases hq : ps[j]? with
    | none => rw [hq] at hj; simp at hj
    | some q =>
      rw [hq] at hj
      right
      refine ⟨q, List.mem_of_getElem? hq, ?_⟩
      simp at hj
      split at hj <;> (subst hj; rfl)
  · rcases List.mem_append.1 h with h | h
    · exact .inr ⟨p, h, rfl⟩
    · simp at h; subst h; exact .inl rfl

def putNameF (f : Flat) (n : Str) (v : Int) : Flat × Bool := checkF (putF f n v) (okFlat f)

theorem putName_ct (f : Flat) (n : Str) (v : Int) (h1 : f.places.length ≤ 1048576) (h2 : f.named.length ≤ 1048576) (hn : ∀ p ∈ f.named, p.name.length ≤ 9223372036854775807) (hnn : n.length ≤ 9223372036854775807) :
    ACalls pk 22 [.agg (eF f), .one (.str n), .one (.int .i64 v)] [] (fun r o => r = .tup [rF (putNameF f n v).1, .one (.bool (putNameF f n v).2)] ∧ o = oF (putNameF f n v).1) := by
  refine acalls_of_body Try.func22 rfl (by kernel_rfl) rfl ?_
  refine rn rfl ?_
  have hlen := putP_length f.named n v
  have hn' : ∀ p ∈ (putF f n v).named, p.name.length ≤ 9223372036854775807 := by
    intro p hp
    rcases putP_mem hp with h | ⟨q, hq, h⟩
    · rw [h]; exact hnn
    · rw [h]; exact hn q hq
  refine goal_draw' [0] 11 rfl ?_
  refine drn [0, 1, 2, 4] (by kernel_rfl) (by kernel_rfl) rfl rfl ?_
  refine AH_one (i := 3) (by kernel_rfl) (step_call [] rfl rfl rfl rfl rfl rfl (put_ct f n v h1 h2)) (by simp) ?_
  rintro σ2 ⟨r, o', ⟨rfl, rfl⟩, hσ⟩
  obtain rfl := Option.some.inj hσ
  clear hσ
  refine AH_one (i := 5) (by kernel_rfl) (step_call [] rfl rfl rfl rfl rfl rfl (ivalidFlat_ct f (by omega) (by omega) hn)) (by simp) ?_
  rintro σ2 ⟨r, o', ⟨rfl, rfl⟩, hσ⟩
  obtain rfl := Option.some.inj hσ
  clear hσ
  refine AH_one (i := 6) (by kernel_rfl) (step_callE [] rfl rfl rfl rfl rfl rfl (asFb (putF f n v) _) (checked_ct (putF f n v) (okFlat f) (by show f.places.length ≤ _; omega) (by show (putP f.named n v).length ≤ _; omega) hn')) (by simp) ?_
  rintro σ2 ⟨r, o', ⟨rfl, rfl⟩, hσ⟩
  obtain rfl := Option.some.inj hσ
  clear hσ
  refine drn [7, 8] (by kernel_rfl) (by kernel_rfl) rfl rfl ?_
  refine AH_oneDid 9 rfl (by kernel_rfl) rfl (dA_step rfl) (mdOk rfl) ?_
  refine drn [10] (by kernel_rfl) (by kernel_rfl) rfl rfl ?_
  refine AH_end (by kernel_rfl) ?_
  exact rn rfl (fin_is [4, 5] rfl ⟨rfl, rfl⟩)

def sameF (f g : Flat) : Bool := okFlat f && okFlat g && decide (f.places = g.places) && decide (isortL ltN f.named = isortL ltN g.named)

theorem okFlat_le {f : Flat} (h : okFlat f = true) : f.places.length ≤ 8 ∧ f.named.length ≤ 8 := by
  simp [okFlat] at h
  exact ⟨h.1.2, h.2⟩

theorem sameFlat_ct (f g : Flat) (h1 : f.places.length ≤ 2097152) (h2 : f.named.length ≤ 2097152) (hn : ∀ p ∈ f.named, p.name.length ≤ 9223372036854775807)
    (g1 : g.places.length ≤ 2097152) (g2 : g.named.length ≤ 2097152) (gn : ∀ p ∈ g.named, p.name.length ≤ 9223372036854775807) :
    ACalls pk 23 [.agg (eF f), .agg (eF g)] [] (fun r o => r = .one (.bool (sameF f g)) ∧ o = []) := by
  refine acalls_of_body Try.func23 rfl (by kernel_rfl) rfl ?_
  refine rn rfl ?_
  refine goal_draw' [0, 1] 23 rfl ?_
  refine drn [0] (by kernel_rfl) (by kernel_rfl) rfl rfl ?_
  refine AH_one (i := 1) (by kernel_rfl) (step_call [] rfl rfl rfl rfl rfl rfl (ivalidFlat_ct f h1 h2 hn)) (by simp) ?_
  rintro σ2 ⟨r, o', ⟨rfl, rfl⟩, hσ⟩
  obtain rfl := Option.some.inj hσ
  clear hσ
  refine drn [2] (by kernel_rfl) (by kernel_rfl) rfl rfl ?_
  refine AH_guard (i := 3) rfl rfl rfl (fun a1 => ?_) (fun a1 => ?_)
  · refine drn [3] (by kernel_rfl) (by kernel_rfl) rfl rfl ?_
    refine AH_one (i := 4) (by kernel_rfl) (step_call [] rfl rfl rfl rfl rfl rfl (ivalidFlat_ct g g1 g2 gn)) (by simp) ?_
    rintro σ2 ⟨r, o', ⟨rfl, rfl⟩, hσ⟩
    obtain rfl := Option.some.inj hσ
    clear hσ
    refine drn [5, 6] (by kernel_rfl) (by kernel_rfl) rfl rfl ?_
    refine AH_guard (i := 7) rfl rfl rfl (fun a2 => ?_) (fun a2 => ?_)
    · have l1 := okFlat_le a1
      have l2 := okFlat_le a2
      refine drn [7, 8, 9, 10] (by kernel_rfl) (by kernel_rfl) rfl rfl ?_
      refine AH_one (i := 11) (by kernel_rfl) (step_call [] rfl rfl rfl rfl rfl rfl (libEqualI_ct f.places g.places h1)) (by simp) ?_
      rintro σ2 ⟨r, o', ⟨rfl, rfl⟩, hσ⟩
      obtain rfl := Option.some.inj hσ
      clear hσ
      refine drn [12, 13] (by kernel_rfl) (by kernel_rfl) rfl rfl ?_
      refine AH_guard (i := 14) rfl rfl rfl (fun a3 => ?_) (fun a3 => ?_)
      · refine drn [14, 15, 17, 18] (by kernel_rfl) (by kernel_rfl) rfl rfl ?_
        refine AH_one (i := 16) (by kernel_rfl) (step_call [] rfl rfl rfl rfl rfl rfl (byName_ct f.named (by omega))) (by simp) ?_
        rintro σ2 ⟨r, o', ⟨rfl, rfl⟩, hσ⟩
        obtain rfl := Option.some.inj hσ
        clear hσ
        refine AH_one (i := 19) (by kernel_rfl) (step_call [] rfl rfl rfl rfl rfl rfl (byName_ct g.named (by omega))) (by simp) ?_
        rintro σ2 ⟨r, o', ⟨rfl, rfl⟩, hσ⟩
        obtain rfl := Option.some.inj hσ
        clear hσ
        have hargs : [T.one (C.fs (List.take f.named.length (List.drop 0 ((isortL ltN f.named).map eP)))), T.one (C.fs (List.take g.named.length (List.drop 0 ((isortL ltN g.named).map eP))))] =
            [T.one (C.fs ((isortL ltN f.named).map eP)), T.one (C.fs ((isortL ltN g.named).map eP))] := by simp [List.take_of_length_le, isortL_length]
        refine AH_one (i := 20) (by kernel_rfl) (step_callE [] rfl rfl rfl rfl rfl rfl hargs (libEqualP_ct (isortL ltN f.named) (isortL ltN g.named) (by rw [isortL_length]; omega))) (by simp) ?_
        rintro σ2 ⟨r, o', ⟨rfl, rfl⟩, hσ⟩
        obtain rfl := Option.some.inj hσ
        clear hσ
        refine drn [21, 22] (by kernel_rfl) (by kernel_rfl) rfl rfl ?_
        refine AH_end (by kernel_rfl) ?_
        exact rn rfl (fin_is [] rfl ⟨by simp [sameF, a1, a2, a3], rfl⟩)
      · refine drn [14, 15, 16, 17, 18, 19, 20, 21, 22] (by kernel_rfl) (by kernel_rfl) rfl rfl ?_
        refine AH_end (by kernel_rfl) ?_
        exact rn rfl (fin_is [] rfl ⟨by simp only [sameF, a3, Bool.and_false, Bool.false_and], rfl⟩)
    · refine drn [7, 8, 9, 10, 11, 12] (by kernel_rfl) (by kernel_rfl) rfl rfl ?_
      refine drn [13] (by kernel_rfl) (by kernel_rfl) rfl rfl ?_
      refine AH_guard (i := 14) rfl rfl rfl (fun a3 => by cases a3) (fun a3 => ?_)
      refine drn [14, 15, 16, 17, 18, 19, 20, 21, 22] (by kernel_rfl) (by kernel_rfl) rfl rfl ?_
      refine AH_end (by kernel_rfl) ?_
      exact rn rfl (fin_is [] rfl ⟨by simp only [sameF, a2, Bool.and_false, Bool.false_and], rfl⟩)
  · refine drn [3, 4, 5, 6] (by kernel_rfl) (by kernel_rfl) rfl rfl ?_
    refine AH_guard (i := 7) rfl rfl rfl (fun a2 => by cases a2) (fun a2 => ?_)
    refine drn [7, 8, 9, 10, 11, 12, 13] (by kernel_rfl) (by kernel_rfl) rfl rfl ?_
    refine AH_guard (i := 14) rfl rfl rfl (fun a3 => by cases a3) (fun a3 => ?_)
    refine drn [14, 15, 16, 17, 18, 19, 20, 21, 22] (by kernel_rfl) (by kernel_rfl) rfl rfl ?_
    refine AH_end (by kernel_rfl) ?_
    exact rn rfl (fin_is [] rfl ⟨by simp only [sameF, a1, Bool.and_false, Bool.false_and], rfl⟩)

/-- The reader, at position 'k'. -/
def oR (bs : Str) (k : Int) : Option AObj := some ⟨2, [[.fs (bs.map rowB), .int .i64 k]], false, false, true⟩

theorem rowB_len (b : UInt8) : (rowB b).length = 1 := rfl

theorem tmod_range {a n : Int} (ha : 0 ≤ a) (hn : 1 ≤ n) : 0 ≤ a.tmod n ∧ a.tmod n < n := by
  rw [Int.tmod_eq_emod_of_nonneg ha]
  exact ⟨Int.emod_nonneg _ (by omega), Int.emod_lt_of_pos _ (by omega)⟩

theorem pick_ct (bs : Str) (k n : Int) (hb : bs.length ≤ 2000) (hk : 0 ≤ k) (hk' : k ≤ 1073741824) (hn : n ≤ 1073741824) :
    ACalls pk 69 [.one (.op 0 0 0), .one (.int .i64 n)] [oR bs k] (fun r o => (∃ z, r = .one (.int .i64 z) ∧ (1 ≤ n → 0 ≤ z ∧ z < n) ∧ (n < 1 → z = 0)) ∧ o = [oR bs (k + 1)]) := by
  refine acalls_of_body Try.func69 rfl (by kernel_rfl) rfl ?_
  have hw : IntKind.i64.wrap (k + 1) = k + 1 := wrap64 (by omega) (by omega)
  have hw1 : IntKind.i64.wrap (k + 1 - 1) = k := by rw [wrap64] <;> omega
  refine rn rfl ?_
  rw [hw]
  refine goal_guard rfl rfl rfl (fun h => ?_) (fun h => ?_) <;> simp only [decide_eq_true_eq, decide_eq_false_iff_not] at h
  · refine rn rfl ?_
    refine goal_condT rfl ?_
    exact rn rfl (fin_is [] rfl ⟨⟨0, rfl, fun h' => by omega, fun _ => rfl⟩, rfl⟩)
  · refine rn rfl ?_
    refine goal_cond rfl (fun h2 => ?_) (fun h2 => ?_) <;> simp only [List.length_map, beq_iff_eq, beq_eq_false_iff_ne, ne_eq] at h2
    · exact rn rfl (fin_is [] rfl ⟨⟨0, rfl, fun h' => by omega, fun _ => rfl⟩, rfl⟩)
    · refine rn rfl ?_
      rw [hw1]
      refine goal_cond rfl (fun h3 => ?_) (fun h3 => ?_) <;> simp only [List.length_map, decide_eq_true_eq, decide_eq_false_iff_not] at h3
      · obtain ⟨b, hbk⟩ := at_some (xs := bs) (i := k.toNat) (by omega)
        refine rn rfl ?_
        refine goal_did rfl rfl (dA_index (rowB b) rfl rfl rfl rfl rfl rfl rfl hk (by simpa using h3) (map_at hbk) rfl) ?_
        refine rn rfl ?_
        have hwb : IntKind.i64.wrap (b.toNat : Int) = b.toNat := by
          have := b.toNat_lt
          rw [wrap64] <;> omega
        refine goal_did rfl rfl (dA_rem (Int.tmod (b.toNat : Int) n) rfl rfl rfl (by omega) (by rw [hwb]) rfl) ?_
        have ht := tmod_range (a := (b.toNat : Int)) (n := n) (by omega) (by omega)
        exact rn rfl (fin_is [] rfl ⟨⟨_, rfl, fun _ => ht, fun h' => by omega⟩, rfl⟩)
      · have hL : (0 : Int) < bs.length := by omega
        obtain ⟨kn, rfl⟩ : ∃ m : Nat, k = m := ⟨k.toNat, by omega⟩
        have hLe : ((bs.map rowB).length : Int) = bs.length := by simp
        have r1 := tmod_range (a := (kn : Int)) (n := bs.length) (by omega) (by omega)
        have hw7 : IntKind.i64.wrap ((kn : Int) * 7) = kn * 7 := by rw [wrap64] <;> omega
        have hw73 : IntKind.i64.wrap ((kn : Int) * 7 + 3) = kn * 7 + 3 := by rw [wrap64] <;> omega
        have r2 := tmod_range (a := (kn : Int) * 7 + 3) (n := bs.length) (by omega) (by omega)
        obtain ⟨b1, hb1⟩ := at_some (xs := bs) (i := ((kn : Int).tmod bs.length).toNat) (by omega)
        obtain ⟨b2, hb2⟩ := at_some (xs := bs) (i := (((kn : Int) * 7 + 3).tmod bs.length).toNat) (by omega)
        have l1 := b1.toNat_lt
        have l2 := b2.toNat_lt
        refine rn rfl ?_
        refine goal_draw' [0] 46 rfl ?_
        refine drn [0, 1, 2, 3, 4, 5, 6, 7, 8, 9, 15, 16, 17, 18, 19, 20, 21, 22, 23, 24, 25, 26, 33, 34, 36, 37, 38, 39, 40, 41] (by kernel_rfl) (by kernel_rfl) rfl rfl ?_
        refine AH_did 10 rfl (by kernel_rfl) (by kernel_rfl) (by kernel_rfl) rfl rfl (dA_rem ((kn : Int).tmod bs.length) rfl rfl rfl (by rw [hLe]; omega) (by rw [hLe]) rfl) ?_
        refine AH_did 11 rfl (by kernel_rfl) (by kernel_rfl) (by kernel_rfl) rfl rfl (dA_index (rowB b1) rfl rfl rfl rfl rfl rfl rfl (by omega) (by rw [hLe]; omega) (map_at hb1) rfl) ?_
        refine AH_did 27 rfl (by kernel_rfl) (by kernel_rfl) (by kernel_rfl) rfl rfl (dA_rem (((kn : Int) * 7 + 3).tmod bs.length) rfl rfl rfl (by rw [hLe]; omega) (by rw [hLe, hw7, hw73]) rfl) ?_
        refine AH_did 28 rfl (by kernel_rfl) (by kernel_rfl) (by kernel_rfl) rfl rfl (dA_index (rowB b2) rfl rfl rfl rfl rfl rfl rfl (by omega) (by rw [hLe]; omega) (map_at hb2) rfl) ?_
        obtain ⟨qn, hqn⟩ : ∃ qn : Nat, qn = kn / bs.length := ⟨_, rfl⟩
        have hq : (kn : Int).tdiv bs.length = (qn : Int) := by rw [Int.tdiv_eq_ediv_of_nonneg (by omega), hqn]; simp
        have hql : qn ≤ kn := by rw [hqn]; exact Nat.div_le_self _ _
        refine AH_did 42 rfl (by kernel_rfl) (by kernel_rfl) (by kernel_rfl) rfl rfl (dA_quo (qn : Int) rfl rfl rfl (by rw [hLe]; omega) (by rw [hLe, hq, wrap64] <;> omega) rfl) ?_
        refine drn [12, 13, 14, 29, 30, 31, 32, 35, 43, 44, 45] (by kernel_rfl) (by kernel_rfl) rfl rfl ?_
        refine AH_end (by kernel_rfl) ?_
        have e0 : IntKind.i64.wrap (b1.toNat : Int) = b1.toNat := by rw [wrap64] <;> omega
        have e1 : IntKind.i64.wrap ((b1.toNat : Int) * 131) = b1.toNat * 131 := by rw [wrap64] <;> omega
        have e2 : IntKind.i64.wrap (b2.toNat : Int) = b2.toNat := by rw [wrap64] <;> omega
        have e3 : IntKind.i64.wrap ((b2.toNat : Int) * 1117) = b2.toNat * 1117 := by rw [wrap64] <;> omega
        have e4 : IntKind.i64.wrap ((b1.toNat : Int) * 131 + b2.toNat * 1117) = b1.toNat * 131 + b2.toNat * 1117 := by rw [wrap64] <;> omega
        have e5 : IntKind.i64.wrap ((kn : Int) * 29) = kn * 29 := by rw [wrap64] <;> omega
        have e6 : IntKind.i64.wrap ((b1.toNat : Int) * 131 + b2.toNat * 1117 + kn * 29) = b1.toNat * 131 + b2.toNat * 1117 + kn * 29 := by rw [wrap64] <;> omega
        have e7 : IntKind.i64.wrap ((qn : Int) * 53) = qn * 53 := by rw [wrap64] <;> omega
        have e8 : IntKind.i64.wrap ((b1.toNat : Int) * 131 + b2.toNat * 1117 + kn * 29 + qn * 53) = ((b1.toNat * 131 + b2.toNat * 1117 + kn * 29 + qn * 53 : Nat) : Int) := by rw [wrap64] <;> omega
        rw [e0, e1, e2, e3, e4, e5, e6, e7, e8]
        generalize hX : b1.toNat * 131 + b2.toNat * 1117 + kn * 29 + qn * 53 = Xn
        have hXl : Xn < 2 ^ 40 := by omega
        refine rn rfl ?_
        have hd64 : IntKind.i64.wrap (Int.tdiv (Xn : Int) (Int.ofNat (63 + 1))) = ((Xn / 64 : Nat) : Int) := by
          have : Int.tdiv (Xn : Int) (Int.ofNat (63 + 1)) = ((Xn / 64 : Nat) : Int) := by rw [Int.tdiv_eq_ediv_of_nonneg (by omega)]; simp
          rw [this, wrap64] <;> omega
        refine goal_did rfl rfl (dA_xor Xn (Xn / 64) rfl rfl rfl rfl hd64 (by omega) (by omega) rfl) ?_
        refine rn rfl ?_
        refine goal_did rfl rfl (dA_rem (Int.tmod ((Xn ^^^ (Xn / 64) : Nat) : Int) n) rfl rfl rfl (by omega) rfl rfl) ?_
        have ht := tmod_range (a := ((Xn ^^^ (Xn / 64) : Nat) : Int)) (n := n) (by omega) (by omega)
        exact rn rfl (fin_is [] rfl ⟨⟨_, rfl, fun _ => ht, fun h' => by omega⟩, rfl⟩)

def eS (s : Str) : List C := [.str s]

theorem one_ct (bs : Str) (k : Int) (xs : List Int) (hb : bs.length ≤ 2000) (hk : 0 ≤ k) (hk' : k ≤ 1073741824) (hx : 0 < xs.length) (hx' : xs.length ≤ 1000) :
    ACalls pk 141 [.one (.op 0 0 0), .one (.fs (xs.map eI))] [oR bs k] (fun r o => (∃ v ∈ xs, r = .one (.int .i64 v)) ∧ o = [oR bs (k + 1)]) := by
  refine acalls_of_body Try.func141 rfl (by kernel_rfl) rfl ?_
  refine rn rfl ?_
  have hL : (((xs.map eI).length : Nat) : Int) = xs.length := by simp
  rw [hL]
  refine goal_step (step_call [0] rfl rfl rfl rfl rfl rfl (pick_ct bs k xs.length hb hk hk' (by omega))) ?_
  rintro σ2 ⟨r, o', ⟨⟨z, rfl, hz, _⟩, rfl⟩, hσ⟩
  obtain rfl := Option.some.inj hσ
  clear hσ
  obtain ⟨z0, z1⟩ := hz (by omega)
  obtain ⟨v, hv⟩ := at_some (xs := xs) (i := z.toNat) (by omega)
  refine goal_did rfl rfl (dA_index (eI v) rfl rfl rfl rfl rfl rfl rfl z0 (by rw [hL]; exact z1) (map_at hv) rfl) ?_
  exact rn rfl (fin_is [] rfl ⟨⟨v, List.mem_of_getElem? hv, rfl⟩, rfl⟩)

theorem of_ct (bs : Str) (k : Int) (xs : List Str) (hb : bs.length ≤ 2000) (hk : 0 ≤ k) (hk' : k ≤ 1073741824) (hx : 0 < xs.length) (hx' : xs.length ≤ 1000) :
    ACalls pk 143 [.one (.op 0 0 0), .one (.fs (xs.map eS))] [oR bs k] (fun r o => (∃ v ∈ xs, r = .one (.str v)) ∧ o = [oR bs (k + 1)]) := by
  refine acalls_of_body Try.func143 rfl (by kernel_rfl) rfl ?_
  refine rn rfl ?_
  have hL : (((xs.map eS).length : Nat) : Int) = xs.length := by simp
  rw [hL]
  refine goal_step (step_call [0] rfl rfl rfl rfl rfl rfl (pick_ct bs k xs.length hb hk hk' (by omega))) ?_
  rintro σ2 ⟨r, o', ⟨⟨z, rfl, hz, _⟩, rfl⟩, hσ⟩
  obtain rfl := Option.some.inj hσ
  clear hσ
  obtain ⟨z0, z1⟩ := hz (by omega)
  obtain ⟨v, hv⟩ := at_some (xs := xs) (i := z.toNat) (by omega)
  refine goal_did rfl rfl (dA_index (eS v) rfl rfl rfl rfl rfl rfl rfl z0 (by rw [hL]; exact z1) (map_at hv) rfl) ?_
  exact rn rfl (fin_is [] rfl ⟨⟨v, List.mem_of_getElem? hv, rfl⟩, rfl⟩)

theorem aNumber_ct (bs : Str) (k : Int) (hb : bs.length ≤ 2000) (hk : 0 ≤ k) (hk' : k ≤ 1073741824) :
    ACalls pk 123 [.one (.op 0 0 0)] [oR bs k] (fun r o => (∃ v : Int, -100 ≤ v ∧ v ≤ 100 ∧ r = .one (.int .i64 v)) ∧ o = [oR bs (k + 1)]) := by
  refine acalls_of_body Try.func123 rfl (by kernel_rfl) rfl ?_
  refine rn rfl ?_
  refine goal_step (step_callE [0] rfl rfl rfl rfl rfl rfl rfl (one_ct bs k [1, 2, 3, 0, 5, -1, 7, 99, -99] hb hk hk' (by decide) (by decide))) ?_
  rintro σ2 ⟨r, o', ⟨⟨v, hv, rfl⟩, rfl⟩, hσ⟩
  obtain rfl := Option.some.inj hσ
  clear hσ
  refine rn rfl (fin_is [] rfl ⟨⟨v, ?_, ?_, rfl⟩, rfl⟩) <;> (simp at hv; omega)

theorem aName_ct (bs : Str) (k : Int) (hb : bs.length ≤ 2000) (hk : 0 ≤ k) (hk' : k ≤ 1073741824) :
    ACalls pk 122 [.one (.op 0 0 0)] [oR bs k] (fun r o => (∃ v : Str, v.length ≤ 7 ∧ r = .one (.str v)) ∧ o = [oR bs (k + 1)]) := by
  refine acalls_of_body Try.func122 rfl (by kernel_rfl) rfl ?_
  refine rn rfl ?_
  refine goal_step (step_callE [0] rfl rfl rfl rfl rfl rfl rfl (of_ct bs k [[97], [98], [99], [100], [120], [121], [97], [98], [99]] hb hk hk' (by decide) (by decide))) ?_
  rintro σ2 ⟨r, o', ⟨⟨v, hv, rfl⟩, rfl⟩, hσ⟩
  obtain rfl := Option.some.inj hσ
  clear hσ
  refine rn rfl (fin_is [] rfl ⟨⟨v, ?_, rfl⟩, rfl⟩)
  simp at hv
  rcases hv with rfl | rfl | rfl | rfl | rfl | rfl | rfl | rfl | rfl <;> decide

theorem anyNumber_ct (bs : Str) (k : Int) (hb : bs.length ≤ 2000) (hk : 0 ≤ k) (hk' : k ≤ 1073741000) :
    ACalls pk 142 [.one (.op 0 0 0)] [oR bs k] (fun r o => (∃ v : Int, -100 ≤ v ∧ v ≤ 100 ∧ r = .one (.int .i64 v)) ∧ o = [oR bs (k + 2)]) := by
  refine acalls_of_body Try.func142 rfl (by kernel_rfl) rfl ?_
  refine rn rfl ?_
  refine goal_step (step_call [0] rfl rfl rfl rfl rfl rfl (pick_ct bs k 16 hb hk (by omega) (by omega))) ?_
  rintro σ2 ⟨r, o', ⟨⟨z, rfl, _, _⟩, rfl⟩, hσ⟩
  obtain rfl := Option.some.inj hσ
  clear hσ
  have hk2 : k + 1 + 1 = k + 2 := by omega
  refine rn rfl ?_
  refine goal_cond rfl (fun h => ?_) (fun h => ?_)
  · refine rn rfl ?_
    refine goal_step (step_callE [0] rfl rfl rfl rfl rfl rfl rfl (one_ct bs (k + 1) [100, -100] hb (by omega) (by omega) (by decide) (by decide))) ?_
    rintro σ2 ⟨r, o', ⟨⟨v, hv, rfl⟩, rfl⟩, hσ⟩
    obtain rfl := Option.some.inj hσ
    clear hσ
    rw [hk2]
    refine rn rfl (fin_is [] rfl ⟨⟨v, ?_, ?_, rfl⟩, rfl⟩) <;> (simp at hv; omega)
  · refine rn rfl ?_
    refine goal_step (step_call [0] rfl rfl rfl rfl rfl rfl (aNumber_ct bs (k + 1) hb (by omega) (by omega))) ?_
    rintro σ2 ⟨r, o', ⟨⟨v, v1, v2, rfl⟩, rfl⟩, hσ⟩
    obtain rfl := Option.some.inj hσ
    clear hσ
    rw [hk2]
    exact rn rfl (fin_is [] rfl ⟨⟨v, v1, v2, rfl⟩, rfl⟩)

theorem anyName_ct (bs : Str) (k : Int) (hb : bs.length ≤ 2000) (hk : 0 ≤ k) (hk' : k ≤ 1073741000) :
    ACalls pk 70 [.one (.op 0 0 0)] [oR bs k] (fun r o => (∃ v : Str, v.length ≤ 7 ∧ r = .one (.str v)) ∧ o = [oR bs (k + 2)]) := by
  refine acalls_of_body Try.func70 rfl (by kernel_rfl) rfl ?_
  refine rn rfl ?_
  refine goal_step (step_call [0] rfl rfl rfl rfl rfl rfl (pick_ct bs k 16 hb hk (by omega) (by omega))) ?_
  rintro σ2 ⟨r, o', ⟨⟨z, rfl, _, _⟩, rfl⟩, hσ⟩
  obtain rfl := Option.some.inj hσ
  clear hσ
  have hk2 : k + 1 + 1 = k + 2 := by omega
  refine rn rfl ?_
  refine goal_cond rfl (fun h => ?_) (fun h => ?_)
  · refine rn rfl ?_
    refine goal_step (step_callE [0] rfl rfl rfl rfl rfl rfl rfl (of_ct bs (k + 1) [[], [65], [116, 111, 111, 108, 111, 110, 103], [97, 49], [97, 98, 99, 100, 101, 102]] hb (by omega) (by omega) (by decide) (by decide))) ?_
    rintro σ2 ⟨r, o', ⟨⟨v, hv, rfl⟩, rfl⟩, hσ⟩
    obtain rfl := Option.some.inj hσ
    clear hσ
    rw [hk2]
    refine rn rfl (fin_is [] rfl ⟨⟨v, ?_, rfl⟩, rfl⟩)
    simp at hv
    rcases hv with rfl | rfl | rfl | rfl | rfl <;> decide
  · refine rn rfl ?_
    refine goal_step (step_call [0] rfl rfl rfl rfl rfl rfl (aName_ct bs (k + 1) hb (by omega) (by omega))) ?_
    rintro σ2 ⟨r, o', ⟨⟨v, v1, rfl⟩, rfl⟩, hσ⟩
    obtain rfl := Option.some.inj hσ
    clear hσ
    rw [hk2]
    exact rn rfl (fin_is [] rfl ⟨⟨v, v1, rfl⟩, rfl⟩)

theorem newReader_ct (bs : Str) : ACalls pk 57 [.one (.fs (bs.map rowB))] [] (fun r o => r = .one (.op 0 0 0) ∧ o = [oR (bs.take 2000) 0]) := by
  refine acalls_of_body Try.func57 rfl (by kernel_rfl) rfl ?_
  refine rn rfl ?_
  refine goal_cond rfl (fun h => ?_) (fun h => ?_) <;> simp only [List.length_map, gt_iff_lt, decide_eq_true_eq, decide_eq_false_iff_not] at h
  · refine rn rfl ?_
    refine goal_did rfl rfl (dA_slice 0 2000 ((bs.take 2000).map rowB) rfl rfl rfl rfl rfl Bnd.none_ (Bnd.some_ rfl rfl) (rows_len rowB_len _) (by omega) (by simp; omega) rfl (by simp)) ?_
    exact rn rfl (fin_is [0] rfl ⟨rfl, rfl⟩)
  · rw [List.take_of_length_le (by omega)]
    exact rn rfl (fin_is [0] rfl ⟨rfl, rfl⟩)

/-- A pair put into a copy, as the reference does it. -/
def spPair (ps : List Pair) (p : Pair) : List Pair := if ps.any (nameIs p.name) then ps.set (ps.findIdx (nameIs p.name)) p else ps ++ [p]

theorem putPair_ct (ps : List Pair) (p : Pair) (h : ps.length ≤ 1000) :
    ACalls pk 121 [.one (.fs (ps.map eP)), .agg (eP p)] [] (fun r o => r = .one (.os 0 0 (spPair ps p).length (spPair ps p).length) ∧ o = [ownP (spPair ps p)]) := by
  refine acalls_of_body Try.func121 rfl (by kernel_rfl) rfl ?_
  refine rn rfl ?_
  refine goal_did rfl rfl (dA_append (old := []) (ps.map eP) ps.length true (Dst.own rfl rfl rfl rfl rfl (Nat.le_refl 0) rfl) (Src.fs rfl) rfl rfl rfl rfl rfl rfl rfl rfl (by simp) (rows_len eP_len _) (by simp only [List.length_map, List.length_nil]; show _ * 24 ≤ _; omega) (by simp; omega) rfl (by simp) (fun _ => noOwnR_map _ eP_noOwn _)) ?_
  refine rn rfl ?_
  have hfr : [T.one (C.fs (List.take ps.length (List.drop 0 (ps.map eP)))), T.one (.str p.name)] = [T.one (C.fs (ps.map eP)), T.one (.str p.name)] := by simp [List.take_of_length_le]
  refine goal_step (step_lendE [] rfl rfl rfl rfl rfl rfl rfl hfr (spairAt_ct ps p.name (by omega)) (by rintro r o ⟨rfl, rfl⟩; exact ⟨rfl, rfl⟩)) ?_
  rintro σ2 ⟨r, o', ⟨rfl, rfl⟩, hσ⟩
  obtain rfl := Option.some.inj hσ
  clear hσ
  refine rn rfl ?_
  refine goal_cond rfl (fun h => ?_) (fun h => ?_) <;> simp only [ge_iff_le, decide_eq_true_eq, decide_eq_false_iff_not] at h
  · have hyes : ps.any (nameIs p.name) = true := by rw [any_nameIs, ← pairIx_ge]; omega
    obtain ⟨hix, hlt⟩ := pairIx_some hyes
    have hsp : spPair ps p = ps.set (ps.findIdx (nameIs p.name)) p := by simp [spPair, hyes]
    rw [hsp, hix, List.length_set]
    generalize ps.findIdx (nameIs p.name) = i at *
    obtain ⟨q, hq⟩ := at_some hlt
    refine rn rfl ?_
    refine goal_did rfl rfl (dA_indexOwn rfl rfl rfl rfl rfl rfl rfl rfl rfl (by omega) (by omega)) ?_
    refine goal_did rfl rfl (dA_storeEl (eP q) ((ps.set i p).map eP) true rfl rfl rfl rfl rfl (map_at (by simpa using hq)) rfl rfl (by simp [eP]) (by rw [map_set]; simp [patch, eP]) (fun _ => noOwnR_map _ eP_noOwn _)) ?_
    exact rn rfl (fin_is [2] rfl ⟨rfl, rfl⟩)
  · have hno : ps.any (nameIs p.name) = false := by
      cases hb : ps.any (nameIs p.name) with
      | false => rfl
      | true => have := (pairIx_some hb).1; omega
    have hsp : spPair ps p = ps ++ [p] := by simp [spPair, hno]
    rw [hsp]
    refine rn rfl ?_
    refine goal_did rfl rfl (dA_append (old := ps.map eP) (rows := [p].map eP) ((ps ++ [p]).map eP) (ps.length + 1) true (Dst.own rfl rfl rfl rfl rfl (by simp) (whole (by simp))) (Src.os rfl rfl (Nat.le_refl 1) rfl) rfl rfl rfl rfl rfl rfl rfl rfl (rows_len eP_len _) (rows_len eP_len _) (by simp only [List.length_map, List.length_cons, List.length_nil]; show _ * 24 ≤ _; omega) (by simp; omega) (by simp) (by simp) (fun _ => noOwnR_map _ eP_noOwn _)) ?_
    exact rn rfl (fin_is [4] rfl ⟨by simp only [List.length_append, List.length_cons, List.length_nil]; done, rfl⟩)

theorem spPair_len (ps : List Pair) (p : Pair) : (spPair ps p).length ≤ ps.length + 1 := by
  unfold spPair; split <;> simp

theorem spPair_mem {ps : List Pair} {p q : Pair} (h : q ∈ spPair ps p) : q = p ∨ q ∈ ps := by
  unfold spPair at h; split at h
  · rcases List.mem_or_eq_of_mem_set h with h | h
    · exact .inr h
    · exact .inl h
  · simp at h; exact h.symm

theorem asPP (ps : List Pair) (p : Pair) : [T.one (C.fs (List.take ps.length (List.drop 0 (ps.map eP)))), T.agg (eP p)] = [T.one (C.fs (ps.map eP)), T.agg (eP p)] := by simp [List.take_of_length_le]

/-- A flat of own slices, objects 'b' and 'b + 1'. -/
def rFa (b : Nat) (f : Flat) : T := .agg [.os b 0 f.places.length f.places.length, .os (b + 1) 0 f.named.length f.named.length]

/-- What draws give: small flats. -/
structure Small (f : Flat) (a b : Nat) : Prop where
  places : f.places.length ≤ a
  named : f.named.length ≤ b
  names : ∀ p ∈ f.named, p.name.length ≤ 7
  vals : ∀ p ∈ f.named, -100 ≤ p.value ∧ p.value ≤ 100
  nums : ∀ n ∈ f.places, -100 ≤ n ∧ n ≤ 100

theorem goodFlat_ct (bs : Str) (k : Int) (hb : bs.length ≤ 2000) (hk : 0 ≤ k) (hk' : k ≤ 1073740000) :
    ACalls pk 140 [.one (.op 0 0 0)] [oR bs k] (fun r o => ∃ f k', Small f 8 3 ∧ k ≤ k' ∧ k' ≤ k + 30 ∧ r = rFa 1 f ∧ o = [oR bs k', ownI f.places, ownP f.named]) := by
  refine acalls_of_body Try.func140 rfl (by kernel_rfl) rfl ?_
  refine rn rfl ?_
  refine goal_step (step_callE [0] rfl rfl rfl rfl rfl rfl rfl (one_ct bs k [2, 1, 3, 0, 4, 8] hb hk (by omega) (by decide) (by decide))) ?_
  rintro σ2 ⟨r, o', ⟨⟨v, hv, rfl⟩, rfl⟩, hσ⟩
  obtain rfl := Option.some.inj hσ
  clear hσ
  have hv8 : 0 ≤ v ∧ v ≤ 8 := by simp at hv; omega
  refine rn rfl ?_
  refine goal_loop_keep (fun m σ => ∃ (q k1 : Int) (ns : List Int) (L : Nat), q = m ∧ L = ns.length ∧ ns.length + m ≤ 8 ∧ (∀ n ∈ ns, -100 ≤ n ∧ n ≤ 100) ∧ k ≤ k1 ∧ k1 + m ≤ k + 9 ∧
      σ = ⟨[(4, .one (.int .i64 q)), (3, .one (.op 2 0 0)), (2, .one (.op 1 0 0)), (0, .one (.op 0 0 0))], [oR bs k1, some ⟨2, [[.fs [], .fs []]], false, false, true⟩, some ⟨2, [[.os 3 0 L L, .os 4 0 0 0]], false, false, true⟩, ownI ns, ownP []], []⟩) v.toNat [4, 3, 2, 0] [1, 4, 2, 3] rfl
    ⟨_, _, [], 0, ?_, rfl, ?_, by simp, ?_, ?_, rfl⟩ ?_
  · omega
  · simp; omega
  · omega
  · omega
  · rintro m σ ⟨q, k1, ns, L, rfl, rfl, hnl, hns, hk1, hk2, rfl⟩
    refine rn rfl ?_
    refine goal_cond rfl (fun h => ?_) (fun h => ?_) <;> simp only [gt_iff_lt, decide_eq_true_eq, decide_eq_false_iff_not] at h
    · refine rn rfl ?_
      refine goal_drawL [2] [7] 8 rfl ?_
      refine drnL [0, 1, 2] (by kernel_rfl) (by kernel_rfl) rfl rfl ?_
      refine AHL_one (i := 3) (by kernel_rfl) rfl (step_callE [0] rfl rfl rfl rfl rfl rfl (rfl) (aNumber_ct bs k1 hb (by omega) (by omega))) (by simp) ?_
      rintro σ2 ⟨r, o', ⟨⟨v, hv1, hv2, rfl⟩, rfl⟩, hσ⟩
      obtain rfl := Option.some.inj hσ
      clear hσ
      refine AHL_oneDid 4 rfl (by kernel_rfl) rfl rfl (dA_step rfl) (mdOk rfl) ?_
      refine AHL_oneDid 5 rfl (by kernel_rfl) rfl rfl (dA_append (old := (ns).map eI) (rows := ([v]).map eI) (((ns) ++ ([v])).map eI) (ns.length + 1) true (Dst.own rfl rfl rfl rfl rfl (by first | (simp; done) | (simp; omega)) (whole (by first | (simp; done) | (simp; omega)))) (Src.os rfl rfl (Nat.le_refl 1) rfl) rfl rfl rfl rfl rfl rfl rfl rfl (rows_len eI_len _) (rows_len eI_len _) (by (try simp only [List.length_map, List.length_append, List.length_cons, List.length_nil, List.length_take, List.length_drop]); show _ * 8 ≤ _; omega) (by first | (simp; done) | (simp; omega)) (by simp) (by first | (simp; done) | (simp; omega)) (fun _ => noOwnR_map _ eI_noOwn _)) (mdOk rfl) ?_
      refine drnL [6] (by kernel_rfl) (by kernel_rfl) rfl rfl ?_
      refine AHL_lateDid 7 rfl (by kernel_rfl) rfl rfl (dA_step rfl) ?_
      refine AH_end (by kernel_rfl) ?_
      refine rn rfl ?_
      refine round_keep (m - 1) [4, 3, 2, 0] [1, 2, 6, 4] (by omega) rfl ⟨_, _, ns ++ [v], ns.length + 1, ?_, by simp, ?_, ?_, ?_, ?_, rfl⟩
      · rw [wrap64 (by omega) (by omega)]; omega
      · simp; omega
      · intro n hn; simp at hn; rcases hn with hn | rfl
        · exact hns n hn
        · exact ⟨hv1, hv2⟩
      · omega
      · omega
    · refine rn rfl ?_
      refine round_ext ?_
      refine rn rfl ?_
      refine goal_step (step_callE [0] rfl rfl rfl rfl rfl rfl (rfl) (one_ct bs k1 [1, 2, 0, 3, 0] hb (by omega) (by omega) (by decide) (by decide))) ?_
      rintro σ2 ⟨r, o', ⟨⟨w, hw, rfl⟩, rfl⟩, hσ⟩
      obtain rfl := Option.some.inj hσ
      clear hσ
      refine rn rfl ?_
      have hw3 : 0 ≤ w ∧ w ≤ 3 := by simp at hw; omega
      refine goal_loop_keep (fun m σ => ∃ (q k2 : Int) (ps : List Pair) (L : Nat), q = m ∧ L = ps.length ∧ ps.length + m ≤ 3 ∧ (∀ p ∈ ps, p.name.length ≤ 7 ∧ -100 ≤ p.value ∧ p.value ≤ 100) ∧ k ≤ k2 ∧ k2 + 2 * m ≤ k + 30 ∧
          σ = ⟨[(5, .one (.int .i64 q)), (3, .one (.op 2 0 0)), (2, .one (.op 1 0 0)), (0, .one (.op 0 0 0))], [oR bs k2, some ⟨2, [[.fs [], .fs []]], false, false, true⟩, some ⟨2, [[.os 3 0 ns.length ns.length, .os 4 0 L L]], false, false, true⟩, ownI ns, ownP ps], []⟩) w.toNat [5, 3, 2, 0] [1, 2, 3, 4] rfl
        ⟨_, _, [], 0, ?_, rfl, ?_, by simp, ?_, ?_, rfl⟩ ?_
      · omega
      · simp; omega
      · omega
      · omega
      rintro m σ ⟨q, k2, ps, L, rfl, rfl, hpl, hps, hk3, hk4, rfl⟩
      refine rn rfl ?_
      refine goal_cond rfl (fun h => ?_) (fun h => ?_) <;> (try simp only [gt_iff_lt, ge_iff_le, bne_iff_ne, ne_eq, bne_eq_false_iff_eq, beq_iff_eq, beq_eq_false_iff_ne, Bool.not_eq_true', Bool.not_eq_false', decide_eq_true_eq, decide_eq_false_iff_not, List.length_map] at h)
      · refine rn rfl ?_
        refine goal_drawL [2] [9] 10 rfl ?_
        refine drnL [0, 1, 2, 4] (by kernel_rfl) (by kernel_rfl) rfl rfl ?_
        refine AHL_one (i := 3) (by kernel_rfl) rfl (step_callE [0] rfl rfl rfl rfl rfl rfl (rfl) (aName_ct bs k2 hb (by omega) (by omega))) (by simp) ?_
        rintro σ2 ⟨r, o', ⟨⟨v, hv1, rfl⟩, rfl⟩, hσ⟩
        obtain rfl := Option.some.inj hσ
        clear hσ
        refine AHL_one (i := 5) (by kernel_rfl) rfl (step_callE [0] rfl rfl rfl rfl rfl rfl (rfl) (aNumber_ct bs (k2 + 1) hb (by omega) (by omega))) (by simp) ?_
        rintro σ2 ⟨r, o', ⟨⟨v', hv2, hv3, rfl⟩, rfl⟩, hσ⟩
        obtain rfl := Option.some.inj hσ
        clear hσ
        refine drnL [6] (by kernel_rfl) (by kernel_rfl) rfl rfl ?_
        refine AHL_one (i := 7) (by kernel_rfl) rfl (step_callE [] rfl rfl rfl rfl rfl rfl (asPP ps ⟨v, v'⟩) (putPair_ct ps ⟨v, v'⟩ (by omega))) (by simp) ?_
        rintro σ2 ⟨r, o', ⟨rfl, rfl⟩, hσ⟩
        obtain rfl := Option.some.inj hσ
        clear hσ
        refine drnL [8] (by kernel_rfl) (by kernel_rfl) rfl rfl ?_
        refine AHL_lateDid 9 rfl (by kernel_rfl) rfl rfl (dA_step rfl) ?_
        refine AH_end (by kernel_rfl) ?_
        refine rn rfl ?_
        have hsp := spPair_len ps ⟨v, v'⟩
        refine round_keep (m - 1) [5, 3, 2, 0] [1, 2, 3, 5] (by omega) rfl ⟨_, _, spPair ps ⟨v, v'⟩, _, ?_, rfl, ?_, ?_, ?_, ?_, rfl⟩
        · rw [wrap64 (by omega) (by omega)]; omega
        · omega
        · intro p hp; rcases spPair_mem hp with rfl | hp
          · exact ⟨hv1, hv2, hv3⟩
          · exact hps p hp
        · omega
        · omega
      · refine rn rfl ?_
        refine round_ext ?_
        refine rn rfl (fin_is [3, 4] rfl ⟨⟨ns, ps⟩, k2, ⟨by simp; omega, by simp; omega, fun p hp => (hps p hp).1, fun p hp => (hps p hp).2, hns⟩, hk3, by omega, rfl, rfl⟩)

theorem takeAll {α : Type} (enc : α → List C) (xs : List α) (n : Nat) (h : xs.length = n) : List.take n (List.drop 0 (xs.map enc)) = xs.map enc := by
  subst h; simp [List.take_of_length_le]

theorem someFlat_ct (bs : Str) (k : Int) (hb : bs.length ≤ 2000) (hk : 0 ≤ k) (hk' : k ≤ 1073740000) :
    ACalls pk 68 [.one (.op 0 0 0)] [oR bs k] (fun r o => ∃ f k', Small f 9 4 ∧ k ≤ k' ∧ k' ≤ k + 40 ∧ r = .agg (eF f) ∧ o = [oR bs k']) := by
  refine acalls_of_body Try.func68 rfl (by kernel_rfl) rfl ?_
  refine rn rfl ?_
  refine goal_step (step_callE [0] rfl rfl rfl rfl rfl rfl (rfl) (goodFlat_ct bs k hb hk hk')) ?_
  rintro σ2 ⟨r, o', ⟨f, k1, hf, hk1, hk2, rfl, rfl⟩, hσ⟩
  obtain rfl := Option.some.inj hσ
  clear hσ
  refine rn rfl ?_
  refine goal_step (step_callE [0] rfl rfl rfl rfl rfl rfl (rfl) (pick_ct bs k1 24 hb (by omega) (by omega) (by omega))) ?_
  rintro σ2 ⟨r, o', ⟨⟨z, rfl, _, _⟩, rfl⟩, hσ⟩
  obtain rfl := Option.some.inj hσ
  clear hσ
  refine rn rfl ?_
  have hp := hf.places
  have hn := hf.named
  refine goal_cond rfl (fun h => ?_) (fun h => ?_) <;> (try simp only [gt_iff_lt, ge_iff_le, bne_iff_ne, ne_eq, bne_eq_false_iff_eq, beq_iff_eq, beq_eq_false_iff_ne, Bool.not_eq_true', Bool.not_eq_false', decide_eq_true_eq, decide_eq_false_iff_not, List.length_map] at h)
  · refine rn rfl ?_
    refine goal_drawL [4] [8] 9 rfl ?_
    refine drnL [0, 1, 2] (by kernel_rfl) (by kernel_rfl) rfl rfl ?_
    refine AHL_oneDid 3 rfl (by kernel_rfl) rfl rfl (dA_step rfl) (mdOk rfl) ?_
    refine AHL_one (i := 4) (by kernel_rfl) rfl (step_callE [0] rfl rfl rfl rfl rfl rfl (rfl) (one_ct bs (k1 + 1) [100, -100] hb (by omega) (by omega) (by decide) (by decide))) (by simp) ?_
    rintro σ2 ⟨r, o', ⟨⟨v, hv, rfl⟩, rfl⟩, hσ⟩
    obtain rfl := Option.some.inj hσ
    clear hσ
    refine AHL_oneDid 5 rfl (by kernel_rfl) rfl rfl (dA_step rfl) (mdOk rfl) ?_
    refine AHL_oneDid 6 rfl (by kernel_rfl) rfl rfl (dA_append (old := (f.places).map eI) (rows := ([v] : List Int).map eI) (((f.places) ++ ([v] : List Int)).map eI) (f.places.length + 1) true (Dst.own rfl rfl rfl rfl rfl (by first | (simp; done) | (simp; omega)) (whole (by first | (simp; done) | (simp; omega)))) (Src.os rfl rfl (Nat.le_refl 1) rfl) rfl rfl rfl rfl rfl rfl rfl rfl (rows_len eI_len _) (rows_len eI_len _) (by (try simp only [List.length_map, List.length_append, List.length_cons, List.length_nil, List.length_take, List.length_drop]); show _ * 8 ≤ _; omega) (by first | (simp; done) | (simp; omega)) (by simp) (by first | (simp; done) | (simp; omega)) (fun _ => noOwnR_map _ eI_noOwn _)) (mdOk rfl) ?_
    refine drnL [7] (by kernel_rfl) (by kernel_rfl) rfl rfl ?_
    refine AHL_lateDid 8 rfl (by kernel_rfl) rfl rfl (dA_step rfl) ?_
    refine AH_end (by kernel_rfl) ?_
    refine rn rfl ?_
    refine rn rfl (fin_is [] rfl ⟨⟨f.places ++ [v], f.named⟩, _, ⟨by simp; omega, by simp; omega, hf.names, hf.vals, ?_⟩, ?_, ?_, ?_, rfl⟩)
    · intro n hn; simp at hn; rcases hn with hn | rfl
      · exact hf.nums n hn
      · simp at hv; omega
    · omega
    · omega
    · rw [takeAll eI _ _ (by simp), takeAll eP _ _ rfl]; rfl
  · refine rn rfl ?_
    refine goal_cond rfl (fun h2 => ?_) (fun h2 => ?_) <;> (try simp only [gt_iff_lt, ge_iff_le, bne_iff_ne, ne_eq, bne_eq_false_iff_eq, beq_iff_eq, beq_eq_false_iff_ne, Bool.not_eq_true', Bool.not_eq_false', decide_eq_true_eq, decide_eq_false_iff_not, List.length_map] at h2)
    · refine rn rfl ?_
      refine goal_drawL [4] [10] 11 rfl ?_
      refine drnL [0, 1, 2, 4] (by kernel_rfl) (by kernel_rfl) rfl rfl ?_
      refine AHL_one (i := 3) (by kernel_rfl) rfl (step_callE [0] rfl rfl rfl rfl rfl rfl (rfl) (anyName_ct bs (k1 + 1) hb (by omega) (by omega))) (by simp) ?_
      rintro σ2 ⟨r, o', ⟨⟨v, hv, rfl⟩, rfl⟩, hσ⟩
      obtain rfl := Option.some.inj hσ
      clear hσ
      refine AHL_one (i := 5) (by kernel_rfl) rfl (step_callE [0] rfl rfl rfl rfl rfl rfl (rfl) (anyNumber_ct bs (k1 + 1 + 2) hb (by omega) (by omega))) (by simp) ?_
      rintro σ2 ⟨r, o', ⟨⟨v', hv2, hv3, rfl⟩, rfl⟩, hσ⟩
      obtain rfl := Option.some.inj hσ
      clear hσ
      refine drnL [6] (by kernel_rfl) (by kernel_rfl) rfl rfl ?_
      refine AHL_oneDid 7 rfl (by kernel_rfl) rfl rfl (dA_step rfl) (mdOk rfl) ?_
      refine AHL_oneDid 8 rfl (by kernel_rfl) rfl rfl (dA_append (old := (f.named).map eP) (rows := ([⟨v, v'⟩] : List Pair).map eP) (((f.named) ++ ([⟨v, v'⟩] : List Pair)).map eP) (f.named.length + 1) true (Dst.own rfl rfl rfl rfl rfl (by first | (simp; done) | (simp; omega)) (whole (by first | (simp; done) | (simp; omega)))) (Src.os rfl rfl (Nat.le_refl 1) rfl) rfl rfl rfl rfl rfl rfl rfl rfl (rows_len eP_len _) (rows_len eP_len _) (by (try simp only [List.length_map, List.length_append, List.length_cons, List.length_nil, List.length_take, List.length_drop]); show _ * 24 ≤ _; omega) (by first | (simp; done) | (simp; omega)) (by simp) (by first | (simp; done) | (simp; omega)) (fun _ => noOwnR_map _ eP_noOwn _)) (mdOk rfl) ?_
      refine drnL [9] (by kernel_rfl) (by kernel_rfl) rfl rfl ?_
      refine AHL_lateDid 10 rfl (by kernel_rfl) rfl rfl (dA_step rfl) ?_
      refine AH_end (by kernel_rfl) ?_
      refine rn rfl ?_
      refine rn rfl (fin_is [] rfl ⟨⟨f.places, f.named ++ [⟨v, v'⟩]⟩, _, ⟨by simp; omega, by simp; omega, ?_, ?_, hf.nums⟩, ?_, ?_, ?_, rfl⟩)
      · intro p hp; simp at hp; rcases hp with hp | rfl
        · exact hf.names p hp
        · exact hv
      · intro p hp; simp at hp; rcases hp with hp | rfl
        · exact hf.vals p hp
        · exact ⟨hv2, hv3⟩
      · omega
      · omega
      · rw [takeAll eI _ _ rfl, takeAll eP _ _ (by simp)]; rfl
    · refine rn rfl ?_
      refine goal_cond rfl (fun h3 => ?_) (fun h3 => ?_) <;> (try simp only [gt_iff_lt, ge_iff_le, bne_iff_ne, ne_eq, bne_eq_false_iff_eq, beq_iff_eq, beq_eq_false_iff_ne, Bool.not_eq_true', Bool.not_eq_false', decide_eq_true_eq, decide_eq_false_iff_not, List.length_map] at h3)
      · refine rn rfl ?_
        refine goal_did rfl rfl (dA_make 9 ((List.replicate 9 (0 : Int)).map eI) rfl rfl rfl rfl rfl rfl rfl rfl rfl rfl (by decide) (by omega) rfl) ?_
        refine rn rfl ?_
        refine rn rfl (fin_is [] rfl ⟨⟨List.replicate 9 0, f.named⟩, _, ⟨by simp, by simp; omega, hf.names, hf.vals, ?_⟩, ?_, ?_, ?_, rfl⟩)
        · intro n hn; simp at hn; omega
        · omega
        · omega
        · rw [takeAll eP _ _ rfl]; rfl
      · refine rn rfl ?_
        refine rn rfl (fin_is [] rfl ⟨f, _, ⟨by omega, by omega, hf.names, hf.vals, hf.nums⟩, ?_, ?_, ?_, rfl⟩)
        · omega
        · omega
        · rw [takeAll eI _ _ rfl, takeAll eP _ _ rfl]; rfl

theorem Small.long {f : Flat} {a b : Nat} (h : Small f a b) : ∀ p ∈ f.named, p.name.length ≤ 9223372036854775807 := fun p hp => by have := h.names p hp; omega

theorem drawDropName_ct (bs : Str) :
    ACalls pk 18 [.one (.fs (bs.map rowB))] [] (fun r o => ∃ f n, Small f 9 4 ∧ n.length ≤ 7 ∧ r = .tup [.agg (eF f), .one (.str n)] ∧ o = []) := by
  have hb : (bs.take 2000).length ≤ 2000 := by simp; omega
  refine acalls_of_body Try.func18 rfl (by kernel_rfl) rfl ?_
  refine rn rfl ?_
  refine goal_step (step_call [] rfl rfl rfl rfl rfl rfl (newReader_ct bs)) ?_
  rintro σ2 ⟨r, o', ⟨rfl, rfl⟩, hσ⟩
  obtain rfl := Option.some.inj hσ
  clear hσ
  refine rn rfl ?_
  refine goal_step (step_callE [1] rfl rfl rfl rfl rfl rfl (rfl) (someFlat_ct (bs.take 2000) 0 hb (by omega) (by omega))) ?_
  rintro σ2 ⟨r, o', ⟨f, k1, hf, hk1, hk2, rfl, rfl⟩, hσ⟩
  obtain rfl := Option.some.inj hσ
  clear hσ
  refine rn rfl ?_
  have tail : ∀ σ : State, σ = σ → True := fun _ _ => trivial
  refine goal_guard rfl rfl rfl (fun h => ?_) (fun h => ?_) <;> (try simp only [gt_iff_lt, ge_iff_le, bne_iff_ne, ne_eq, bne_eq_false_iff_eq, beq_iff_eq, beq_eq_false_iff_ne, Bool.not_eq_true', Bool.not_eq_false', decide_eq_true_eq, decide_eq_false_iff_not, List.length_map] at h)
  · refine rn rfl ?_
    refine goal_step (step_callE [1] rfl rfl rfl rfl rfl rfl (rfl) (pick_ct (bs.take 2000) k1 4 hb (by omega) (by omega) (by omega))) ?_
    rintro σ2 ⟨r, o', ⟨⟨z, rfl, _, _⟩, rfl⟩, hσ⟩
    obtain rfl := Option.some.inj hσ
    clear hσ
    refine rn rfl ?_
    refine goal_cond rfl (fun h2 => ?_) (fun h2 => ?_) <;> (try simp only [gt_iff_lt, ge_iff_le, bne_iff_ne, ne_eq, bne_eq_false_iff_eq, beq_iff_eq, beq_eq_false_iff_ne, Bool.not_eq_true', Bool.not_eq_false', decide_eq_true_eq, decide_eq_false_iff_not, List.length_map] at h2)
    · refine rn rfl ?_
      refine goal_draw' [2] 13 rfl ?_
      refine drn [0, 1, 2, 3, 4, 5, 6] (by kernel_rfl) (by kernel_rfl) rfl rfl ?_
      refine AH_one (i := 7) (by kernel_rfl) (step_callE [1] rfl rfl rfl rfl rfl rfl (rfl) (pick_ct (bs.take 2000) (k1 + 1) (f.named.map eP).length hb (by omega) (by omega) (by have := hf.named; simp; omega))) (by simp) ?_
      rintro σ2 ⟨r, o', ⟨⟨y, rfl, hy, _⟩, rfl⟩, hσ⟩
      obtain rfl := Option.some.inj hσ
      clear hσ
      obtain ⟨p, hp⟩ := at_some (xs := f.named) (i := y.toNat) (by have := hy (by simp; omega); simp at this; omega)
      have hy' := hy (by simp; omega)
      simp only [List.length_map] at hy'
      refine AH_did 8 rfl (by kernel_rfl) (by kernel_rfl) (by kernel_rfl) rfl rfl (dA_index (eP p) rfl rfl rfl rfl rfl rfl rfl (by omega) (by (try simp); omega) (map_at (by simpa using hp)) rfl) ?_
      refine drn [9, 10] (by kernel_rfl) (by kernel_rfl) rfl rfl ?_
      refine AH_oneDid 11 rfl (by kernel_rfl) rfl (dA_step rfl) (mdOk rfl) ?_
      refine drn [12] (by kernel_rfl) (by kernel_rfl) rfl rfl ?_
      refine AH_end (by kernel_rfl) ?_
      refine rn rfl ?_
      exact fin_is [] rfl ⟨f, p.name, hf, hf.names p (List.mem_of_getElem? hp), rfl, rfl⟩
    · refine rn rfl ?_
      refine goal_draw' [2] 5 rfl ?_
      refine drn [0, 1] (by kernel_rfl) (by kernel_rfl) rfl rfl ?_
      refine AH_one (i := 2) (by kernel_rfl) (step_callE [1] rfl rfl rfl rfl rfl rfl (rfl) (anyName_ct (bs.take 2000) (k1 + 1) hb (by omega) (by omega))) (by simp) ?_
      rintro σ2 ⟨r, o', ⟨⟨v, hv, rfl⟩, rfl⟩, hσ⟩
      obtain rfl := Option.some.inj hσ
      clear hσ
      refine AH_oneDid 3 rfl (by kernel_rfl) rfl (dA_step rfl) (mdOk rfl) ?_
      refine drn [4] (by kernel_rfl) (by kernel_rfl) rfl rfl ?_
      refine AH_end (by kernel_rfl) ?_
      refine rn rfl ?_
      exact fin_is [] rfl ⟨f, v, hf, hv, rfl, rfl⟩
  · refine rn rfl ?_
    refine goal_condF rfl ?_
    refine rn rfl ?_
    refine goal_draw' [2] 5 rfl ?_
    refine drn [0, 1] (by kernel_rfl) (by kernel_rfl) rfl rfl ?_
    refine AH_one (i := 2) (by kernel_rfl) (step_callE [1] rfl rfl rfl rfl rfl rfl (rfl) (anyName_ct (bs.take 2000) k1 hb (by omega) (by omega))) (by simp) ?_
    rintro σ2 ⟨r, o', ⟨⟨v, hv, rfl⟩, rfl⟩, hσ⟩
    obtain rfl := Option.some.inj hσ
    clear hσ
    refine AH_oneDid 3 rfl (by kernel_rfl) rfl (dA_step rfl) (mdOk rfl) ?_
    refine drn [4] (by kernel_rfl) (by kernel_rfl) rfl rfl ?_
    refine AH_end (by kernel_rfl) ?_
    refine rn rfl ?_
    exact fin_is [] rfl ⟨f, v, hf, hv, rfl, rfl⟩

theorem tellF (f : Flat) (b : Bool) : T.tup [.agg [.fs (List.take f.places.length (List.drop 0 (f.places.map eI))), .fs (List.take f.named.length (List.drop 0 (f.named.map eP)))], .one (.bool b)] = .tup [.agg (eF f), .one (.bool b)] := by
  rw [takeAll eI _ _ rfl, takeAll eP _ _ rfl]; rfl

theorem idropName_d (f : Flat) (n : Str) (h1 : f.places.length ≤ 1048576) (h2 : f.named.length ≤ 1048576) (hn : ∀ p ∈ f.named, p.name.length ≤ 9223372036854775807) :
    ACalls pk 19 [.agg (eF f), .one (.str n)] [] (fun r o => r = .tup [.agg (eF (dropF f n).1), .one (.bool (dropF f n).2)] ∧ o = []) :=
  (idropName_ct f n h1 h2 hn).told [] (by rintro r o ⟨rfl, rfl⟩; exact ⟨_, _, rfl, tellF _ _, rfl⟩)

theorem sdropName_d (f : Flat) (n : Str) (h1 : f.places.length ≤ 1048576) (h2 : f.named.length ≤ 1048576) (hn : ∀ p ∈ f.named, p.name.length ≤ 9223372036854775807) :
    ACalls pk 20 [.agg (eF f), .one (.str n)] [] (fun r o => r = .tup [.agg (eF (dropF f n).1), .one (.bool (dropF f n).2)] ∧ o = []) :=
  (sdropName_ct f n h1 h2 hn).told [] (by rintro r o ⟨rfl, rfl⟩; exact ⟨_, _, rfl, tellF _ _, rfl⟩)

theorem putName_d (f : Flat) (n : Str) (v : Int) (h1 : f.places.length ≤ 1048576) (h2 : f.named.length ≤ 1048576) (hn : ∀ p ∈ f.named, p.name.length ≤ 9223372036854775807) (hnn : n.length ≤ 9223372036854775807) :
    ACalls pk 22 [.agg (eF f), .one (.str n), .one (.int .i64 v)] [] (fun r o => r = .tup [.agg (eF (putNameF f n v).1), .one (.bool (putNameF f n v).2)] ∧ o = []) :=
  (putName_ct f n v h1 h2 hn hnn).told [] (by rintro r o ⟨rfl, rfl⟩; exact ⟨_, _, rfl, tellF _ _, rfl⟩)

theorem insL_perm (p : Pair) (S : List Pair) : (insL p S).Perm (p :: S) := by
  unfold insL
  have h := List.takeWhile_append_dropWhile (p := fun q => ltN q p) (l := S)
  exact (List.perm_middle).trans (by rw [h])

theorem foldl_insL_perm : ∀ (xs S : List Pair), (xs.foldl (fun out p => insL p out) S).Perm (xs ++ S)
  | [], S => by simp
  | x :: xs, S => by
    simp only [List.foldl_cons]
    exact (foldl_insL_perm xs (insL x S)).trans ((List.Perm.append_left xs (insL_perm x S)).trans List.perm_middle)

theorem sortL_perm (xs : List Pair) : (sortL xs).Perm xs := by simpa [sortL] using foldl_insL_perm xs []

theorem foldl_insL_sorted : ∀ (xs S : List Pair), Sorted S → (namesOf (xs ++ S)).Nodup → Sorted (xs.foldl (fun out p => insL p out) S)
  | [], S, h, _ => h
  | x :: xs, S, h, hn => by
    simp only [List.foldl_cons]
    have hx : ∀ q ∈ S, q.name ≠ x.name := by
      intro q hq he
      simp only [namesOf, List.cons_append, List.map_cons, List.nodup_cons, List.map_append, List.mem_append, not_or] at hn
      exact hn.1.2 (he ▸ List.mem_map_of_mem hq)
    refine foldl_insL_sorted xs _ (insL_sorted h hx) ?_
    refine (List.Perm.nodup_iff ?_).1 hn
    exact (List.Perm.map _ ((List.Perm.append_left xs (insL_perm x S)).trans List.perm_middle)).symm

theorem sortL_sorted {xs : List Pair} (h : (namesOf xs).Nodup) : Sorted (sortL xs) := foldl_insL_sorted xs [] List.Pairwise.nil (by simpa using h)

theorem sorted_eq {a b : List Pair} (ha : Sorted a) (hb : Sorted b) (h : a.Perm b) : a = b := by
  refine List.Perm.eq_of_pairwise (le := fun x y => ltN x y = true) ?_ ha hb h
  intro x y _ _ h1 h2
  exact absurd h1 (by rw [show ltN x y = false from ltS_asymm h2]; simp)

theorem sort_iff {a b : List Pair} (ha : (namesOf a).Nodup) (hb : (namesOf b).Nodup) : isortL ltN a = isortL ltN b ↔ a.Perm b := by
  rw [sorts_eq a ha, sorts_eq b hb]
  constructor
  · intro h; exact (sortL_perm a).symm.trans (h ▸ sortL_perm b)
  · intro h; exact sorted_eq (sortL_sorted ha) (sortL_sorted hb) ((sortL_perm a).trans (h.trans (sortL_perm b).symm))

structure OkF (f : Flat) : Prop where
  pairs : ∀ p ∈ f.named, okPair p = true
  nodup : (namesOf f.named).Nodup
  vals : ∀ n ∈ f.places, okVal n = true
  places : f.places.length ≤ 8
  named : f.named.length ≤ 8

theorem okFlat_iff {f : Flat} : okFlat f = true ↔ OkF f := by
  simp only [okFlat, Bool.and_eq_true, List.all_eq_true, decide_eq_true_eq]
  exact ⟨fun ⟨⟨⟨⟨a, b⟩, c⟩, d⟩, e⟩ => ⟨a, b, c, d, e⟩, fun ⟨a, b, c, d, e⟩ => ⟨⟨⟨⟨a, b⟩, c⟩, d⟩, e⟩⟩

theorem OkF.perm {f g : Flat} (h : OkF f) (hp : g.places = f.places) (hn : g.named.Perm f.named) : OkF g :=
  ⟨fun p hp => h.pairs p (hn.mem_iff.1 hp), (List.Perm.nodup_iff (hn.map _)).2 h.nodup, by rw [hp]; exact h.vals, by rw [hp]; exact h.places, by rw [hn.length_eq]; exact h.named⟩

theorem sameF_perm {f g : Flat} (h : OkF f) (hp : g.places = f.places) (hn : g.named.Perm f.named) : sameF g f = true := by
  have hg := h.perm hp hn
  simp only [sameF, okFlat_iff.2 h, okFlat_iff.2 hg, Bool.true_and, Bool.and_eq_true, decide_eq_true_eq]
  exact ⟨hp, (sort_iff hg.nodup h.nodup).2 hn⟩

/-- The last value with a name. -/
def lastVal (n : Str) (ps : List Pair) : Int := ps.foldl (fun v p => if p.name = n then p.value else v) 0

theorem lastVal_none {n : Str} : ∀ (ps : List Pair) (v : Int), n ∉ namesOf ps → ps.foldl (fun v p => if p.name = n then p.value else v) v = v
  | [], v, _ => rfl
  | p :: ps, v, h => by
    simp only [namesOf, List.map_cons, List.mem_cons, not_or] at h
    simp only [List.foldl_cons, if_neg (Ne.symm h.1)]
    exact lastVal_none ps v h.2

theorem split_at {ps : List Pair} {i : Nat} {p : Pair} (h : ps[i]? = some p) : ps = ps.take i ++ p :: ps.drop (i + 1) := by
  rw [← drop_at h, List.take_append_drop]

theorem lastVal_at {ps : List Pair} {i : Nat} {p : Pair} (hnd : (namesOf ps).Nodup) (h : ps[i]? = some p) : lastVal p.name ps = p.value := by
  have hs := split_at h
  have hn : p.name ∉ namesOf (ps.drop (i + 1)) := by
    rw [hs] at hnd
    simp only [namesOf, List.map_append, List.map_cons] at hnd
    exact (List.nodup_cons.1 (List.nodup_append.1 hnd).2.1).1
  unfold lastVal
  rw [hs, List.foldl_append, List.foldl_cons, if_pos rfl]
  exact lastVal_none _ _ hn

theorem dropName_back {f : Flat} {n : Str} (h : (dropF f n).2 = true) :
    (putNameF (dropF f n).1 n (lastVal n f.named)).2 = true ∧ sameF (putNameF (dropF f n).1 n (lastVal n f.named)).1 f = true ∧ (dropF f n).1.named.any (nameIs n) = false := by
  unfold dropF at h ⊢
  by_cases hc : (okFlat f && f.named.any (nameIs n)) = true
  · rw [if_pos hc]
    simp only [Bool.and_eq_true] at hc
    have hF := okFlat_iff.1 hc.1
    obtain ⟨_, hlt⟩ := pairIx_some hc.2
    obtain ⟨p, hp⟩ := at_some hlt
    have hpn : p.name = n := by
      have := List.findIdx_getElem (w := hlt)
      rw [List.getElem?_eq_getElem hlt] at hp
      simp only [Option.some.injEq] at hp
      rw [hp] at this
      simpa [nameIs] using this
    generalize f.named.findIdx (nameIs n) = i at hp hlt ⊢
    have hs := split_at hp
    have hv := lastVal_at hF.nodup hp
    rw [hpn] at hv
    have hnd := hF.nodup
    rw [hs] at hnd
    simp only [namesOf, List.map_append, List.map_cons] at hnd
    obtain ⟨n1, n2, n3⟩ := List.nodup_append.1 hnd
    have hno : (f.named.take i ++ f.named.drop (i + 1)).any (nameIs n) = false := by
      rw [Bool.eq_false_iff]
      intro hh
      rw [any_nameIs] at hh
      simp only [namesOf, List.map_append, List.mem_append] at hh
      rcases hh with hh | hh
      · exact n3 _ hh _ (List.mem_cons_self ..) hpn.symm
      · exact (List.nodup_cons.1 n2).1 (hpn ▸ hh)
    have hput : putF ⟨f.places, f.named.take i ++ f.named.drop (i + 1)⟩ n (lastVal n f.named) = ⟨f.places, (f.named.take i ++ f.named.drop (i + 1)) ++ [p]⟩ := by
      rw [putF, putP, if_neg (by rw [hno]; simp), hv, ← hpn]
    have hperm : ((f.named.take i ++ f.named.drop (i + 1)) ++ [p]).Perm f.named := by
      conv => rhs; rw [hs]
      rw [List.append_assoc]
      exact List.Perm.append_left _ List.perm_append_comm
    have hg : OkF ⟨f.places, f.named.take i ++ f.named.drop (i + 1)⟩ := by
      refine ⟨fun q hq => hF.pairs q ?_, ?_, hF.vals, hF.places, ?_⟩
      · simp at hq; rcases hq with hq | hq
        · exact List.mem_of_mem_take hq
        · exact List.mem_of_mem_drop hq
      · simp only [namesOf, List.map_append]
        exact List.nodup_append.2 ⟨n1, (List.nodup_cons.1 n2).2, fun a ha b hb => n3 a ha b (List.mem_cons_of_mem _ hb)⟩
      · have := hF.named; simp; omega
    have hF' := hF.perm (g := ⟨f.places, (f.named.take i ++ f.named.drop (i + 1)) ++ [p]⟩) rfl hperm
    have hpn' : putNameF ⟨f.places, f.named.take i ++ f.named.drop (i + 1)⟩ n (lastVal n f.named) = (⟨f.places, (f.named.take i ++ f.named.drop (i + 1)) ++ [p]⟩, true) := by
      simp only [putNameF, checkF, hput, okFlat_iff.2 hg, okFlat_iff.2 hF', Bool.and_self, if_true]
    simp only [hpn']
    exact ⟨trivial, sameF_perm hF rfl hperm, hno⟩
  · rw [if_neg hc] at h; simp at h

theorem putNameF_len (f : Flat) (n : Str) (v : Int) : (putNameF f n v).1.places.length ≤ 8 ∧ (putNameF f n v).1.named.length ≤ 8 ∧ ∀ p ∈ (putNameF f n v).1.named, p.name.length ≤ 9223372036854775807 := by
  unfold putNameF checkF
  split
  · rename_i h
    simp only [Bool.and_eq_true] at h
    have hF := okFlat_iff.1 h.2
    refine ⟨hF.places, hF.named, fun p hp => ?_⟩
    have := hF.pairs p hp
    simp only [okPair, okName, inR, Bool.and_eq_true, decide_eq_true_eq] at this
    omega
  · simp [zF]

theorem fnDropName_ct (bs : Str) (hl : bs.length ≤ 9223372036854775807) : ACalls pk 4 [.one (.fs (bs.map rowB))] [] (fun r o => r = .one (.bool true) ∧ o = []) := by
  refine acalls_of_body Try.func4 rfl (by kernel_rfl) rfl ?_
  refine rn rfl ?_
  refine goal_cond rfl (fun h => ?_) (fun h => ?_) <;> (try simp only [gt_iff_lt, ge_iff_le, bne_iff_ne, ne_eq, bne_eq_false_iff_eq, beq_iff_eq, beq_eq_false_iff_ne, Bool.not_eq_true', Bool.not_eq_false', decide_eq_true_eq, decide_eq_false_iff_not, List.length_map] at h)
  · exact rn rfl (fin_is [] rfl ⟨rfl, rfl⟩)
  · refine rn rfl ?_
    refine goal_step (step_call [] rfl rfl rfl rfl rfl rfl (drawDropName_ct bs)) ?_
    rintro σ2 ⟨r, o', ⟨f, n, hf, hn, rfl, rfl⟩, hσ⟩
    obtain rfl := Option.some.inj hσ
    clear hσ
    refine rn rfl ?_
    have hp := hf.places
    have hq := hf.named
    have hd : (dropF f n).1.places.length ≤ 9 ∧ (dropF f n).1.named.length ≤ 4 := by
      unfold dropF; split
      · exact ⟨hp, by simp; omega⟩
      · simp [zF]
    have hdn : ∀ p ∈ (dropF f n).1.named, p.name.length ≤ 7 := by
      unfold dropF; split
      · intro p hp; simp at hp
        rcases hp with hp | hp
        · exact hf.names p (List.mem_of_mem_take hp)
        · exact hf.names p (List.mem_of_mem_drop hp)
      · simp [zF]
    refine goal_step (step_call [] rfl rfl rfl rfl rfl rfl (idropName_d f n (by omega) (by omega) hf.long)) ?_
    rintro σ2 ⟨r, o', ⟨rfl, rfl⟩, hσ⟩
    obtain rfl := Option.some.inj hσ
    clear hσ
    refine rn rfl ?_
    refine goal_step (step_call [] rfl rfl rfl rfl rfl rfl (sdropName_d f n (by omega) (by omega) hf.long)) ?_
    rintro σ2 ⟨r, o', ⟨rfl, rfl⟩, hσ⟩
    obtain rfl := Option.some.inj hσ
    clear hσ
    refine rn rfl ?_
    refine goal_step (step_call [] rfl rfl rfl rfl rfl rfl (equalFlat_ct (dropF f n).1 (dropF f n).1 (by omega) (by omega))) ?_
    rintro σ2 ⟨r, o', ⟨rfl, rfl⟩, hσ⟩
    obtain rfl := Option.some.inj hσ
    clear hσ
    refine rn rfl ?_
    have e1 : (!(decide ((dropF f n).1 = (dropF f n).1))) = false := by simp
    simp only [e1]
    refine goal_guard rfl rfl rfl (fun h1 => ?_) (fun h1 => ?_)
    · cases h1
    · refine rn rfl ?_
      refine goal_guard rfl rfl rfl (fun h2 => ?_) (fun h2 => ?_)
      · simp at h2
      · refine rn rfl ?_
        refine goal_cond rfl (fun h3 => ?_) (fun h3 => ?_)
        · refine rn rfl ?_
          refine goal_step (step_call [] rfl rfl rfl rfl rfl rfl (equalFlat_ct (dropF f n).1 (dropF f n).1 (by omega) (by omega))) ?_
          rintro σ2 ⟨r, o', ⟨rfl, rfl⟩, hσ⟩
          obtain rfl := Option.some.inj hσ
          clear hσ
          refine rn rfl ?_
          refine goal_guard rfl rfl rfl (fun h4 => ?_) (fun h4 => ?_)
          · refine rn rfl (fin_is [] rfl ⟨?_, rfl⟩)
            simp
          · simp at h4
        · have h3' : (dropF f n).2 = true := by simpa using h3
          have hback := dropName_back h3'
          refine rn rfl ?_
          refine goal_loop_keep (fun m σ => ∃ (q v : Int) (i : Nat), q = i ∧ i ≤ f.named.length ∧ m = f.named.length - i ∧ v = lastVal n (f.named.take i) ∧
              σ = ⟨[(10, .one (.int .i64 q)), (9, .one (.int .i64 v)), (5, .one (.op 1 0 0)), (4, .one (.str n)), (3, .one (.op 0 0 0))], [some ⟨2, [eF f], false, false, true⟩, some ⟨2, [eF (dropF f n).1], false, false, true⟩], []⟩) f.named.length [10, 9, 5, 4, 3] [0, 1] rfl
            ⟨_, _, 0, rfl, by omega, by omega, rfl, rfl⟩ ?_
          rintro m σ ⟨q, v, i, rfl, hi, rfl, rfl, rfl⟩
          refine rn rfl ?_
          refine goal_cond rfl (fun h => ?_) (fun h => ?_) <;> (try simp only [gt_iff_lt, ge_iff_le, bne_iff_ne, ne_eq, bne_eq_false_iff_eq, beq_iff_eq, beq_eq_false_iff_ne, Bool.not_eq_true', Bool.not_eq_false', decide_eq_true_eq, decide_eq_false_iff_not, List.length_map] at h)
          · obtain ⟨p, hp⟩ := at_some (xs := f.named) (i := i) (by omega)
            have hst : lastVal n (f.named.take (i + 1)) = if p.name = n then p.value else lastVal n (f.named.take i) := by
              unfold lastVal; rw [foldl_take_succ _ _ hp]
            refine rn rfl ?_
            refine goal_did rfl rfl (dA_index (eP p) rfl rfl rfl rfl rfl rfl rfl (by omega) (by (try simp); omega) (map_at (by simpa using hp)) rfl) ?_
            refine rn rfl ?_
            refine goal_cond rfl (fun h5 => ?_) (fun h5 => ?_) <;> simp only [beq_iff_eq, beq_eq_false_iff_ne] at h5
            · refine rn rfl ?_
              refine goal_did rfl rfl (dA_index (eP p) rfl rfl rfl rfl rfl rfl rfl (by omega) (by (try simp); omega) (map_at (by simpa using hp)) rfl) ?_
              refine rn rfl ?_
              refine round_keep (f.named.length - (i + 1)) [10, 9, 5, 4, 3] [0, 1] (by omega) rfl ⟨_, _, i + 1, wrap64 (by omega) (by omega), by omega, rfl, ?_, rfl⟩
              rw [hst, if_pos h5]
            · refine rn rfl ?_
              refine round_keep (f.named.length - (i + 1)) [10, 9, 5, 4, 3] [0, 1] (by omega) rfl ⟨_, _, i + 1, wrap64 (by omega) (by omega), by omega, rfl, ?_, rfl⟩
              rw [hst, if_neg h5]
          · rw [show f.named.take i = f.named by rw [show i = f.named.length by omega, List.take_length]]
            refine rn rfl ?_
            refine round_ext ?_
            refine rn rfl ?_
            refine goal_step (step_call [] rfl rfl rfl rfl rfl rfl (putName_d (dropF f n).1 n (lastVal n f.named) (by omega) (by omega) (fun p hp => by have := hdn p hp; omega) (by omega))) ?_
            rintro σ2 ⟨r, o', ⟨rfl, rfl⟩, hσ⟩
            obtain rfl := Option.some.inj hσ
            clear hσ
            refine rn rfl ?_
            rw [hback.1]
            have hb := putNameF_len (dropF f n).1 n (lastVal n f.named)
            refine goal_guard rfl rfl rfl (fun h6 => ?_) (fun h6 => ?_)
            · refine rn rfl ?_
              refine goal_step (step_call [] rfl rfl rfl rfl rfl rfl (sameFlat_ct (putNameF (dropF f n).1 n (lastVal n f.named)).1 f (by omega) (by omega) hb.2.2 (by omega) (by omega) hf.long)) ?_
              rintro σ2 ⟨r, o', ⟨rfl, rfl⟩, hσ⟩
              obtain rfl := Option.some.inj hσ
              clear hσ
              refine rn rfl ?_
              rw [hback.2.1]
              refine goal_guard rfl rfl rfl (fun h7 => ?_) (fun h7 => ?_)
              · refine rn rfl ?_
                refine goal_step (step_call [] rfl rfl rfl rfl rfl rfl (lawNamed_ct (dropF f n).1 n (by omega))) ?_
                rintro σ2 ⟨r, o', ⟨rfl, rfl⟩, hσ⟩
                obtain rfl := Option.some.inj hσ
                clear hσ
                refine rn rfl ?_
                rw [hback.2.2]
                exact rn rfl (fin_is [] rfl ⟨rfl, rfl⟩)
              · cases h7
            · cases h6

/-- All of the memory, as data. -/
def allD (w : World) (b : Nat) : Prop := b < w.heap.size

/-- A value of type 't' that can be read is some 'a', its cells told by 'enc'. -/
def Opens (P : Program) (t : TypeId) {α : Type} (enc : α → List C) (ok : α → Prop) : Prop :=
  ∀ (H : Type) (en : TypeId × Value → H) (w : World) (fuel : Nat) (cs : List Value) (x : DataW H × List MemPlace), DataW.trod en P w 0 (fun _ => true) true fuel t cs = some x →
    ∃ a : α, ok a ∧ CRp (allD w) w.heap [] (enc a) cs ∧ cs.length = (enc a).length

theorem opens_slice {P : Program} {t e : TypeId} {α : Type} {enc : α → List C} {ok : α → Prop} {sz : Nat} (ht : P.underlying t = some (.slice e)) (hc : P.cellsOf e = sz) (h0 : 0 < sz) (hl : ∀ a, (enc a).length = sz) (he : Opens P e enc ok) :
    Opens P t (fun xs : List α => [.fs (xs.map enc)]) (fun xs => xs.length ≤ 9223372036854775807 ∧ ∀ x ∈ xs, ok x) := by
  intro H en w fuel cs x h
  rcases DataW.trod_slice ht h with ⟨rfl, _⟩ | ⟨a, len, cap, elems, rest, n, _, rfl, _, _, hlc, hm, hlen, hel, _, _⟩
  · refine ⟨[], by simp, ?_, rfl⟩
    simp only [CRp, CR, List.map_nil, List.length_nil, and_true]
    exact ⟨none, 0, rfl, Nat.le_refl _, .inl trivial⟩
  · have each : ∀ i, i < len → ∃ cs' : List Value, w.cells? 0 (a.add (i * sz)) sz = some cs' ∧ ∃ b : α, ok b ∧ CRp (allD w) w.heap [] (enc b) cs' ∧ cs'.length = (enc b).length := by
      intro i hi
      have := hel i hi
      rw [hc] at this
      obtain ⟨y, hy⟩ : ∃ y, elems[i]? = some y := ⟨elems[i], by simp [hlen, hi]⟩
      rw [hy, Option.bind_eq_some_iff] at this
      obtain ⟨cs', h1, h2⟩ := this
      obtain ⟨b, hb⟩ := he H en w n cs' y h2
      exact ⟨cs', h1, b, hb⟩
    have hxs : ∀ k, k ≤ len → ∃ xs : List α, xs.length = k ∧ (∀ x ∈ xs, ok x) ∧ ∀ (i : Nat) (b : α), xs[i]? = some b → ∃ cs', w.cells? 0 (a.add (i * sz)) sz = some cs' ∧ CRp (allD w) w.heap [] (enc b) cs' := by
      intro k
      induction k with
      | zero => intro _; exact ⟨[], rfl, by simp, by simp⟩
      | succ k ih =>
        intro hk
        obtain ⟨xs, q1, q2, q3⟩ := ih (by omega)
        obtain ⟨cs', h1, b, hb1, hb2, _⟩ := each k (by omega)
        refine ⟨xs ++ [b], by simp [q1], ?_, ?_⟩
        · intro x hx
          rcases List.mem_append.1 hx with hx | hx
          · exact q2 x hx
          · simp at hx; subst hx; exact hb1
        · intro i b' hi
          rw [getElem?_app_one] at hi
          split at hi
          · exact q3 i b' hi
          · split at hi
            · rename_i heq
              simp at hi
              subst hi
              rw [heq, q1]
              exact ⟨cs', h1, hb2⟩
            · cases hi
    obtain ⟨xs, q1, q2, q3⟩ := hxs len (Nat.le_refl _)
    refine ⟨xs, ⟨?_, q2⟩, ?_, rfl⟩
    · rw [q1]; exact Nat.le_trans (Nat.le_trans hlc hm) (by decide)
    · simp only [CRp, CR, and_true]
      refine ⟨some a, cap, by simp [q1], by simpa [q1] using hlc, ?_⟩
      rcases Nat.eq_zero_or_pos len with hz | hz
      · left
        have : xs = [] := List.eq_nil_of_length_eq_zero (by omega)
        simp [this]
      · right
        obtain ⟨b0, hb0⟩ : ∃ b, xs[0]? = some b := ⟨xs[0], by simp [q1, hz]⟩
        obtain ⟨cs0, hc0, _⟩ := q3 0 b0 hb0
        have hcell0 := (World.cells?_some hc0).2.2 0 (by omega)
        have hl0 := (World.cells?_some hc0).1
        -- where the row lies
        obtain ⟨cells, tt, fr, hh, hs⟩ : ∃ cells tt fr, w.heap[a.block]? = some (.cells cells tt fr) ∧ a.spot = none := by
          have hv : ∃ v, w.cell? a = some v := by
            have h2 : a.add (0 * sz) = a := by simp [Addr.add]
            rw [h2] at hcell0
            have h3 : a.add 0 = a := by simp [Addr.add]
            rw [h3] at hcell0
            have : cs0[0]? ≠ none := by
              have h4 : cs0.length = sz := by
                have := World.cells?_some hc0
                first | exact this.1 | exact this.2.1
              rw [List.getElem?_eq_getElem (by omega)]; simp
            exact ⟨cs0[0]?.get (by cases hx : cs0[0]? with | none => exact absurd hx this | some v => rfl), by rw [hcell0]; simp⟩
          obtain ⟨v, hv⟩ := hv
          unfold World.cell? at hv
          split at hv
          · rename_i cells tt fr hh
            split at hv
            · cases hv
            · rename_i hsp
              exact ⟨cells, tt, fr, hh, by cases hq : a.spot with | none => rfl | some _ => rw [hq] at hsp; simp at hsp⟩
          · cases hv
        refine ⟨a, cells, tt, fr, sz, rfl, hs, (Array.getElem?_eq_some_iff.1 hh).1, hh, ?_⟩
        rw [CRr_iff]
        intro i r hi
        rw [List.getElem?_map] at hi
        cases hxi : xs[i]? with
        | none => rw [hxi] at hi; simp at hi
        | some b =>
          rw [hxi] at hi
          simp at hi
          subst hi
          obtain ⟨cs', hc', hr'⟩ := q3 i b hxi
          refine ⟨hl b, CRp.congr (fun j hj => ?_) hr'⟩
          rw [hl b] at hj
          have := (World.cells?_some hc').2.2 j hj
          rw [← this]
          have ha : (a.add (i * sz)).add j = ⟨a.block, a.off + i * sz + j, none⟩ := by rw [add_eq a _ hs, add_eq _ _ rfl]
          rw [ha, List.getElem?_drop]
          simp [World.cell?, hh, Nat.add_assoc]

section
open Go Go.ChangeShapes Go.WideShapes Go.ChangeAt Go.RowKit
theorem TIok.cellsOf {P : Program} {t : Nat} {ti : TI} (H : TIok P t ti) : P.cellsOf t = ti.size := by
  obtain ⟨i, z, hi, hs, _⟩ := H.info
  simp [Program.cellsOf, hi, hs]

section

variable {X : Pk} {t : Nat} {ti te : TI}

theorem xo_slice {α : Type} {enc : α → List C} {ok : α → Prop} (h : findTI X.L t = some ti) (hk : ti.kind = 2) (he : findTI X.L ti.elem = some te) (h0 : Nat.blt 0 te.size = true) (hl : ∀ a, (enc a).length = te.size) (hE : Opens X.P ti.elem enc ok) :
    Opens X.P t (fun xs : List α => [.fs (xs.map enc)]) (fun xs => xs.length ≤ 9223372036854775807 ∧ ∀ x ∈ xs, ok x) :=
  opens_slice ((X.tiok h).slice hk) (X.tiok he).cellsOf (by simpa [Nat.blt_eq] using h0) hl hE

end

theorem Opens.map {P : Program} {t : TypeId} {α β : Type} {enc : α → List C} {ok : α → Prop} {enc' : β → List C} {ok' : β → Prop} (h : Opens P t enc ok) (g : α → β) (he : ∀ a, enc' (g a) = enc a) (ho : ∀ a, ok a → ok' (g a)) : Opens P t enc' ok' := by
  intro H en w fuel cs x hx
  obtain ⟨a, h1, h2, h3⟩ := h H en w fuel cs x hx
  exact ⟨g a, ho a h1, by rw [he]; exact h2, by rw [he]; exact h3⟩

/-- A law's contract, as a call from any memory. -/
theorem law_calls {X : Pk} {f : FuncId} {args : List T} {vals : Array Value} {w : World} (h : ACalls X f args [] (fun r o => r = .one (.bool true) ∧ o = [])) (ha : TRs (allD w) w.heap [] args vals.toList) :
    Calls X.P f vals w fun e w' => e = .returned (.bool true) ∧ Below w.heap.size w w' := by
  have hsr : SR (allD w) w.heap [] [] := ⟨rfl, by simp, by simp, by simp, fun b hb => hb⟩
  refine (h.2 (allD w) [] w vals.toList hsr ha (by simp)).mono ?_
  rintro en w' ⟨v, r, o', D', e', rfl, ⟨rfl, rfl⟩, htr, _, hext, _⟩
  simp only [TR, CR] at htr
  subst htr
  refine ⟨rfl, hext.os, hext.tape, hext.output, hext.size, fun k hk => hext.block k hk ?_⟩
  rintro ⟨id, a, esz, cap, n, he, _⟩
  simp at he
end

section
open Go Go.ChangeShapes
theorem cells_of_okWide {P : Program} {W : World} {r : Reach} {base : Nat} {t : TypeId} {v : Value} (hu : (∃ e, P.underlying t = some (.slice e)) ∨ (∃ k, P.underlying t = some (.int k)) ∨ P.underlying t = some .string)
    (h : Value.okWide P W r base t v) : v.cells.toList = [v] := by
  rcases hu with ⟨e, hu⟩ | ⟨k, hu⟩ | hu <;> cases v <;> first
    | rfl
    | (exfalso; simp [Value.okWide, hu, Cell.okWide, Cell.ok] at h)

theorem opens_u8 {P : Program} {t : TypeId} (ht : P.underlying t = some (.int .u8)) : Opens P t (fun b : UInt8 => [.int .u8 b.toNat]) (fun _ => True) := by
  intro H en w fuel cs x h
  obtain ⟨n, rfl, _, hw⟩ := DataW.trod_int ht h
  have hr : 0 ≤ n ∧ n < 256 := by
    simp [Lit.wf, IntKind.min, IntKind.max, IntKind.bits, IntKind.signed] at hw
    omega
  refine ⟨UInt8.ofNat n.toNat, trivial, ?_, rfl⟩
  simp only [CRp, CR, and_true]
  congr 1
  rw [UInt8.toNat_ofNat']
  omega

theorem xo_u8 {X : Pk} {t : Nat} {ti : TI} (h : findTI X.L t = some ti) (hk : ti.kind = 4) (hik : ti.ik = .u8) : Opens X.P t (fun b : UInt8 => [.int .u8 b.toNat]) (fun _ => True) := by
  have := (X.tiok h).int hk
  rw [hik] at this
  exact opens_u8 this

theorem openBytes : Opens pk.P 22 (fun bs : Str => [.fs (bs.map rowB)]) (fun bs => bs.length ≤ 9223372036854775807) :=
  Opens.map (xo_slice (enc := rowB) rfl rfl rfl rfl (fun _ => rfl) (xo_u8 rfl rfl rfl)) (fun x => x) (fun _ => rfl) (fun _ h => h.1)
end

end Go.Proofs.Ytodggffbepfemaa
