/- Part 4 of the proof: an abstract machine over the model; contracts of the functions that the law reaches. -/
import Derived.Test.YtalplgabhichfaaGreatKCallP3
set_option linter.unusedVariables false
set_option linter.unusedSimpArgs false
namespace Go.Proofs.YtalplgabhichfaaGreat
open Go
set_option maxRecDepth 100000
set_option maxHeartbeats 1000000

theorem take_snoc' {α : Type} {xs : List α} {i : Nat} {x : α} (h : xs[i]? = some x) : xs.take i ++ [x] = xs.take (i + 1) := take_snoc h

theorem growI_ct (n : Nat) (hn : n ≤ 4194304) : ACalls pk 217 [.one nilSl, .one (.int .i64 n)] [] (fun r o => ∃ rows kc, r = .one (.os 0 0 0 kc) ∧ o = [some ⟨1, rows, true, false, false⟩] ∧ (n = 0 → rows = [] ∧ kc = 0)) := by
  have hw : IntKind.i64.wrap ((n : Int) - IntKind.i64.wrap (0 - 0)) = n := by rw [show IntKind.i64.wrap (0 - 0) = 0 from rfl, wrap64] <;> omega
  refine acalls_of_body Tryz.func217 rfl (by kernel_rfl) rfl ?_
  refine rn rfl ?_
  refine goal_cond rfl (fun h => ?_) (fun h => ?_) <;> (try simp only [gt_iff_lt, ge_iff_le, bne_iff_ne, ne_eq, bne_eq_false_iff_eq, beq_iff_eq, beq_eq_false_iff_ne, Bool.not_eq_true', Bool.not_eq_false', decide_eq_true_eq, decide_eq_false_iff_not, List.length_map] at h)
  · omega
  · refine rn rfl ?_
    refine goal_did rfl rfl (dA_capNil rfl rfl rfl rfl rfl) ?_
    refine rn rfl ?_
    rw [hw]
    refine goal_cond rfl (fun h2 => ?_) (fun h2 => ?_) <;> (try simp only [gt_iff_lt, ge_iff_le, bne_iff_ne, ne_eq, bne_eq_false_iff_eq, beq_iff_eq, beq_eq_false_iff_ne, Bool.not_eq_true', Bool.not_eq_false', decide_eq_true_eq, decide_eq_false_iff_not, List.length_map] at h2)
    · refine rn rfl ?_
      refine goal_did rfl rfl (dA_capNil rfl rfl rfl rfl rfl) ?_
      refine rn rfl ?_
      refine goal_did rfl rfl (dA_sliceNil rfl rfl rfl rfl rfl rfl rfl) ?_
      refine rn rfl ?_
      refine goal_did rfl rfl (dA_growMake n (List.replicate n (eI (0 : Int))) rfl rfl rfl (by omega) rfl rfl rfl rfl rfl rfl rfl rfl (by show n * 8 ≤ _; omega) (by omega) rfl) ?_
      refine rn rfl ?_
      refine goal_did rfl rfl (dA_sliceOwn 0 0 n 0 0 n rfl rfl rfl rfl rfl rfl rfl Bnd.none_ (Bnd.some_ rfl rfl) (.inl ⟨rfl, rfl⟩) (by omega) (by omega) (by omega) (by simp) rfl rfl rfl rfl) ?_
      refine rn rfl ?_
      exact fin_is [0] rfl ⟨_, _, rfl, rfl, fun h0 => by omega⟩
    · refine rn rfl ?_
      exact fin_adopt 4 0 1 [0] rfl ⟨_, _, rfl, rfl, fun _ => ⟨rfl, rfl⟩⟩

theorem concatI_ct (xss : List (List Int)) (hn : xss.length ≤ 1000) (hl : xss.flatten.length ≤ 4194304) :
    ACalls pk 173 [.one (.fs (xss.map fun xs => [.fs (xs.map eI)]))] [] (fun r o => r = .one (.os 0 0 xss.flatten.length xss.flatten.length) ∧ o = [ownI xss.flatten]) := by
  have hpre : ∀ i, (xss.take i).flatten.length ≤ xss.flatten.length := fun i => by
    conv => rhs; rw [← List.take_append_drop i xss, List.flatten_append, List.length_append]
    omega
  have hsucc : ∀ (i : Nat) (xs : List Int), xss[i]? = some xs → (xss.take (i + 1)).flatten = (xss.take i).flatten ++ xs := fun i xs h => by
    rw [← take_snoc' h, List.flatten_append]; simp
  refine acalls_of_body Tryz.func173 rfl (by kernel_rfl) rfl ?_
  refine rn rfl ?_
  refine goal_loop_keep (fun m σ => ∃ (n L q : Int) (i : Nat), n = i ∧ L = xss.length ∧ i ≤ xss.length ∧ m = xss.length - i ∧ q = ((xss.take i).flatten.length : Nat) ∧
      σ = ⟨[(11, .one (.int .i64 n)), (10, .one (.int .i64 L)), (9, .one (.fs (xss.map fun xs => [.fs (xs.map eI)]))), (3, .one (.int .i64 q)), (0, .one (.fs (xss.map fun xs => [.fs (xs.map eI)])))], [], []⟩) xss.length [11, 10, 9, 3, 0] [] rfl
    ⟨_, _, _, 0, rfl, by simp, by omega, by omega, rfl, rfl⟩ ?_
  rintro m σ ⟨n, L, q, i, rfl, rfl, hi, rfl, rfl, rfl⟩
  refine rn rfl ?_
  refine goal_cond rfl (fun h => ?_) (fun h => ?_) <;> (try simp only [gt_iff_lt, ge_iff_le, bne_iff_ne, ne_eq, bne_eq_false_iff_eq, beq_iff_eq, beq_eq_false_iff_ne, Bool.not_eq_true', Bool.not_eq_false', decide_eq_true_eq, decide_eq_false_iff_not, List.length_map] at h)
  · obtain ⟨xs, hxs⟩ := at_some (xs := xss) (i := i) (by omega)
    have h1 := hpre (i + 1)
    have h2 := hsucc i xs hxs
    rw [h2, List.length_append] at h1
    have hw : IntKind.i64.wrap (((xss.take i).flatten.length : Nat) + (xs.length : Int)) = (((xss.take i).flatten ++ xs).length : Nat) := by rw [List.length_append, wrap64] <;> omega
    refine rn rfl ?_
    refine goal_did rfl rfl (dA_index [.fs (xs.map eI)] rfl rfl rfl rfl rfl rfl rfl (by omega) (by simp; omega) (map_at (enc := fun xs : List Int => [C.fs (xs.map eI)]) (by simpa using hxs)) rfl) ?_
    refine rn rfl ?_
    refine goal_cond rfl (fun h0 => ?_) (fun _ => ?_)
    · simp only [List.length_map, decide_eq_true_eq] at h0; rw [hw] at h0; omega
    · refine rn rfl ?_
      refine round_keep (xss.length - (i + 1)) [11, 10, 9, 3, 0] [] (by omega) rfl ⟨_, _, _, i + 1, wrap64 (by omega) (by omega), rfl, by omega, rfl, ?_, rfl⟩
      rw [List.length_map, hw, h2]
  · rw [show i = xss.length by omega, List.take_length]
    refine rn rfl ?_
    refine round_ext ?_
    refine rn rfl ?_
    refine goal_step (step_callRaw rfl rfl rfl rfl rfl rfl (growI_ct xss.flatten.length hl)) ?_
    rintro σ2 ⟨r, o', ⟨rows0, kc0, rfl, rfl, hz⟩, hσ⟩
    obtain rfl := Option.some.inj hσ
    clear hσ
    refine rn rfl ?_
    refine goal_loop_keep (fun m σ => ∃ (n L : Int) (i l kc : Nat) (rows : List (List C)), n = i ∧ L = xss.length ∧ i ≤ xss.length ∧ m = xss.length - i ∧ l = (xss.take i).flatten.length ∧ ((rows = (xss.take i).flatten.map eI ∧ kc = l) ∨ (i = 0 ∧ rows = rows0 ∧ kc = kc0)) ∧
        σ = ⟨[(27, .one (.int .i64 n)), (26, .one (.int .i64 L)), (25, .one (.fs (xss.map fun xs => [.fs (xs.map eI)]))), (6, .one (.os 0 0 l kc))], [some ⟨1, rows, true, false, false⟩], []⟩) xss.length [27, 26, 25, 6] [0] rfl
      ⟨_, ((xss.map fun xs => [C.fs (xs.map eI)]).length : Int), 0, 0, kc0, rows0, rfl, by simp, by omega, by omega, rfl, .inr ⟨rfl, rfl, rfl⟩, rfl⟩ ?_
    rintro m σ ⟨n, L, i, l, kc, rows, rfl, rfl, hi, rfl, rfl, hrows, rfl⟩
    have hold : (xss.take i).flatten.map eI = rows.take (xss.take i).flatten.length := by
      rcases hrows with ⟨rfl, _⟩ | ⟨rfl, _, _⟩
      · exact (List.take_of_length_le (by rw [List.length_map]; exact Nat.le_refl _)).symm
      · simp
    have hle : (xss.take i).flatten.length ≤ rows.length := by
      have := congrArg List.length hold
      simp only [List.length_map, List.length_take] at this; omega
    refine rn rfl ?_
    refine goal_cond rfl (fun h => ?_) (fun h => ?_) <;> (try simp only [gt_iff_lt, ge_iff_le, bne_iff_ne, ne_eq, bne_eq_false_iff_eq, beq_iff_eq, beq_eq_false_iff_ne, Bool.not_eq_true', Bool.not_eq_false', decide_eq_true_eq, decide_eq_false_iff_not, List.length_map] at h)
    · obtain ⟨xs, hxs⟩ := at_some (xs := xss) (i := i) (by omega)
      have h1 := hpre (i + 1)
      have h2 := hsucc i xs hxs
      rw [h2, List.length_append] at h1
      refine rn rfl ?_
      refine goal_did rfl rfl (dA_index [.fs (xs.map eI)] rfl rfl rfl rfl rfl rfl rfl (by omega) (by simp; omega) (map_at (enc := fun xs : List Int => [C.fs (xs.map eI)]) (by simpa using hxs)) rfl) ?_
      refine rn rfl ?_
      refine goal_did rfl rfl (dA_append (old := (xss.take i).flatten.map eI) (rows := xs.map eI) (((xss.take i).flatten ++ xs).map eI) (((xss.take i).flatten ++ xs).length) true (Dst.own rfl rfl rfl rfl rfl hle hold) (Src.fs rfl) rfl rfl rfl rfl rfl rfl rfl rfl (rows_len eI_len _) (rows_len eI_len _) (by simp only [List.length_map]; show _ * 8 ≤ _; omega) (by simp only [List.length_map]; omega) (by rw [List.map_append]) (by rw [List.length_map]) (fun _ => noOwnR_map _ eI_noOwn _)) ?_
      refine rn rfl ?_
      refine round_keep (xss.length - (i + 1)) [27, 26, 25, 6] [1] (by omega) rfl ⟨_, _, i + 1, ((xss.take i).flatten ++ xs).length, ((xss.take i).flatten ++ xs).length, ((xss.take i).flatten ++ xs).map eI, wrap64 (by omega) (by omega), rfl, by omega, rfl, by rw [h2], .inl ⟨by rw [h2], rfl⟩, rfl⟩
    · rw [show i = xss.length by omega, List.take_length] at hrows hold ⊢
      refine rn rfl ?_
      refine round_ext ?_
      have hfin : rows = xss.flatten.map eI ∧ kc = xss.flatten.length := by
        rcases hrows with hr | ⟨h0, hr, hk⟩
        · exact hr
        · have hx : xss = [] := List.eq_nil_of_length_eq_zero (by omega)
          subst hx
          obtain ⟨q1, q2⟩ := hz rfl
          exact ⟨by rw [hr, q1]; rfl, by rw [hk, q2]; rfl⟩
      obtain ⟨rfl, rfl⟩ := hfin
      exact rn rfl (fin_is [0] rfl ⟨rfl, rfl⟩)

theorem spPair_eq (ps : List Pair) (p : Pair) : spPair ps p = putP ps p.name p.value := by
  unfold spPair putP
  split
  · rename_i h
    obtain ⟨_, hlt⟩ := pairIx_some h
    obtain ⟨q, hq⟩ := at_some hlt
    have hqn : q.name = p.name := by
      have := List.findIdx_getElem (w := hlt)
      rw [List.getElem?_eq_getElem hlt] at hq
      simp only [Option.some.injEq] at hq
      rw [hq] at this
      simpa [nameIs] using this
    rw [modify_set _ hq, hqn]
  · rfl

def overN (ps qs : List Pair) : List Pair := qs.foldl (fun ps p => putP ps p.name p.value) ps

def overQ (f g : Flat) : Flat := ⟨f.places ++ g.places, overN f.named g.named⟩

def OverF (f g : Flat) : Flat × Bool := if okFlat f && okFlat g then checkF (overQ f g) true else (zF, false)

theorem overN_len : ∀ (qs ps : List Pair), (overN ps qs).length ≤ ps.length + qs.length
  | [], ps => by simp [overN]
  | q :: qs, ps => by
    have h1 := overN_len qs (putP ps q.name q.value)
    have h2 := putP_length ps q.name q.value
    simp only [overN, List.foldl_cons, List.length_cons] at h1 ⊢
    omega

theorem overN_mem : ∀ {qs ps : List Pair} {p : Pair}, p ∈ overN ps qs → (∃ q ∈ ps, p.name = q.name) ∨ ∃ q ∈ qs, p.name = q.name
  | [], ps, p, h => .inl ⟨p, h, rfl⟩
  | q :: qs, ps, p, h => by
    rcases overN_mem (qs := qs) (ps := putP ps q.name q.value) h with ⟨r, hr, hn⟩ | ⟨r, hr, hn⟩
    · rcases putP_mem hr with h1 | ⟨r', hr', h1⟩
      · exact .inr ⟨q, by simp, by rw [hn, h1]⟩
      · exact .inl ⟨r', hr', by rw [hn, h1]⟩
    · exact .inr ⟨r, by simp [hr], hn⟩

theorem LenF.over {f g : Flat} (hf : LenF f) (hg : LenF g) : (overQ f g).places.length ≤ 2097152 ∧ (overQ f g).named.length ≤ 2097152 ∧ ∀ p ∈ (overQ f g).named, p.name.length ≤ 9223372036854775807 := by
  refine ⟨by have := hf.places; have := hg.places; simp [overQ]; omega, by have h := overN_len g.named f.named; have := hf.named; have := hg.named; simp only [overQ]; omega, fun p hp => ?_⟩
  rcases overN_mem hp with ⟨q, hq, hn⟩ | ⟨q, hq, hn⟩
  · rw [hn]; exact hf.names q hq
  · rw [hn]; exact hg.names q hq

theorem tellFl (f : Flat) : T.agg [.fs (List.take f.places.length (List.drop 0 (f.places.map eI))), .fs (List.take f.named.length (List.drop 0 (f.named.map eP)))] = .agg (eF f) := by
  rw [takeAll eI _ _ rfl, takeAll eP _ _ rfl]; rfl

theorem put_d (f : Flat) (n : Str) (v : Int) (h1 : f.places.length ≤ 1048576) (h2 : f.named.length ≤ 1048576) :
    ACalls pk 174 [.agg (eF f), .one (.str n), .one (.int .i64 v)] [] (fun r o => r = .agg (eF (putF f n v)) ∧ o = []) :=
  (put_ct f n v h1 h2).told [] (by rintro r o ⟨rfl, rfl⟩; exact ⟨_, _, rfl, tellFl _, rfl⟩)

theorem concatI_d (xss : List (List Int)) (hn : xss.length ≤ 1000) (hl : xss.flatten.length ≤ 4194304) :
    ACalls pk 173 [.one (.fs (xss.map fun xs => [.fs (xs.map eI)]))] [] (fun r o => r = .one (.fs (xss.flatten.map eI)) ∧ o = []) :=
  (concatI_ct xss hn hl).told [] (by rintro r o ⟨rfl, rfl⟩; exact ⟨_, _, rfl, congrArg (fun x => T.one (C.fs x)) (takeAll eI _ _ rfl), rfl⟩)

theorem iover_ct (f g : Flat) (hf : LenF f) (hg : LenF g) : ACalls pk 103 [.agg (eF f), .agg (eF g)] [] (fun r o => r = .tup [rF (OverF f g).1, .one (.bool (OverF f g).2)] ∧ o = oF (OverF f g).1) := by
  have a1 := hf.places
  have a2 := hf.named
  have b1 := hg.places
  have b2 := hg.named
  refine acalls_of_body Tryz.func103 rfl (by kernel_rfl) rfl ?_
  refine rn rfl ?_
  refine goal_step (step_call [] rfl rfl rfl rfl rfl rfl (ivalidFlat_ct f (by omega) (by omega) hf.names)) ?_
  rintro σ2 ⟨r, o', ⟨rfl, rfl⟩, hσ⟩
  obtain rfl := Option.some.inj hσ
  clear hσ
  refine rn rfl ?_
  refine goal_guard rfl rfl rfl (fun h => ?_) (fun h => ?_) <;> (try simp only [gt_iff_lt, ge_iff_le, bne_iff_ne, ne_eq, bne_eq_false_iff_eq, beq_iff_eq, beq_eq_false_iff_ne, Bool.not_eq_true', Bool.not_eq_false', decide_eq_true_eq, decide_eq_false_iff_not, List.length_map] at h)
  · refine rn rfl ?_
    refine fin_weak (Weak.adoptO 2 0 1) (fin_weak (Weak.adoptO 2 1 2) (fin_is [3, 4] rfl ⟨?_, ?_⟩))
    · simp [OverF, h]; rfl
    · simp [OverF, h]; rfl
  refine rn rfl ?_
  refine goal_step (step_call [] rfl rfl rfl rfl rfl rfl (ivalidFlat_ct g (by omega) (by omega) hg.names)) ?_
  rintro σ2 ⟨r, o', ⟨rfl, rfl⟩, hσ⟩
  obtain rfl := Option.some.inj hσ
  clear hσ
  refine rn rfl ?_
  refine goal_cond rfl (fun h2 => ?_) (fun h2 => ?_) <;> (try simp only [gt_iff_lt, ge_iff_le, bne_iff_ne, ne_eq, bne_eq_false_iff_eq, beq_iff_eq, beq_eq_false_iff_ne, Bool.not_eq_true', Bool.not_eq_false', decide_eq_true_eq, decide_eq_false_iff_not, List.length_map] at h2)
  · refine rn rfl ?_
    refine fin_weak (Weak.adoptO 2 0 1) (fin_weak (Weak.adoptO 2 1 2) (fin_is [3, 4] rfl ⟨?_, ?_⟩))
    · simp [OverF, h2]; rfl
    · simp [OverF, h2]; rfl
  have hF := okFlat_iff.1 h
  have hG := okFlat_iff.1 h2
  have f1 := hF.named
  have g1 := hG.named
  have f2 := hF.places
  have g2 := hG.places
  refine rt1 3 rfl ?_
  refine goal_cutR (fun σ => σ = ⟨[(6, .one (.op 3 0 0)), (4, .one (.op 2 0 0)), (3, .one (.op 1 0 0)), (2, .one (.op 0 0 0))],
      [some ⟨2, [eF f], false, false, true⟩, some ⟨2, [eF g], false, false, true⟩, some ⟨2, [[.fs [], .fs []]], false, false, true⟩, some ⟨2, [eF ⟨f.places ++ g.places, f.named⟩], false, false, true⟩], []⟩) ?_ ?_
  · have hc := concatI_d [f.places, g.places] (by simp) (by simp; omega)
    have hfl : [f.places, g.places].flatten = f.places ++ g.places := by simp
    rw [hfl] at hc
    refine goal_draw' [0, 1] 11 rfl ?_
    refine drn [0, 1, 2, 3, 6, 7] (by kernel_rfl) (by kernel_rfl) rfl rfl ?_
    refine AH_two (i := 4) (j := 9) (by kernel_rfl) (step_did rfl rfl (dA_step rfl)) (mdOk rfl) (step_did rfl rfl (dA_step rfl)) (mdOk rfl) ?_ ?_
    · rintro _ rfl
      refine AH_two (i := 5) (j := 9) (by kernel_rfl) (step_call [] rfl rfl rfl rfl rfl rfl (hc)) (by simp) (step_did rfl rfl (dA_step rfl)) (mdOk rfl) ?_ ?_
      · rintro σ2 ⟨r, o', ⟨rfl, rfl⟩, hσ⟩
        obtain rfl := Option.some.inj hσ
        clear hσ
        refine drn [8] (by kernel_rfl) (by kernel_rfl) rfl rfl ?_
        refine AH_oneDid 9 rfl (by kernel_rfl) rfl (dA_step rfl) (mdOk rfl) ?_
        refine AH_oneDid 10 rfl (by kernel_rfl) rfl (dA_step rfl) (mdOk rfl) ?_
        refine AH_end (by kernel_rfl) ?_
        refine rn rfl ?_
        exact cut_nrm [6, 4, 3, 2] [0, 1, 2, 4] rfl rfl
      · rintro _ rfl
        refine AH_one (i := 5) (by kernel_rfl) (step_call [] rfl rfl rfl rfl rfl rfl (hc)) (by simp) ?_
        rintro σ2 ⟨r, o', ⟨rfl, rfl⟩, hσ⟩
        obtain rfl := Option.some.inj hσ
        clear hσ
        refine drn [8] (by kernel_rfl) (by kernel_rfl) rfl rfl ?_
        refine AH_oneDid 10 rfl (by kernel_rfl) rfl (dA_step rfl) (mdOk rfl) ?_
        refine AH_end (by kernel_rfl) ?_
        refine rn rfl ?_
        exact cut_nrm [6, 4, 3, 2] [0, 1, 2, 4] rfl rfl
    · rintro _ rfl
      refine AH_oneDid 4 rfl (by kernel_rfl) rfl (dA_step rfl) (mdOk rfl) ?_
      refine AH_one (i := 5) (by kernel_rfl) (step_call [] rfl rfl rfl rfl rfl rfl (hc)) (by simp) ?_
      rintro σ2 ⟨r, o', ⟨rfl, rfl⟩, hσ⟩
      obtain rfl := Option.some.inj hσ
      clear hσ
      refine drn [8] (by kernel_rfl) (by kernel_rfl) rfl rfl ?_
      refine AH_oneDid 10 rfl (by kernel_rfl) rfl (dA_step rfl) (mdOk rfl) ?_
      refine AH_end (by kernel_rfl) ?_
      refine rn rfl ?_
      exact cut_nrm [6, 4, 3, 2] [0, 1, 2, 3] rfl rfl
  rintro _ rfl
  refine rn rfl ?_
  refine goal_loop_keep (fun m σ => ∃ (n L : Int) (i : Nat) (ps : List Pair), n = i ∧ L = g.named.length ∧ i ≤ g.named.length ∧ m = g.named.length - i ∧ ps = overN f.named (g.named.take i) ∧
      σ = ⟨[(30, .one (.int .i64 n)), (29, .one (.int .i64 L)), (28, .one (.fs (g.named.map eP))), (6, .one (.op 3 0 0)), (4, .one (.op 2 0 0)), (3, .one (.op 1 0 0)), (2, .one (.op 0 0 0))],
        [some ⟨2, [eF f], false, false, true⟩, some ⟨2, [eF g], false, false, true⟩, some ⟨2, [[.fs [], .fs []]], false, false, true⟩, some ⟨2, [eF ⟨f.places ++ g.places, ps⟩], false, false, true⟩], []⟩) g.named.length
    [30, 29, 28, 6, 4, 3, 2] [0, 1, 2, 3] rfl ⟨_, ((g.named.map eP).length : Int), 0, f.named, rfl, by simp, by omega, by omega, rfl, ?_⟩ ?_
  · rfl
  rintro m σ ⟨n, L, i, ps, rfl, rfl, hi, rfl, rfl, rfl⟩
  have hol := overN_len (g.named.take i) f.named
  rw [List.length_take] at hol
  refine rn rfl ?_
  refine goal_cond rfl (fun h => ?_) (fun h => ?_) <;> (try simp only [gt_iff_lt, ge_iff_le, bne_iff_ne, ne_eq, bne_eq_false_iff_eq, beq_iff_eq, beq_eq_false_iff_ne, Bool.not_eq_true', Bool.not_eq_false', decide_eq_true_eq, decide_eq_false_iff_not, List.length_map] at h)
  · obtain ⟨q, hq⟩ := at_some (xs := g.named) (i := i) (by omega)
    refine rn rfl ?_
    refine goal_did rfl rfl (dA_index (eP q) rfl rfl rfl rfl rfl rfl rfl (by omega) (by (try simp); omega) (map_at (by simpa using hq)) rfl) ?_
    refine rn rfl ?_
    refine goal_step (step_call [] rfl rfl rfl rfl rfl rfl (put_d ⟨f.places ++ g.places, overN f.named (g.named.take i)⟩ q.name q.value (by simp; omega) (by simp only; omega))) ?_
    rintro σ2 ⟨r, o', ⟨rfl, rfl⟩, hσ⟩
    obtain rfl := Option.some.inj hσ
    clear hσ
    refine rn rfl ?_
    refine round_keep (g.named.length - (i + 1)) [30, 29, 28, 6, 4, 3, 2] [0, 1, 2, 3] (by omega) rfl ⟨_, _, i + 1, _, wrap64 (by omega) (by omega), rfl, by omega, rfl, rfl, ?_⟩
    rw [show overN f.named (g.named.take (i + 1)) = putP (overN f.named (g.named.take i)) q.name q.value by unfold overN; rw [foldl_take_succ _ _ hq]]
    rfl
  · rw [show i = g.named.length by omega, List.take_length]
    obtain ⟨l1, l2, l3⟩ := hf.over hg
    have ho : OverF f g = checkF (overQ f g) true := by unfold OverF; rw [if_pos (by simp [h, h2, okFlat_iff.2 hF, okFlat_iff.2 hG])]
    rw [ho]
    refine rn rfl ?_
    refine round_ext ?_
    refine rn rfl ?_
    refine goal_step (step_call [] rfl rfl rfl rfl rfl rfl (checked_ct (overQ f g) true l1 l2 l3)) ?_
    rintro σ2 ⟨r, o', ⟨rfl, rfl⟩, hσ⟩
    obtain rfl := Option.some.inj hσ
    clear hσ
    refine rn rfl ?_
    exact rn rfl (fin_is [4, 5] rfl ⟨rfl, rfl⟩)

theorem checkedFlat_ct (f : Flat) (h1 : f.places.length ≤ 2097152) (h2 : f.named.length ≤ 2097152) (hn : ∀ p ∈ f.named, p.name.length ≤ 9223372036854775807) :
    ACalls pk 171 [.agg (eF f)] [] (fun r o => r = .tup [.agg (eF (checkF f true).1), .one (.bool (checkF f true).2)] ∧ o = []) := by
  refine acalls_of_body Tryz.func171 rfl (by kernel_rfl) rfl ?_
  refine rn rfl ?_
  refine goal_step (step_call [] rfl rfl rfl rfl rfl rfl (svalidFlat_ct f h1 h2 hn)) ?_
  rintro σ2 ⟨r, o', ⟨rfl, rfl⟩, hσ⟩
  obtain rfl := Option.some.inj hσ
  clear hσ
  refine rn rfl ?_
  refine goal_cond rfl (fun h => ?_) (fun h => ?_) <;> (try simp only [gt_iff_lt, ge_iff_le, bne_iff_ne, ne_eq, bne_eq_false_iff_eq, beq_iff_eq, beq_eq_false_iff_ne, Bool.not_eq_true', Bool.not_eq_false', decide_eq_true_eq, decide_eq_false_iff_not, List.length_map] at h)
  · refine rn rfl (fin_is [] rfl ⟨?_, rfl⟩)
    simp [checkF, h]; rfl
  · refine rn rfl (fin_is [] rfl ⟨?_, rfl⟩)
    simp [checkF, h]; rfl

/-- The flat's own copy, its places own memory, its names told zs data. -/
theorem sover_ct (f g : Flat) (hf : LenF f) (hg : LenF g) (hfn : f.named.length ≤ 100) (hgn : g.named.length ≤ 100) : ACalls pk 172 [.agg (eF f), .agg (eF g)] [] (fun r o => r = .agg (eF (overQ f g)) ∧ o = []) := by
  have a1 := hf.places
  have a2 := hf.named
  have b1 := hg.places
  have b2 := hg.named
  refine acalls_of_body Tryz.func172 rfl (by kernel_rfl) rfl ?_
  refine rn rfl ?_
  refine goal_step (step_call [] rfl rfl rfl rfl rfl rfl (copyFlat_ct f (by omega) (by omega))) ?_
  rintro σ2 ⟨r, o', ⟨rfl, rfl⟩, hσ⟩
  obtain rfl := Option.some.inj hσ
  clear hσ
  refine rn rfl ?_
  refine goal_did rfl rfl (dA_append (old := (f.places).map eI) (rows := (g.places : List Int).map eI) (((f.places) ++ (g.places : List Int)).map eI) (f.places.length + g.places.length) true (Dst.own rfl rfl rfl rfl rfl (by first | (simp; done) | (simp; omega)) (whole (by first | (simp; done) | (simp; omega)))) (Src.fs rfl) rfl rfl rfl rfl rfl rfl rfl rfl (rows_len eI_len _) (rows_len eI_len _) (by (try simp only [List.length_map, List.length_append, List.length_cons, List.length_nil, List.length_take, List.length_drop]); show _ * 8 ≤ _; omega) (by first | (simp; done) | (simp; omega)) (by simp) (by first | (simp; done) | (simp; omega)) (fun _ => noOwnR_map _ eI_noOwn _)) ?_
  refine rn rfl ?_
  refine goal_keepE [6, 5, 4, 3, 2] [0, 1, 2, 5, 6] [4] rfl rfl rfl (cons_eq rfl (cons_eq rfl (cons_eq rfl (cons_eq (b := some ⟨2, [[.os 4 0 (f.places.length + g.places.length) (f.places.length + g.places.length), .fs (f.named.map eP)]], false, false, true⟩) ?_ (cons_eq rfl rfl))))) ?_
  · exact congrArg (fun c => some (AObj.mk 2 [[.os 4 0 (f.places.length + g.places.length) (f.places.length + g.places.length), c]] false false true)) (congrArg C.fs (takeAll eP _ _ rfl))
  refine goal_loop_keep (fun m σ => ∃ (n : Int) (i : Nat) (ps : List Pair), n = i ∧ i ≤ g.named.length ∧ m = g.named.length - i ∧ ps = overN f.named (g.named.take i) ∧
      σ = ⟨[(6, .one (.int .i64 n)), (5, .one (.op 3 0 0)), (4, .one (.op 2 0 0)), (3, .one (.op 1 0 0)), (2, .one (.op 0 0 0))],
        [some ⟨2, [eF f], false, false, true⟩, some ⟨2, [eF g], false, false, true⟩, some ⟨2, [[.fs [], .fs []]], false, false, true⟩, some ⟨2, [[.os 4 0 (f.places.length + g.places.length) (f.places.length + g.places.length), .fs (ps.map eP)]], false, false, true⟩, ownI (f.places ++ g.places)], []⟩) g.named.length
    [6, 5, 4, 3, 2] [0, 1, 2, 3, 4] rfl ⟨_, 0, f.named, rfl, by omega, by omega, rfl, ?_⟩ ?_
  · rfl
  rintro m σ ⟨n, i, ps, rfl, hi, rfl, rfl, rfl⟩
  have hol := overN_len (g.named.take i) f.named
  rw [List.length_take] at hol
  refine rn rfl ?_
  refine goal_cond rfl (fun h => ?_) (fun h => ?_) <;> (try simp only [gt_iff_lt, ge_iff_le, bne_iff_ne, ne_eq, bne_eq_false_iff_eq, beq_iff_eq, beq_eq_false_iff_ne, Bool.not_eq_true', Bool.not_eq_false', decide_eq_true_eq, decide_eq_false_iff_not, List.length_map] at h)
  · obtain ⟨q, hq⟩ := at_some (xs := g.named) (i := i) (by omega)
    have hst : spPair (overN f.named (g.named.take i)) q = overN f.named (g.named.take (i + 1)) := by
      rw [spPair_eq]; unfold overN; rw [foldl_take_succ _ _ hq]
    have hput := putPair_ct (overN f.named (g.named.take i)) q (by omega)
    rw [hst] at hput
    refine rn rfl ?_
    refine goal_drawL [0, 1, 3] [9] 10 rfl ?_
    refine drnL [0, 1, 2, 3, 4] (by kernel_rfl) (by kernel_rfl) rfl rfl ?_
    refine AHL_did 5 rfl (by kernel_rfl) (by kernel_rfl) (by kernel_rfl) (by kernel_rfl) rfl rfl (dA_index (eP q) rfl rfl rfl rfl rfl rfl rfl (by omega) (by (try simp); omega) (map_at (by simpa using hq)) rfl) ?_
    refine drnL [6] (by kernel_rfl) (by kernel_rfl) rfl rfl ?_
    refine AHL_one (i := 7) (by kernel_rfl) rfl (step_call [] rfl rfl rfl rfl rfl rfl (hput)) (by simp) ?_
    rintro σ2 ⟨r, o', ⟨rfl, rfl⟩, hσ⟩
    obtain rfl := Option.some.inj hσ
    clear hσ
    refine drnL [8] (by kernel_rfl) (by kernel_rfl) rfl rfl ?_
    refine AHL_lateDid 9 rfl (by kernel_rfl) rfl rfl (dA_step rfl) ?_
    refine AH_end (by kernel_rfl) ?_
    refine rn rfl ?_
    refine round_keepF (g.named.length - (i + 1)) [6, 5, 4, 3, 2] [0, 1, 2, 3, 4] [5] (by omega) rfl rfl ⟨_, i + 1, _, wrap64 (by omega) (by omega), by omega, rfl, rfl, keepS_eq rfl (cons_eq rfl (cons_eq rfl (cons_eq rfl (cons_eq ?_ (cons_eq rfl rfl)))))⟩
    exact congrArg (fun c => some (AObj.mk 2 [[.os 4 0 (f.places.length + g.places.length) (f.places.length + g.places.length), c]] false false true)) (congrArg C.fs (takeAll eP _ _ rfl))
  · rw [show i = g.named.length by omega, List.take_length]
    refine rn rfl ?_
    refine round_ext ?_
    refine rn rfl (fin_is [] rfl ⟨?_, rfl⟩)
    rw [takeAll eI _ _ (by simp)]; rfl

theorem bindQ_fst (s : Sig) (f : Flat) : (bindQ s f).1 = (boundQ s f).1 := rfl

theorem ibindD_ct (s : Sig) (f : Flat) (hs : OkS s) (hf : LenF f) : ACalls pk 95 [.agg (eG s), .agg (eF f)] [] (fun r o => r = .tup [.agg (eBi (boundQ s f).1), .one (.fs ((bindQ s f).2.map eB))] ∧ o = []) :=
  (ibind_ct s f hs hf.places hf.named).told [] (by
    rintro r o ⟨rfl, rfl⟩
    refine ⟨_, _, rfl, ?_, rfl⟩
    rw [bindQ_fst, takeAll eL _ _ (boundQ_len s f)]; rfl)

theorem gt_zero {α : Type} (xs : List α) : decide (((xs.length : Nat) : Int) > 0) = !decide (xs = []) := by
  cases xs with
  | nil => rfl
  | cons x xs => simp

/-- Slots of own memory. -/
def rL (b : Bnds) : T := .agg [.os 0 0 b.length b.length]

theorem iBind_ct (s : Sig) (f : Flat) (hs : LenS s) (hf : LenF f) : ACalls pk 33 [.agg (eG s), .agg (eF f)] [] (fun r o => r = .tup [rL (BindQ s f).1, .one (.bool (BindQ s f).2)] ∧ o = [ownL (BindQ s f).1]) := by
  refine acalls_of_body Tryz.func33 rfl (by kernel_rfl) rfl ?_
  refine rn rfl ?_
  refine goal_step (step_call [] rfl rfl rfl rfl rfl rfl (fit_ct s f hs hf)) ?_
  rintro σ2 ⟨r, o', ⟨rfl, rfl⟩, hσ⟩
  obtain rfl := Option.some.inj hσ
  clear hσ
  refine rn rfl ?_
  refine goal_cond rfl (fun h => ?_) (fun h => ?_) <;> (try simp only [gt_iff_lt, ge_iff_le, bne_iff_ne, ne_eq, bne_eq_false_iff_eq, beq_iff_eq, beq_eq_false_iff_ne, Bool.not_eq_true', Bool.not_eq_false', decide_eq_true_eq, decide_eq_false_iff_not, List.length_map] at h)
  · refine rn rfl ?_
    refine fin_weak (Weak.adoptO 2 0 3) (fin_is [3] rfl ⟨?_, ?_⟩)
    · simp [BindQ, h]; rfl
    · simp [BindQ, h]; rfl
  · have hfit := fitQ_iff.1 h
    refine rn rfl ?_
    refine goal_step (step_call [] rfl rfl rfl rfl rfl rfl (ibind_ct s f hfit.1 hf.places hf.named)) ?_
    rintro σ2 ⟨r, o', ⟨rfl, rfl⟩, hσ⟩
    obtain rfl := Option.some.inj hσ
    clear hσ
    refine rn rfl ?_
    rw [List.length_map, gt_zero]
    refine goal_cond rfl (fun h2 => ?_) (fun h2 => ?_) <;> simp only [Bool.not_eq_true', Bool.not_eq_false', decide_eq_true_eq, decide_eq_false_iff_not] at h2
    · refine rn rfl ?_
      refine fin_weak (Weak.adoptO 2 0 3) (fin_is [5] rfl ⟨?_, ?_⟩)
      · simp [BindQ, accQ, h2]; rfl
      · simp [BindQ, accQ, h2]; rfl
    · refine rn rfl ?_
      have hb : BindQ s f = ((boundQ s f).1, true) := by simp [BindQ, h, accQ, h2]
      refine fin_is [3] rfl ⟨?_, ?_⟩
      · rw [hb]; simp [rL, boundQ_len]
      · rw [hb]; rfl

theorem iBindD_ct (s : Sig) (f : Flat) (hs : LenS s) (hf : LenF f) : ACalls pk 33 [.agg (eG s), .agg (eF f)] [] (fun r o => r = .tup [.agg (eBi (BindQ s f).1), .one (.bool (BindQ s f).2)] ∧ o = []) :=
  (iBind_ct s f hs hf).told [] (by
    rintro r o ⟨rfl, rfl⟩
    refine ⟨_, _, rfl, ?_, rfl⟩
    rw [takeAll eL _ _ rfl]; rfl)

theorem indexB0_ct (xs : List Problem) (hb : xs.length ≤ 9223372036854775807) (pred : Problem → Bool) (f : FuncId)
    (hcl : ∀ p, ACalls pk f [.agg (eB p)] [] (fun r o => r = .one (.bool (pred p)) ∧ o = [])) :
    ACalls pk 190 [.one (.fs (xs.map eB)), .one (.fn f [])] [] (fun r o => r = .one (.int .i64 (idxI pred xs 0)) ∧ o = []) := by
  refine acalls_of_body Tryz.func190 rfl (by kernel_rfl) rfl ?_
  refine rn rfl ?_
  refine goal_loop_keep (fun m σ => ∃ (n L : Int) (i : Nat), n = i ∧ L = xs.length ∧ i ≤ xs.length ∧ m = xs.length - i ∧ idxI pred xs 0 = idxI pred (xs.drop i) i ∧
      σ = ⟨[(8, .one (.int .i64 n)), (7, .one (.int .i64 L)), (1, .one (.fn f [])), (0, .one (.fs (xs.map eB)))], [], []⟩) xs.length [8, 7, 1, 0] [] rfl
    ⟨_, _, 0, rfl, by simp, by omega, by omega, by simp, rfl⟩ ?_
  rintro m σ ⟨n, L, i, rfl, rfl, hi, rfl, hidx, rfl⟩
  refine rn rfl ?_
  refine goal_cond rfl (fun h => ?_) (fun h => ?_) <;> (try simp only [gt_iff_lt, ge_iff_le, bne_iff_ne, ne_eq, bne_eq_false_iff_eq, beq_iff_eq, beq_eq_false_iff_ne, Bool.not_eq_true', Bool.not_eq_false', decide_eq_true_eq, decide_eq_false_iff_not, List.length_map] at h)
  · obtain ⟨p, hp⟩ := at_some (xs := xs) (i := i) (by omega)
    refine rn rfl ?_
    refine goal_did rfl rfl (dA_index (eB p) rfl rfl rfl rfl rfl rfl rfl (by omega) (by (try simp); omega) (map_at (by simpa using hp)) rfl) ?_
    refine rn rfl ?_
    refine goal_step (step_call [] rfl rfl rfl rfl rfl rfl (hcl p)) ?_
    rintro σ2 ⟨r, o', ⟨rfl, rfl⟩, hσ⟩
    obtain rfl := Option.some.inj hσ
    clear hσ
    refine rn rfl ?_
    refine goal_cond rfl (fun h2 => ?_) (fun h2 => ?_)
    · refine rn rfl (round_ret (fin_is [] rfl ⟨?_, rfl⟩))
      rw [hidx, drop_at hp]; simp [idxI, h2]
    · refine rn rfl ?_
      refine round_keep (xs.length - (i + 1)) [8, 7, 1, 0] [] (by omega) rfl ⟨_, _, i + 1, wrap64 (by omega) (by omega), rfl, by omega, rfl, ?_, rfl⟩
      rw [hidx, drop_at hp]; simp [idxI, h2]
  · refine rn rfl (round_ext ?_)
    refine rn rfl (fin_is [] rfl ⟨?_, rfl⟩)
    rw [hidx, List.drop_eq_nil_of_le (by omega)]; rfl

theorem containsB0_ct (xs : List Problem) (hb : xs.length ≤ 9223372036854775807) (pred : Problem → Bool) (f : FuncId)
    (hcl : ∀ p, ACalls pk f [.agg (eB p)] [] (fun r o => r = .one (.bool (pred p)) ∧ o = [])) :
    ACalls pk 128 [.one (.fs (xs.map eB)), .one (.fn f [])] [] (fun r o => r = .one (.bool (xs.any pred)) ∧ o = []) := by
  refine acalls_of_body Tryz.func128 rfl (by kernel_rfl) rfl ?_
  refine rn rfl ?_
  refine goal_step (step_call [] rfl rfl rfl rfl rfl rfl (indexB0_ct xs hb pred f hcl)) ?_
  rintro σ2 ⟨r, o', ⟨rfl, rfl⟩, hσ⟩
  obtain rfl := Option.some.inj hσ
  clear hσ
  refine rn rfl ?_
  refine rn rfl (fin_is [] rfl ⟨?_, rfl⟩)
  congr 1; congr 1
  have := idxI_ge (pred := pred) (xs := xs) (i := 0)
  cases h : xs.any pred with
  | true => simp [this.2 h]
  | false => rw [idxI_none.2 h]; rfl

theorem bindPartC_ct (p : Problem) : ACalls pk 129 [.agg (eB p)] [] (fun r o => r = .one (.bool (p.kind != 3)) ∧ o = []) := by
  refine acalls_of_body Tryz.func129 rfl (by kernel_rfl) rfl ?_
  refine rn rfl ?_
  exact rn rfl (fin_is [] rfl ⟨rfl, rfl⟩)

theorem missing_kind {s : Sig} {b : Bnds} {p : Problem} (h : p ∈ missingQ s b) : p.kind = 3 := by
  obtain ⟨px, _, hx⟩ := List.mem_filterMap.1 h
  unfold lackQ at hx
  split at hx
  · cases hx; rfl
  · cases hx

theorem foldB_kind (s : Sig) : ∀ (qs : List Pair) (st : Bnds × List Problem), (∀ p ∈ st.2, p.kind ≠ 3) → ∀ p ∈ (qs.foldl (stepB s) st).2, p.kind ≠ 3
  | [], st, h => h
  | q :: qs, st, h => by
    rw [List.foldl_cons]
    refine foldB_kind s qs _ ?_
    intro p hp
    unfold stepB at hp
    split at hp
    · simp only [List.mem_append, List.mem_singleton] at hp
      rcases hp with hp | rfl
      · exact h p hp
      · simp
    · split at hp
      · split at hp
        · exact h p hp
        · split at hp
          · simp only [List.mem_append, List.mem_singleton] at hp
            rcases hp with hp | rfl
            · exact h p hp
            · simp
          · exact h p hp
      · exact h p hp

theorem bound_kind {s : Sig} {f : Flat} {p : Problem} (h : p ∈ (boundQ s f).2) : p.kind ≠ 3 := by
  refine foldB_kind s f.named _ ?_ p h
  intro p hp
  unfold manyQ at hp
  split at hp
  · simp at hp; subst hp; simp
  · simp at hp

theorem bind_any (s : Sig) (f : Flat) : (bindQ s f).2.any (fun p => p.kind != 3) = !decide ((boundQ s f).2 = []) := by
  have h1 : (missingQ s (boundQ s f).1).any (fun p => p.kind != 3) = false := by
    rw [List.any_eq_false]; intro p hp; simp [missing_kind hp]
  show ((boundQ s f).2 ++ missingQ s (boundQ s f).1).any _ = _
  rw [List.any_append, h1, Bool.or_false]
  cases hb : (boundQ s f).2 with
  | nil => rfl
  | cons p ps => simp [bound_kind (s := s) (f := f) (p := p) (by rw [hb]; simp)]

def PartB (s : Sig) (f : Flat) : Bnds × Bool := if partQ s f then ((boundQ s f).1, true) else ([], false)

theorem bindPart_ct (s : Sig) (f : Flat) (hs : LenS s) (hf : LenF f) : ACalls pk 63 [.agg (eG s), .agg (eF f)] [] (fun r o => r = .tup [.agg (eBi (PartB s f).1), .one (.bool (PartB s f).2)] ∧ o = []) := by
  have a2 := hf.named
  refine acalls_of_body Tryz.func63 rfl (by kernel_rfl) rfl ?_
  refine rn rfl ?_
  refine goal_step (step_call [] rfl rfl rfl rfl rfl rfl (fit_ct s f hs hf)) ?_
  rintro σ2 ⟨r, o', ⟨rfl, rfl⟩, hσ⟩
  obtain rfl := Option.some.inj hσ
  clear hσ
  refine rn rfl ?_
  refine goal_cond rfl (fun h => ?_) (fun h => ?_) <;> (try simp only [gt_iff_lt, ge_iff_le, bne_iff_ne, ne_eq, bne_eq_false_iff_eq, beq_iff_eq, beq_eq_false_iff_ne, Bool.not_eq_true', Bool.not_eq_false', decide_eq_true_eq, decide_eq_false_iff_not, List.length_map] at h)
  · refine rn rfl (fin_is [] rfl ⟨?_, rfl⟩)
    simp [PartB, partQ, h]; rfl
  · have hfit := fitQ_iff.1 h
    have hl := hfit.1.len
    have hw := foldB_wr s f.named (phase1 s f.places, manyQ s f.places)
    have hm := manyQ_len s f.places
    have hq := missingQ_len s (boundQ s f).1
    have hw' : (boundQ s f).2.length ≤ (manyQ s f.places).length + f.named.length := hw
    refine rn rfl ?_
    refine goal_step (step_call [] rfl rfl rfl rfl rfl rfl (ibindD_ct s f hfit.1 hf)) ?_
    rintro σ2 ⟨r, o', ⟨rfl, rfl⟩, hσ⟩
    obtain rfl := Option.some.inj hσ
    clear hσ
    refine rn rfl ?_
    refine goal_step (step_call [] rfl rfl rfl rfl rfl rfl (containsB0_ct (bindQ s f).2 (by simp [bindQ]; omega) (fun p => p.kind != 3) _ bindPartC_ct)) ?_
    rintro σ2 ⟨r, o', ⟨rfl, rfl⟩, hσ⟩
    obtain rfl := Option.some.inj hσ
    clear hσ
    refine rn rfl ?_
    rw [bind_any]
    refine goal_cond rfl (fun h2 => ?_) (fun h2 => ?_) <;> simp only [Bool.not_eq_true', Bool.not_eq_false', decide_eq_true_eq, decide_eq_false_iff_not] at h2
    · refine rn rfl (fin_is [] rfl ⟨?_, rfl⟩)
      simp [PartB, partQ, h2]; rfl
    · refine rn rfl (fin_is [] rfl ⟨?_, rfl⟩)
      simp [PartB, partQ, h, h2]; rfl

theorem ivalidPartial_ct (s : Sig) (f : Flat) (hs : LenS s) (hf : LenF f) : ACalls pk 102 [.agg (eG s ++ eF f)] [] (fun r o => r = .one (.bool (partQ s f)) ∧ o = []) := by
  refine acalls_of_body Tryz.func102 rfl (by kernel_rfl) rfl ?_
  refine rn rfl ?_
  refine goal_step (step_call [] rfl rfl rfl rfl rfl rfl (bindPart_ct s f hs hf)) ?_
  rintro σ2 ⟨r, o', ⟨rfl, rfl⟩, hσ⟩
  obtain rfl := Option.some.inj hσ
  clear hσ
  refine rn rfl ?_
  refine rn rfl (fin_is [] rfl ⟨?_, rfl⟩)
  unfold PartB; cases h : partQ s f <;> rfl

theorem byNameD_ct (xs : List Pair) (hl : xs.length ≤ 12) : ACalls pk 122 [.one (.fs (xs.map eP))] [] (fun r o => r = .one (.fs ((isortL ltN xs).map eP)) ∧ o = []) :=
  (byName_ct xs hl).told [] (by rintro r o ⟨rfl, rfl⟩; exact ⟨_, _, rfl, congrArg (fun x => T.one (C.fs x)) (takeAll eP _ _ (isortL_length _ _)), rfl⟩)

section

variable {X : Pk} {N np : Nat} {G : Ctx} {D : Nat → Prop} {e : List ALoc} {σ σ' : State} {a : Act} {w : World} {K : KP}

theorem dA_min {o : Oper} {x y : Operand} {t t2 : TypeId} {n m : Int} (ho : o.op = .call ⟨.builtin .min, #[x, y], #[t, t2]⟩) (hx : evalO σ x = .one (.int .i64 n)) (hy : evalO σ y = .one (.int .i64 m)) (hd : dstB N o.dst = true) :
    DidA X N np o (.q none) σ (putS o.dst (.one (.int .i64 (if m < n then m else n))) σ) := fun {G D e a w} H => by
  have hxv := one_int (hx ▸ H.ev x)
  have hyv := one_int (hy ▸ H.ev y)
  refine Did.pure H (v := .int .i64 (if m < n then m else n)) (fun w _ => ?_) (by simp only [TR, CR]) (putS_eq hd)
  simp [execOp, ho, resolve, invoke, Go.builtin, hxv, hyv, Builtin.min_, Builtin.min2]

end

theorem Small.lenF {f : Flat} (h : Small f 9 4) : LenF f := ⟨by have := h.places; omega, by have := h.named; omega, h.long⟩

/-- All of the memory, zs data. -/
def allD (w : World) (b : Nat) : Prop := b < w.heap.size

/-- A value of type 't' that can be read is some 'a', its cells told by 'enc'. -/
def Opens (P : Program) (t : TypeId) {α : Type} (enc : α → List C) (ok : α → Prop) : Prop :=
  ∀ (H : Type) (en : TypeId × Value → H) (w : World) (fuel : Nat) (cs : List Value) (x : DataW H × List MemPlace), DataW.trod en P w 0 (fun _ => true) true fuel t cs = some x →
    ∃ a : α, ok a ∧ CRp (allD w) w.heap [] (enc a) cs ∧ cs.length = (enc a).length

theorem opens_slice {P : Program} {t e : TypeId} {α : Type} {enc : α → List C} {ok : α → Prop} {sz : Nat} (ht : P.underlying t = some (.slice e)) (hc : P.cellsOf e = sz) (h0 : 0 < sz) (hl : ∀ a, (enc a).length = sz) (he : Opens P e enc ok) :
    Opens P t (fun xs : List α => [.fs (xs.map enc)]) (fun xs => xs.length ≤ 9223372036854775807 ∧ ∀ x ∈ xs, ok x) := by
  intro H en w fuel cs x h
  rcases DataW.trod_slice ht h with ⟨rfl, _⟩ | ⟨a, len, cap, elems, rest, n, _, rfl, _, _, hlc, hm, hlen, hel, _, _⟩
  · refine ⟨[], by simp, ?_, rfl⟩
    simp only [CRp, CR, List.map_nil, List.length_nil, and_true]
    exact ⟨none, 0, rfl, Nat.le_refl _, .inl trivial⟩
  · have each : ∀ i, i < len → ∃ cs' : List Value, w.cells? 0 (a.add (i * sz)) sz = some cs' ∧ ∃ b : α, ok b ∧ CRp (allD w) w.heap [] (enc b) cs' ∧ cs'.length = (enc b).length := by
      intro i hi
      have := hel i hi
      rw [hc] at this
      obtain ⟨y, hy⟩ : ∃ y, elems[i]? = some y := ⟨elems[i], by simp [hlen, hi]⟩
      rw [hy, Option.bind_eq_some_iff] at this
      obtain ⟨cs', h1, h2⟩ := this
      obtain ⟨b, hb⟩ := he H en w n cs' y h2
      exact ⟨cs', h1, b, hb⟩
    have hxs : ∀ k, k ≤ len → ∃ xs : List α, xs.length = k ∧ (∀ x ∈ xs, ok x) ∧ ∀ (i : Nat) (b : α), xs[i]? = some b → ∃ cs', w.cells? 0 (a.add (i * sz)) sz = some cs' ∧ CRp (allD w) w.heap [] (enc b) cs' := by
      intro k
      induction k with
      | zero => intro _; exact ⟨[], rfl, by simp, by simp⟩
      | succ k ih =>
        intro hk
        obtain ⟨xs, q1, q2, q3⟩ := ih (by omega)
        obtain ⟨cs', h1, b, hb1, hb2, _⟩ := each k (by omega)
        refine ⟨xs ++ [b], by simp [q1], ?_, ?_⟩
        · intro x hx
          rcases List.mem_append.1 hx with hx | hx
          · exact q2 x hx
          · simp at hx; subst hx; exact hb1
        · intro i b' hi
          rw [getElem?_app_one] at hi
          split at hi
          · exact q3 i b' hi
          · split at hi
            · rename_i heq
              simp at hi
              subst hi
              rw [heq, q1]
              exact ⟨cs', h1, hb2⟩
            · cases hi
    obtain ⟨xs, q1, q2, q3⟩ := hxs len (Nat.le_refl _)
    refine ⟨xs, ⟨?_, q2⟩, ?_, rfl⟩
    · rw [q1]; exact Nat.le_trans (Nat.le_trans hlc hm) (by decide)
    · simp only [CRp, CR, and_true]
      refine ⟨some a, cap, by simp [q1], by simpa [q1] using hlc, ?_⟩
      rcases Nat.eq_zero_or_pos len with hz | hz
      · left
        have : xs = [] := List.eq_nil_of_length_eq_zero (by omega)
        simp [this]
      · right
        obtain ⟨b0, hb0⟩ : ∃ b, xs[0]? = some b := ⟨xs[0], by simp [q1, hz]⟩
        obtain ⟨cs0, hc0, _⟩ := q3 0 b0 hb0
        have hcell0 := (World.cells?_some hc0).2.2 0 (by omega)
        have hl0 := (World.cells?_some hc0).1
        -- where the row lies
        obtain ⟨cells, tt, fr, hh, hs⟩ : ∃ cells tt fr, w.heap[a.block]? = some (.cells cells tt fr) ∧ a.spot = none := by
          have hv : ∃ v, w.cell? a = some v := by
            have h2 : a.add (0 * sz) = a := by simp [Addr.add]
            rw [h2] at hcell0
            have h3 : a.add 0 = a := by simp [Addr.add]
            rw [h3] at hcell0
            have : cs0[0]? ≠ none := by
              have h4 : cs0.length = sz := by
                have := World.cells?_some hc0
                first | exact this.1 | exact this.2.1
              rw [List.getElem?_eq_getElem (by omega)]; simp
            exact ⟨cs0[0]?.get (by cases hx : cs0[0]? with | none => exact absurd hx this | some v => rfl), by rw [hcell0]; simp⟩
          obtain ⟨v, hv⟩ := hv
          unfold World.cell? at hv
          split at hv
          · rename_i cells tt fr hh
            split at hv
            · cases hv
            · rename_i hsp
              exact ⟨cells, tt, fr, hh, by cases hq : a.spot with | none => rfl | some _ => rw [hq] at hsp; simp at hsp⟩
          · cases hv
        refine ⟨a, cells, tt, fr, sz, rfl, hs, (Array.getElem?_eq_some_iff.1 hh).1, hh, ?_⟩
        rw [CRr_iff]
        intro i r hi
        rw [List.getElem?_map] at hi
        cases hxi : xs[i]? with
        | none => rw [hxi] at hi; simp at hi
        | some b =>
          rw [hxi] at hi
          simp at hi
          subst hi
          obtain ⟨cs', hc', hr'⟩ := q3 i b hxi
          refine ⟨hl b, CRp.congr (fun j hj => ?_) hr'⟩
          rw [hl b] at hj
          have := (World.cells?_some hc').2.2 j hj
          rw [← this]
          have ha : (a.add (i * sz)).add j = ⟨a.block, a.off + i * sz + j, none⟩ := by rw [add_eq a _ hs, add_eq _ _ rfl]
          rw [ha, List.getElem?_drop]
          simp [World.cell?, hh, Nat.add_assoc]

section
open Go Go.ChangeShapes Go.WideShapes Go.ChangeAt Go.RowKit
theorem TIok.cellsOf {P : Program} {t : Nat} {ti : TI} (H : TIok P t ti) : P.cellsOf t = ti.size := by
  obtain ⟨i, z, hi, hs, _⟩ := H.info
  simp [Program.cellsOf, hi, hs]

section

variable {X : Pk} {t : Nat} {ti te : TI}

theorem xo_slice {α : Type} {enc : α → List C} {ok : α → Prop} (h : findTI X.L t = some ti) (hk : ti.kind = 2) (he : findTI X.L ti.elem = some te) (h0 : Nat.blt 0 te.size = true) (hl : ∀ a, (enc a).length = te.size) (hE : Opens X.P ti.elem enc ok) :
    Opens X.P t (fun xs : List α => [.fs (xs.map enc)]) (fun xs => xs.length ≤ 9223372036854775807 ∧ ∀ x ∈ xs, ok x) :=
  opens_slice ((X.tiok h).slice hk) (X.tiok he).cellsOf (by simpa [Nat.blt_eq] using h0) hl hE

end

theorem Opens.map {P : Program} {t : TypeId} {α β : Type} {enc : α → List C} {ok : α → Prop} {enc' : β → List C} {ok' : β → Prop} (h : Opens P t enc ok) (g : α → β) (he : ∀ a, enc' (g a) = enc a) (ho : ∀ a, ok a → ok' (g a)) : Opens P t enc' ok' := by
  intro H en w fuel cs x hx
  obtain ⟨a, h1, h2, h3⟩ := h H en w fuel cs x hx
  exact ⟨g a, ho a h1, by rw [he]; exact h2, by rw [he]; exact h3⟩

/-- A law's contract, zs a call from any memory. -/
theorem law_calls {X : Pk} {f : FuncId} {args : List T} {vals : Array Value} {w : World} (h : ACalls X f args [] (fun r o => r = .one (.bool true) ∧ o = [])) (ha : TRs (allD w) w.heap [] args vals.toList) :
    Calls X.P f vals w fun e w' => e = .returned (.bool true) ∧ Below w.heap.size w w' := by
  have hsr : SR (allD w) w.heap [] [] := ⟨rfl, by simp, by simp, by simp, fun b hb => hb⟩
  refine (h.2 (allD w) [] w vals.toList hsr ha (by simp)).mono ?_
  rintro en w' ⟨v, r, o', D', e', rfl, ⟨rfl, rfl⟩, htr, _, hext, _⟩
  simp only [TR, CR] at htr
  subst htr
  refine ⟨rfl, hext.os, hext.tape, hext.output, hext.size, fun k hk => hext.block k hk ?_⟩
  rintro ⟨id, a, esz, cap, n, he, _⟩
  simp at he
end

section
open Go Go.ChangeShapes
theorem cells_of_okWide {P : Program} {W : World} {r : Reach} {base : Nat} {t : TypeId} {v : Value} (hu : (∃ e, P.underlying t = some (.slice e)) ∨ (∃ k, P.underlying t = some (.int k)) ∨ P.underlying t = some .string)
    (h : Value.okWide P W r base t v) : v.cells.toList = [v] := by
  rcases hu with ⟨e, hu⟩ | ⟨k, hu⟩ | hu <;> cases v <;> first
    | rfl
    | (exfalso; simp [Value.okWide, hu, Cell.okWide, Cell.ok] at h)

theorem opens_u8 {P : Program} {t : TypeId} (ht : P.underlying t = some (.int .u8)) : Opens P t (fun b : UInt8 => [.int .u8 b.toNat]) (fun _ => True) := by
  intro H en w fuel cs x h
  obtain ⟨n, rfl, _, hw⟩ := DataW.trod_int ht h
  have hr : 0 ≤ n ∧ n < 256 := by
    simp [Lit.wf, IntKind.min, IntKind.max, IntKind.bits, IntKind.signed] at hw
    omega
  refine ⟨UInt8.ofNat n.toNat, trivial, ?_, rfl⟩
  simp only [CRp, CR, and_true]
  congr 1
  rw [UInt8.toNat_ofNat']
  omega

theorem xo_u8 {X : Pk} {t : Nat} {ti : TI} (h : findTI X.L t = some ti) (hk : ti.kind = 4) (hik : ti.ik = .u8) : Opens X.P t (fun b : UInt8 => [.int .u8 b.toNat]) (fun _ => True) := by
  have := (X.tiok h).int hk
  rw [hik] at this
  exact opens_u8 this

theorem openBytes : Opens pk.P 51 (fun bs : Str => [.fs (bs.map rowB)]) (fun bs => bs.length ≤ 9223372036854775807) :=
  Opens.map (xo_slice (enc := rowB) rfl rfl rfl rfl (fun _ => rfl) (xo_u8 rfl rfl rfl)) (fun x => x) (fun _ => rfl) (fun _ h => h.1)
end

section
open Go Go.ChangeShapes
structure Part where
  sig : Sig
  flat : Flat

def ePa (p : Part) : List C := eG p.sig ++ eF p.flat
end

theorem asFl (f : Flat) : T.agg [C.fs (List.take f.places.length (List.drop 0 (f.places.map eI))), C.fs (List.take f.named.length (List.drop 0 (f.named.map eP)))] = T.agg (eF f) := by
  rw [takeAll eI _ _ rfl, takeAll eP _ _ rfl]; rfl

theorem asG (s : Sig) : T.agg [C.fs (List.take s.length (List.drop 0 (s.map eQ)))] = T.agg (eG s) := by
  rw [takeAll eQ _ _ rfl]; rfl

theorem asGs (s : Sig) : T.one (C.fs (List.take s.length (List.drop 0 (s.map eQ)))) = T.one (.fs (s.map eQ)) := by rw [takeAll eQ _ _ rfl]

theorem oG_noFz' (s : Sig) : noFzO [ownQ s] = true := by simp [ownQ, noFzO, noFzR_map eQ (fun _ => rfl)]

theorem goodSignature_ct (bs : Str) (k : Int) (hb : bs.length ≤ 2000) (hk : 0 ≤ k) (hk' : k ≤ 1073730000) :
    ACalls pk 209 [.one (.op 0 0 0)] [oR bs k] (fun r o => ∃ s k', OkS s ∧ k ≤ k' ∧ k' ≤ k + 100 ∧ r = .agg [.os 1 0 s.length s.length] ∧ o = [oR bs k', ownQ s]) := by
  refine acalls_of_body Tryz.func209 rfl (by kernel_rfl) rfl ?_
  refine rn rfl ?_
  refine goal_step (step_callE [0] rfl rfl rfl rfl rfl rfl (rfl) (pick_ct bs k 2 hb (by omega) (by omega) (by omega))) ?_
  rintro σ2 ⟨r, o', ⟨⟨z, rfl, _, _⟩, rfl⟩, hσ⟩
  obtain rfl := Option.some.inj hσ
  clear hσ
  refine rn rfl ?_
  refine goal_cutR (fun σ' => ∃ kd : Int, 0 ≤ kd ∧ kd ≤ 4 ∧ σ' = ⟨[(4, .one (.int .i64 kd)), (3, .one (.os 2 0 0 0)), (2, .one (.op 1 0 0)), (0, .one (.op 0 0 0))], [oR bs (k + 1), some ⟨1, [[.fs []]], false, false, true⟩, ownQ []], []⟩) ?_ ?_
  · refine goal_cond rfl (fun h0 => ?_) (fun h0 => ?_) <;> (try simp only [gt_iff_lt, ge_iff_le, bne_iff_ne, ne_eq, bne_eq_false_iff_eq, beq_iff_eq, beq_eq_false_iff_ne, Bool.not_eq_true', Bool.not_eq_false', decide_eq_true_eq, decide_eq_false_iff_not, List.length_map] at h0)
    · refine rn rfl ?_
      exact cut_nrm [4, 3, 2, 0] [1, 2] rfl ⟨1, by omega, by omega, rfl⟩
    · refine rn rfl ?_
      exact cut_nrm [4, 3, 2, 0] [1, 2] rfl ⟨0, by omega, by omega, rfl⟩
  rintro _ ⟨kd, hd0, hd4, rfl⟩
  refine rn rfl ?_
  refine goal_step (step_callE [0] rfl rfl rfl rfl rfl rfl (rfl) (one_ct bs (k + 1) [3, 4, 2, 5, 1, 0, 6, 8] hb (by omega) (by omega) (by decide) (by decide))) ?_
  rintro σ2 ⟨r, o', ⟨⟨v, hv, rfl⟩, rfl⟩, hσ⟩
  obtain rfl := Option.some.inj hσ
  clear hσ
  refine rn rfl ?_
  have hv8 : 0 ≤ v ∧ v ≤ 8 := by
    simp only [List.mem_cons, List.not_mem_nil, or_false] at hv
    omega
  refine goal_loop_keep (fun m σ => ∃ (q kd k1 : Int) (l : Nat) (out : Sig), m = q.toNat ∧ 0 ≤ q ∧ q ≤ 8 ∧ 0 ≤ kd ∧ kd ≤ 4 ∧ l = out.length ∧ OkS out ∧ k ≤ k1 ∧ k1 + 6 * q ≤ k + 90 ∧
      σ = ⟨[(5, .one (.int .i64 q)), (4, .one (.int .i64 kd)), (3, .one (.os 2 0 l l)), (2, .one (.op 1 0 0)), (0, .one (.op 0 0 0))], [oR bs k1, some ⟨1, [[.fs []]], false, false, true⟩, ownQ out], []⟩) v.toNat [5, 4, 3, 2, 0] [1, 2] rfl
    ⟨v, kd, k + 1 + 1, 0, [], rfl, hv8.1, hv8.2, hd0, hd4, rfl, okSig_iff.1 rfl, by omega, by omega, rfl⟩ ?_
  rintro m σ ⟨q, kd, k1, l, out, rfl, hq0, hq8, hd0, hd4, rfl, hok, hk1, hk2, rfl⟩
  have hol := hok.len
  refine rn rfl ?_
  refine goal_cond rfl (fun hc => ?_) (fun hc => ?_) <;> (try simp only [gt_iff_lt, ge_iff_le, bne_iff_ne, ne_eq, bne_eq_false_iff_eq, beq_iff_eq, beq_eq_false_iff_ne, Bool.not_eq_true', Bool.not_eq_false', decide_eq_true_eq, decide_eq_false_iff_not, List.length_map] at hc)
  · refine rt 8 rfl ?_
    refine goal_cutR (fun σ' => ∃ kd' k2 : Int, 0 ≤ kd' ∧ kd' ≤ 4 ∧ k1 ≤ k2 ∧ k2 ≤ k1 + 2 ∧ σ' = ⟨[(5, .one (.int .i64 q)), (4, .one (.int .i64 kd')), (3, .one (.os 2 0 out.length out.length)), (2, .one (.op 1 0 0)), (0, .one (.op 0 0 0))], [oR bs k2, some ⟨1, [[.fs []]], false, false, true⟩, ownQ out], []⟩) ?_ ?_
    · refine rn rfl ?_
      refine goal_step (step_callE [0] rfl rfl rfl rfl rfl rfl (rfl) (pick_ct bs k1 3 hb (by omega) (by omega) (by omega))) ?_
      rintro σ2 ⟨r, o', ⟨⟨z1, rfl, _, _⟩, rfl⟩, hσ⟩
      obtain rfl := Option.some.inj hσ
      clear hσ
      refine rn rfl ?_
      refine goal_guard rfl rfl rfl (fun h1 => ?_) (fun h1 => ?_) <;> (try simp only [gt_iff_lt, ge_iff_le, bne_iff_ne, ne_eq, bne_eq_false_iff_eq, beq_iff_eq, beq_eq_false_iff_ne, Bool.not_eq_true', Bool.not_eq_false', decide_eq_true_eq, decide_eq_false_iff_not, List.length_map] at h1)
      · refine rn rfl ?_
        refine goal_cond rfl (fun h2 => ?_) (fun h2 => ?_) <;> (try simp only [gt_iff_lt, ge_iff_le, bne_iff_ne, ne_eq, bne_eq_false_iff_eq, beq_iff_eq, beq_eq_false_iff_ne, Bool.not_eq_true', Bool.not_eq_false', decide_eq_true_eq, decide_eq_false_iff_not, List.length_map] at h2)
        · have hw : IntKind.i64.wrap (4 - kd) = 4 - kd := wrap64 (by omega) (by omega)
          have hw1 : IntKind.i64.wrap (kd + 1) = kd + 1 := wrap64 (by omega) (by omega)
          refine rn rfl ?_
          rw [hw, hw1]
          refine goal_step (step_callE [0] rfl rfl rfl rfl rfl rfl (rfl) (pick_ct bs (k1 + 1) (4 - kd) hb (by omega) (by omega) (by omega))) ?_
          rintro σ2 ⟨r, o', ⟨⟨y, rfl, hy, _⟩, rfl⟩, hσ⟩
          obtain rfl := Option.some.inj hσ
          clear hσ
          refine rn rfl ?_
          have hy' := hy (by omega)
          have e : IntKind.i64.wrap (kd + 1 + y) = kd + 1 + y := wrap64 (by omega) (by omega)
          rw [e]
          exact cut_nrm [5, 4, 3, 2, 0] [1, 2] rfl ⟨kd + 1 + y, k1 + 1 + 1, by omega, by omega, by omega, by omega, rfl⟩
        · refine rn rfl ?_
          exact cut_nrm [5, 4, 3, 2, 0] [1, 2] rfl ⟨kd, k1 + 1, hd0, hd4, by omega, by omega, rfl⟩
      · refine rn rfl ?_
        exact cut_nrm [5, 4, 3, 2, 0] [1, 2] rfl ⟨kd, k1 + 1, hd0, hd4, by omega, by omega, rfl⟩
    clear hd0 hd4
    rintro _ ⟨kd', k2, hd0, hd4, hk3, hk4, rfl⟩
    refine rn rfl ?_
    refine goal_step (step_callE [0] rfl rfl rfl rfl rfl rfl rfl (of_ct bs k2 [[97], [98], [99], [100], [120], [121], [112], [113], [97, 114, 103, 115], [107, 119]] hb (by omega) (by omega) (by decide) (by decide))) ?_
    rintro σ2 ⟨r, o', ⟨⟨nm, hnm, rfl⟩, rfl⟩, hσ⟩
    obtain rfl := Option.some.inj hσ
    clear hσ
    have hnl : nm.length ≤ 7 := by
      simp only [List.mem_cons, List.not_mem_nil, or_false] at hnm
      rcases hnm with h | h | h | h | h | h | h | h | h | h <;> (rw [h]; decide)
    refine rt 11 rfl ?_
    refine goal_cutR (fun σ' => ∃ (p : Param) (k3 : Int), p.name.length ≤ 7 ∧ k2 ≤ k3 ∧ k3 ≤ k2 + 3 ∧ σ' = ⟨[(6, .one (.op 3 0 0)), (5, .one (.int .i64 q)), (4, .one (.int .i64 kd')), (3, .one (.os 2 0 out.length out.length)), (2, .one (.op 1 0 0)), (0, .one (.op 0 0 0))], [oR bs k3, some ⟨1, [[.fs []]], false, false, true⟩, ownQ out, some ⟨4, [eQ p], false, false, true⟩], []⟩) ?_ ?_
    · refine rn rfl ?_
      refine goal_step (step_callE [0] rfl rfl rfl rfl rfl rfl (rfl) (pick_ct bs (k2 + 1) 3 hb (by omega) (by omega) (by omega))) ?_
      rintro σ2 ⟨r, o', ⟨⟨z2, rfl, _, _⟩, rfl⟩, hσ⟩
      obtain rfl := Option.some.inj hσ
      clear hσ
      refine rn rfl ?_
      refine goal_guard rfl rfl rfl (fun h1 => ?_) (fun h1 => ?_) <;> (try simp only [gt_iff_lt, ge_iff_le, bne_iff_ne, ne_eq, bne_eq_false_iff_eq, beq_iff_eq, beq_eq_false_iff_ne, Bool.not_eq_true', Bool.not_eq_false', decide_eq_true_eq, decide_eq_false_iff_not, List.length_map] at h1)
      · refine rn rfl ?_
        refine goal_step (step_call [] rfl rfl rfl rfl rfl rfl (ssingle_ct ⟨nm, kd', false, 0⟩)) ?_
        rintro σ2 ⟨r, o', ⟨rfl, rfl⟩, hσ⟩
        obtain rfl := Option.some.inj hσ
        clear hσ
        refine rn rfl ?_
        refine goal_cond rfl (fun h2 => ?_) (fun h2 => ?_) <;> (try simp only [gt_iff_lt, ge_iff_le, bne_iff_ne, ne_eq, bne_eq_false_iff_eq, beq_iff_eq, beq_eq_false_iff_ne, Bool.not_eq_true', Bool.not_eq_false', decide_eq_true_eq, decide_eq_false_iff_not, List.length_map] at h2)
        · refine rn rfl ?_
          refine goal_step (step_callE [0] rfl rfl rfl rfl rfl rfl (rfl) (aNumber_ct bs (k2 + 1 + 1) hb (by omega) (by omega))) ?_
          rintro σ2 ⟨r, o', ⟨⟨w, _, _, rfl⟩, rfl⟩, hσ⟩
          obtain rfl := Option.some.inj hσ
          clear hσ
          refine rn rfl ?_
          refine rn rfl ?_
          exact cut_nrm [6, 5, 4, 3, 2, 0] [1, 2, 4] rfl ⟨⟨nm, kd', true, w⟩, k2 + 1 + 1 + 1, hnl, by omega, by omega, rfl⟩
        · refine rn rfl ?_
          exact cut_nrm [6, 5, 4, 3, 2, 0] [1, 2, 4] rfl ⟨⟨nm, kd', false, 0⟩, k2 + 1 + 1, hnl, by omega, by omega, rfl⟩
      · refine rn rfl ?_
        exact cut_nrm [6, 5, 4, 3, 2, 0] [1, 2, 4] rfl ⟨⟨nm, kd', false, 0⟩, k2 + 1 + 1, hnl, by omega, by omega, rfl⟩
    rintro _ ⟨p, k3, hpn, hk5, hk6, rfl⟩
    refine rt 14 rfl ?_
    refine goal_cutR (fun σ' => ∃ kd2 : Int, 0 ≤ kd2 ∧ kd2 ≤ 4 ∧ σ' = ⟨[(6, .one (.op 3 0 0)), (5, .one (.int .i64 q)), (4, .one (.int .i64 kd2)), (3, .one (.os 2 0 out.length out.length)), (2, .one (.op 1 0 0)), (0, .one (.op 0 0 0))], [oR bs k3, some ⟨1, [[.fs []]], false, false, true⟩, ownQ out, some ⟨4, [eQ p], false, false, true⟩], []⟩) ?_ ?_
    · refine rn rfl ?_
      refine goal_step (step_call [] rfl rfl rfl rfl rfl rfl (ssingle_ct p)) ?_
      rintro σ2 ⟨r, o', ⟨rfl, rfl⟩, hσ⟩
      obtain rfl := Option.some.inj hσ
      clear hσ
      refine rn rfl ?_
      refine goal_cond rfl (fun h1 => ?_) (fun h1 => ?_) <;> (try simp only [gt_iff_lt, ge_iff_le, bne_iff_ne, ne_eq, bne_eq_false_iff_eq, beq_iff_eq, beq_eq_false_iff_ne, Bool.not_eq_true', Bool.not_eq_false', decide_eq_true_eq, decide_eq_false_iff_not, List.length_map] at h1)
      · have hw : IntKind.i64.wrap (kd' + 1) = kd' + 1 := wrap64 (by omega) (by omega)
        refine rn rfl ?_
        rw [hw]
        refine goal_did rfl rfl (dA_min rfl rfl rfl rfl) ?_
        refine rn rfl ?_
        exact cut_nrm [6, 5, 4, 3, 2, 0] [1, 2, 3] rfl ⟨if 4 < kd' + 1 then 4 else kd' + 1, by split <;> omega, by split <;> omega, rfl⟩
      · refine rn rfl ?_
        exact cut_nrm [6, 5, 4, 3, 2, 0] [1, 2, 3] rfl ⟨kd', hd0, hd4, rfl⟩
    rintro _ ⟨kd2, hd5, hd6, rfl⟩
    refine rt1 16 rfl ?_
    refine goal_cutR (fun σ' => σ' = ⟨[(7, .one (.os 3 0 (out.length + 1) (out.length + 1))), (5, .one (.int .i64 q)), (4, .one (.int .i64 kd2)), (3, .one (.os 2 0 out.length out.length)), (2, .one (.op 1 0 0)), (0, .one (.op 0 0 0))], [oR bs k3, some ⟨1, [[.fs []]], false, false, true⟩, ownQ out, ownQ (out ++ [p])], []⟩) ?_ ?_
    · refine goal_draw' [2, 3] 6 rfl ?_
      refine drn [0, 2] (by kernel_rfl) (by kernel_rfl) rfl rfl ?_
      refine AH_two (i := 1) (j := 3) (by kernel_rfl) (step_lendE [] rfl rfl rfl rfl rfl rfl rfl (cons_eq (asGs out) rfl) (copyParams_ct out (by omega)) (by rintro r o ⟨rfl, rfl⟩; exact ⟨rfl, oG_noFz' out⟩)) (by simp) (step_did rfl rfl (dA_step rfl)) (mdOk rfl) ?_ ?_
      · rintro σ2 ⟨r, o', ⟨rfl, rfl⟩, hσ⟩
        obtain rfl := Option.some.inj hσ
        clear hσ
        refine AH_oneDid 3 rfl (by kernel_rfl) rfl (dA_step rfl) (mdOk rfl) ?_
        refine AH_oneDid 4 rfl (by kernel_rfl) rfl (dA_append (old := (out).map eQ) (rows := ([p] : List Param).map eQ) (((out) ++ ([p] : List Param)).map eQ) (out.length + 1) true (Dst.own rfl rfl rfl rfl rfl (by first | (simp; done) | (simp; omega)) (whole (by first | (simp; done) | (simp; omega)))) (Src.os rfl rfl (Nat.le_refl 1) rfl) rfl rfl rfl rfl rfl rfl rfl rfl (rows_len eQ_len _) (rows_len eQ_len _) (by (try simp only [List.length_map, List.length_append, List.length_cons, List.length_nil, List.length_take, List.length_drop]); show _ * 40 ≤ _; omega) (by first | (simp; done) | (simp; omega)) (by simp) (by first | (simp; done) | (simp; omega)) (fun _ => noOwnR_map _ eQ_noOwn _)) (mdOk rfl) ?_
        refine drn [5] (by kernel_rfl) (by kernel_rfl) rfl rfl ?_
        refine AH_end (by kernel_rfl) ?_
        refine rn rfl ?_
        exact cut_nrm [7, 5, 4, 3, 2, 0] [1, 2, 6] rfl rfl
      · rintro _ rfl
        refine AH_one (i := 1) (by kernel_rfl) (step_lendE [] rfl rfl rfl rfl rfl rfl rfl (cons_eq (asGs out) rfl) (copyParams_ct out (by omega)) (by rintro r o ⟨rfl, rfl⟩; exact ⟨rfl, oG_noFz' out⟩)) (by simp) ?_
        rintro σ2 ⟨r, o', ⟨rfl, rfl⟩, hσ⟩
        obtain rfl := Option.some.inj hσ
        clear hσ
        refine AH_oneDid 4 rfl (by kernel_rfl) rfl (dA_append (old := (out).map eQ) (rows := ([p] : List Param).map eQ) (((out) ++ ([p] : List Param)).map eQ) (out.length + 1) true (Dst.own rfl rfl rfl rfl rfl (by first | (simp; done) | (simp; omega)) (whole (by first | (simp; done) | (simp; omega)))) (Src.os rfl rfl (Nat.le_refl 1) rfl) rfl rfl rfl rfl rfl rfl rfl rfl (rows_len eQ_len _) (rows_len eQ_len _) (by (try simp only [List.length_map, List.length_append, List.length_cons, List.length_nil, List.length_take, List.length_drop]); show _ * 40 ≤ _; omega) (by first | (simp; done) | (simp; omega)) (by simp) (by first | (simp; done) | (simp; omega)) (fun _ => noOwnR_map _ eQ_noOwn _)) (mdOk rfl) ?_
        refine drn [5] (by kernel_rfl) (by kernel_rfl) rfl rfl ?_
        refine AH_end (by kernel_rfl) ?_
        refine rn rfl ?_
        exact cut_nrm [7, 5, 4, 3, 2, 0] [1, 2, 6] rfl rfl
    rintro _ rfl
    have hln : ∀ r ∈ out ++ [p], r.name.length ≤ 9223372036854775807 := by
      intro r hr
      rcases List.mem_append.1 hr with hr | hr
      · have := hok.nameLen hr; omega
      · simp only [List.mem_singleton] at hr; rw [hr]; omega
    refine rn rfl ?_
    refine goal_step (step_lendE [] rfl rfl rfl rfl rfl rfl rfl (cons_eq (congrArg (fun x => T.one (C.fs x)) (takeAll eQ (out ++ [p]) (out.length + 1) (by simp))) rfl) (svalidParams_ct (out ++ [p]) (by simp; omega) hln) (by rintro r o ⟨rfl, rfl⟩; exact ⟨rfl, rfl⟩)) ?_
    rintro σ2 ⟨r, o', ⟨rfl, rfl⟩, hσ⟩
    obtain rfl := Option.some.inj hσ
    clear hσ
    refine rn rfl ?_
    have hw : IntKind.i64.wrap (q - 1) = q - 1 := wrap64 (by omega) (by omega)
    refine goal_cond rfl (fun h9 => ?_) (fun h9 => ?_) <;> (try simp only [gt_iff_lt, ge_iff_le, bne_iff_ne, ne_eq, bne_eq_false_iff_eq, beq_iff_eq, beq_eq_false_iff_ne, Bool.not_eq_true', Bool.not_eq_false', decide_eq_true_eq, decide_eq_false_iff_not, List.length_map] at h9)
    · refine rn rfl ?_
      rw [hw]
      refine round_keep (q - 1).toNat [5, 4, 3, 2, 0] [1, 3] (by omega) rfl ⟨q - 1, kd2, k3, _, out ++ [p], rfl, by omega, by omega, hd5, hd6, (by simp : out.length + 1 = _), okSig_iff.1 h9, by omega, by omega, rfl⟩
    · refine rn rfl ?_
      rw [hw]
      refine round_keep (q - 1).toNat [5, 4, 3, 2, 0] [1, 2] (by omega) rfl ⟨q - 1, kd2, k3, _, out, rfl, by omega, by omega, hd5, hd6, rfl, hok, by omega, by omega, rfl⟩
  · refine rn rfl (round_ext ?_)
    refine rn rfl (fin_is [2] rfl ⟨out, k1, hok, hk1, by omega, rfl, rfl⟩)

structure SmallS (s : Sig) : Prop where
  len : s.length ≤ 8
  names : ∀ p ∈ s, p.name.length ≤ 7

theorem small_set {s : Sig} {j : Nat} {p : Param} (h : SmallS s) (hp : p.name.length ≤ 7) : SmallS (s.set j p) := by
  refine ⟨by simp [h.len], fun q hq => ?_⟩
  rcases List.mem_or_eq_of_mem_set hq with hq | hq
  · exact h.names q hq
  · rw [hq]; exact hp

theorem OkS.small {s : Sig} (h : OkS s) : SmallS s := ⟨h.len, fun p hp => by have := h.nameLen hp; omega⟩

theorem someSignature_ct (bs : Str) (k : Int) (hb : bs.length ≤ 2000) (hk : 0 ≤ k) (hk' : k ≤ 1073720000) :
    ACalls pk 158 [.one (.op 0 0 0)] [oR bs k] (fun r o => ∃ s k', SmallS s ∧ k ≤ k' ∧ k' ≤ k + 110 ∧ r = .agg (eG s) ∧ o = [oR bs k']) := by
  refine acalls_of_body Tryz.func158 rfl (by kernel_rfl) rfl ?_
  refine rn rfl ?_
  refine goal_step (step_callE [0] rfl rfl rfl rfl rfl rfl rfl (goodSignature_ct bs k hb hk (by omega))) ?_
  rintro σ2 ⟨r, o', ⟨s, k1, hs, hk1, hk2, rfl, rfl⟩, hσ⟩
  obtain rfl := Option.some.inj hσ
  clear hσ
  have hsm := hs.small
  have hsl := hsm.len
  refine rt 2 rfl ?_
  refine goal_cutR (fun σ' => ∃ (t : Sig) (k2 : Int), SmallS t ∧ k1 ≤ k2 ∧ k2 ≤ k1 + 10 ∧ t.length = s.length ∧ σ' = ⟨[(3, .one (.op 2 0 0)), (2, .one (.op 1 0 0))], [oR bs k2, some ⟨1, [[.fs []]], false, false, true⟩, some ⟨1, [[.os 3 0 s.length s.length]], false, false, true⟩, ownQ t], []⟩) ?_ ?_
  · refine rn rfl ?_
    refine goal_cond rfl (fun h0 => ?_) (fun h0 => ?_) <;> (try simp only [gt_iff_lt, ge_iff_le, bne_iff_ne, ne_eq, bne_eq_false_iff_eq, beq_iff_eq, beq_eq_false_iff_ne, Bool.not_eq_true', Bool.not_eq_false', decide_eq_true_eq, decide_eq_false_iff_not, List.length_map] at h0)
    · refine rn rfl ?_
      refine goal_step (step_callE [0] rfl rfl rfl rfl rfl rfl (rfl) (pick_ct bs k1 s.length hb (by omega) (by omega) (by omega))) ?_
      rintro σ2 ⟨r, o', ⟨⟨y, rfl, hy, _⟩, rfl⟩, hσ⟩
      obtain rfl := Option.some.inj hσ
      clear hσ
      refine rn rfl ?_
      have hy' := hy (by omega)
      obtain ⟨j, rfl⟩ : ∃ j : Nat, y = j := ⟨y.toNat, by omega⟩
      obtain ⟨p, hp⟩ := at_some (xs := s) (i := j) (by omega)
      have hpn := hsm.names p (List.mem_of_getElem? hp)
      refine rn rfl ?_
      refine goal_step (step_callE [0] rfl rfl rfl rfl rfl rfl (rfl) (pick_ct bs (k1 + 1) 24 hb (by omega) (by omega) (by omega))) ?_
      rintro σ2 ⟨r, o', ⟨⟨z, rfl, _, _⟩, rfl⟩, hσ⟩
      obtain rfl := Option.some.inj hσ
      clear hσ
      refine rn rfl ?_
      refine rn rfl ?_
      refine goal_cond rfl (fun c1 => ?_) (fun c1 => ?_) <;> (try simp only [gt_iff_lt, ge_iff_le, bne_iff_ne, ne_eq, bne_eq_false_iff_eq, beq_iff_eq, beq_eq_false_iff_ne, Bool.not_eq_true', Bool.not_eq_false', decide_eq_true_eq, decide_eq_false_iff_not, List.length_map] at c1)
      · refine rn rfl ?_
        refine goal_draw' [3] 8 rfl ?_
        refine drn [0, 1, 2, 3] (by kernel_rfl) (by kernel_rfl) rfl rfl ?_
        refine AH_one (i := 4) (by kernel_rfl) (step_callE [0] rfl rfl rfl rfl rfl rfl (rfl) (anyName_ct bs (k1 + 1 + 1) hb (by omega) (by omega))) (by simp) ?_
        rintro σ2 ⟨r, o', ⟨⟨nm, hnm, rfl⟩, rfl⟩, hσ⟩
        obtain rfl := Option.some.inj hσ
        clear hσ
        refine AH_did 5 rfl (by kernel_rfl) (by kernel_rfl) (by kernel_rfl) rfl rfl (dA_indexOwn rfl rfl rfl rfl rfl rfl rfl rfl rfl (by omega) (by (try simp); omega)) ?_
        refine AH_did 6 rfl (by kernel_rfl) (by kernel_rfl) (by kernel_rfl) rfl rfl (dA_step rfl) ?_
        refine AH_oneDid 7 rfl (by kernel_rfl) rfl (dA_storeEl (eQ p) ((s.set j ⟨nm, p.kind, p.hasD, p.dflt⟩).map eQ) true rfl rfl rfl rfl rfl (map_at (by simpa using hp)) rfl rfl (by simp [eQ]) (by rw [map_set]; simp [patch, eQ]) (fun _ => noOwnR_map _ eQ_noOwn _)) (mdOk rfl) ?_
        refine AH_end (by kernel_rfl) ?_
        refine rn rfl ?_
        exact cut_nrm [3, 2] [1, 3, 2] rfl ⟨s.set j ⟨nm, p.kind, p.hasD, p.dflt⟩, k1 + 1 + 1 + 2, small_set hsm (by exact hnm), by omega, by omega, by simp, rfl⟩
      · refine rn rfl ?_
        refine goal_cond rfl (fun c2 => ?_) (fun c2 => ?_) <;> (try simp only [gt_iff_lt, ge_iff_le, bne_iff_ne, ne_eq, bne_eq_false_iff_eq, beq_iff_eq, beq_eq_false_iff_ne, Bool.not_eq_true', Bool.not_eq_false', decide_eq_true_eq, decide_eq_false_iff_not, List.length_map] at c2)
        · refine rn rfl ?_
          refine goal_draw' [3] 9 rfl ?_
          refine drn [0, 1, 2, 3] (by kernel_rfl) (by kernel_rfl) rfl rfl ?_
          refine AH_oneDid 4 rfl (by kernel_rfl) rfl (dA_step rfl) (mdOk rfl) ?_
          refine AH_one (i := 5) (by kernel_rfl) (step_callE [0] rfl rfl rfl rfl rfl rfl (rfl) (one_ct bs (k1 + 1 + 1) [-1, 5, 0, 2, 4] hb (by omega) (by omega) (by decide) (by decide))) (by simp) ?_
          rintro σ2 ⟨r, o', ⟨⟨w, hw, rfl⟩, rfl⟩, hσ⟩
          obtain rfl := Option.some.inj hσ
          clear hσ
          refine AH_did 6 rfl (by kernel_rfl) (by kernel_rfl) (by kernel_rfl) rfl rfl (dA_indexOwn rfl rfl rfl rfl rfl rfl rfl rfl rfl (by omega) (by (try simp); omega)) ?_
          refine AH_did 7 rfl (by kernel_rfl) (by kernel_rfl) (by kernel_rfl) rfl rfl (dA_step rfl) ?_
          refine AH_oneDid 8 rfl (by kernel_rfl) rfl (dA_storeEl (eQ p) ((s.set j ⟨p.name, w, p.hasD, p.dflt⟩).map eQ) true rfl rfl rfl rfl rfl (map_at (by simpa using hp)) rfl rfl (by simp [eQ]) (by rw [map_set]; simp [patch, eQ]) (fun _ => noOwnR_map _ eQ_noOwn _)) (mdOk rfl) ?_
          refine AH_end (by kernel_rfl) ?_
          refine rn rfl ?_
          exact cut_nrm [3, 2] [1, 3, 2] rfl ⟨s.set j ⟨p.name, w, p.hasD, p.dflt⟩, k1 + 1 + 1 + 1, small_set hsm (by exact hpn), by omega, by omega, by simp, rfl⟩
        · refine rn rfl ?_
          refine goal_cond rfl (fun c3 => ?_) (fun c3 => ?_) <;> (try simp only [gt_iff_lt, ge_iff_le, bne_iff_ne, ne_eq, bne_eq_false_iff_eq, beq_iff_eq, beq_eq_false_iff_ne, Bool.not_eq_true', Bool.not_eq_false', decide_eq_true_eq, decide_eq_false_iff_not, List.length_map] at c3)
          · refine rn rfl ?_
            refine goal_drawL [2, 3] [12] 13 rfl ?_
            refine drnL [0, 1, 2, 3, 4, 5] (by kernel_rfl) (by kernel_rfl) rfl rfl ?_
            refine AHL_did 6 rfl (by kernel_rfl) (by kernel_rfl) (by kernel_rfl) (by kernel_rfl) rfl rfl (dA_indexOwn rfl rfl rfl rfl rfl rfl rfl rfl rfl (by omega) (by (try simp); omega)) ?_
            refine AHL_did 7 rfl (by kernel_rfl) (by kernel_rfl) (by kernel_rfl) (by kernel_rfl) rfl rfl (dA_step rfl) ?_
            refine AHL_did 8 rfl (by kernel_rfl) (by kernel_rfl) (by kernel_rfl) (by kernel_rfl) rfl rfl (dA_loadEl (eQ p) rfl rfl rfl rfl (map_at (by simpa using hp)) rfl rfl rfl) ?_
            refine drnL [9] (by kernel_rfl) (by kernel_rfl) rfl rfl ?_
            refine AHL_did 10 rfl (by kernel_rfl) (by kernel_rfl) (by kernel_rfl) (by kernel_rfl) rfl rfl (dA_indexOwn rfl rfl rfl rfl rfl rfl rfl rfl rfl (by omega) (by (try simp); omega)) ?_
            refine AHL_did 11 rfl (by kernel_rfl) (by kernel_rfl) (by kernel_rfl) (by kernel_rfl) rfl rfl (dA_step rfl) ?_
            refine AHL_lateDid 12 rfl (by kernel_rfl) rfl rfl (dA_storeEl (eQ p) ((s.set j ⟨p.name, p.kind, !p.hasD, p.dflt⟩).map eQ) true rfl rfl rfl rfl rfl (map_at (by simpa using hp)) rfl rfl (by simp [eQ]) (by rw [map_set]; simp [patch, eQ]) (fun _ => noOwnR_map _ eQ_noOwn _)) ?_
            refine AH_end (by kernel_rfl) ?_
            refine rn rfl ?_
            exact cut_nrm [3, 2] [1, 3, 2] rfl ⟨s.set j ⟨p.name, p.kind, !p.hasD, p.dflt⟩, k1 + 1 + 1, small_set hsm (by exact hpn), by omega, by omega, by simp, rfl⟩
          · refine rn rfl ?_
            refine goal_cond rfl (fun c4 => ?_) (fun c4 => ?_) <;> (try simp only [gt_iff_lt, ge_iff_le, bne_iff_ne, ne_eq, bne_eq_false_iff_eq, beq_iff_eq, beq_eq_false_iff_ne, Bool.not_eq_true', Bool.not_eq_false', decide_eq_true_eq, decide_eq_false_iff_not, List.length_map] at c4)
            · refine rn rfl ?_
              refine goal_draw' [3] 9 rfl ?_
              refine drn [0, 1, 2, 3] (by kernel_rfl) (by kernel_rfl) rfl rfl ?_
              refine AH_oneDid 4 rfl (by kernel_rfl) rfl (dA_step rfl) (mdOk rfl) ?_
              refine AH_one (i := 5) (by kernel_rfl) (step_callE [0] rfl rfl rfl rfl rfl rfl (rfl) (one_ct bs (k1 + 1 + 1) [100, 5] hb (by omega) (by omega) (by decide) (by decide))) (by simp) ?_
              rintro σ2 ⟨r, o', ⟨⟨w, hw, rfl⟩, rfl⟩, hσ⟩
              obtain rfl := Option.some.inj hσ
              clear hσ
              refine AH_did 6 rfl (by kernel_rfl) (by kernel_rfl) (by kernel_rfl) rfl rfl (dA_indexOwn rfl rfl rfl rfl rfl rfl rfl rfl rfl (by omega) (by (try simp); omega)) ?_
              refine AH_did 7 rfl (by kernel_rfl) (by kernel_rfl) (by kernel_rfl) rfl rfl (dA_step rfl) ?_
              refine AH_oneDid 8 rfl (by kernel_rfl) rfl (dA_storeEl (eQ p) ((s.set j ⟨p.name, p.kind, p.hasD, w⟩).map eQ) true rfl rfl rfl rfl rfl (map_at (by simpa using hp)) rfl rfl (by simp [eQ]) (by rw [map_set]; simp [patch, eQ]) (fun _ => noOwnR_map _ eQ_noOwn _)) (mdOk rfl) ?_
              refine AH_end (by kernel_rfl) ?_
              refine rn rfl ?_
              exact cut_nrm [3, 2] [1, 3, 2] rfl ⟨s.set j ⟨p.name, p.kind, p.hasD, w⟩, k1 + 1 + 1 + 1, small_set hsm (by exact hpn), by omega, by omega, by simp, rfl⟩
            · refine rn rfl ?_
              exact cut_nrm [3, 2] [1, 3, 2] rfl ⟨s, k1 + 1 + 1, hsm, by omega, by omega, rfl, rfl⟩
    · refine rn rfl ?_
      exact cut_nrm [3, 2] [1, 3, 2] rfl ⟨s, k1, hsm, by omega, by omega, rfl, rfl⟩
  rintro _ ⟨t, k2, ht, hk3, hk4, htl, rfl⟩
  refine rn rfl (fin_is [] rfl ⟨t, k2, ht, by omega, by omega, ?_, rfl⟩)
  rw [← htl]; exact asG t

/-- A flat of a draw: not long, its names short. -/
structure MidF (f : Flat) (a b : Nat) : Prop where
  places : f.places.length ≤ a
  named : f.named.length ≤ b
  names : ∀ p ∈ f.named, p.name.length ≤ 7

theorem callFor_ct (bs : Str) (k : Int) (s : Sig) (hs : OkS s) (hb : bs.length ≤ 2000) (hk : 0 ≤ k) (hk' : k ≤ 1073700000) :
    ACalls pk 160 [.one (.op 0 0 0), .agg (eG s)] [oR bs k] (fun r o => ∃ f k', MidF f 24 8 ∧ k ≤ k' ∧ k' ≤ k + 200 ∧ r = .agg (eF f) ∧ o = [oR bs k']) := by
  have hsl := hs.len
  have hP := placesQ_le s
  have hw0 : IntKind.i64.wrap ((placesQ s : Int) + 1) = (placesQ s : Int) + 1 := wrap64 (by omega) (by omega)
  refine acalls_of_body Tryz.func160 rfl (by kernel_rfl) rfl ?_
  refine rn rfl ?_
  refine goal_step (step_call [] rfl rfl rfl rfl rfl rfl (splaces_ct s (by omega))) ?_
  rintro σ2 ⟨r, o', ⟨rfl, rfl⟩, hσ⟩
  obtain rfl := Option.some.inj hσ
  clear hσ
  refine rn rfl ?_
  rw [hw0]
  refine goal_step (step_callE [0] rfl rfl rfl rfl rfl rfl (rfl) (pick_ct bs k ((placesQ s : Int) + 1) hb (by omega) (by omega) (by omega))) ?_
  rintro σ2 ⟨r, o', ⟨⟨pl, rfl, _, _⟩, rfl⟩, hσ⟩
  obtain rfl := Option.some.inj hσ
  clear hσ
  refine rn rfl ?_
  refine goal_loop_keep (fun m σ => ∃ (q k1 : Int) (i l1 l2 : Nat) (F : Flat), q = i ∧ i ≤ s.length ∧ m = s.length - i ∧ l1 = F.places.length ∧ l2 = F.named.length ∧ MidF F (3 * i) i ∧ k + 1 ≤ k1 ∧ k1 ≤ k + 1 + 20 * i ∧
      σ = ⟨[(7, .one (.int .i64 q)), (6, .one (.int .i64 pl)), (5, .one (.op 3 0 0)), (4, .one (.op 2 0 0)), (3, .one (.op 1 0 0)), (0, .one (.op 0 0 0))],
        [oR bs k1, some ⟨1, [eG s], false, false, true⟩, some ⟨2, [[.fs [], .fs []]], false, false, true⟩, some ⟨2, [[.os 4 0 l1 l1, .os 5 0 l2 l2]], false, false, true⟩, ownI F.places, ownP F.named], []⟩) s.length [7, 6, 5, 4, 3, 0] [1, 2, 5, 3, 4] rfl
    ⟨_, k + 1, 0, 0, 0, zF, rfl, by omega, by omega, rfl, rfl, ⟨by simp [zF], by simp [zF], by simp [zF]⟩, by omega, by omega, rfl⟩ ?_
  rintro m σ ⟨q, k1, i, l1, l2, F, rfl, hi, rfl, rfl, rfl, hF, hk1, hk2, rfl⟩
  have hF1 := hF.places
  have hF2 := hF.named
  have fin : goal pk Tryz.f160.ntmps 1 (fun _ _ => False) (.nrm []) ⟨[], [], []⟩ → True := fun _ => trivial
  clear fin
  refine rn rfl ?_
  refine goal_guard rfl rfl rfl (fun hc => ?_) (fun hc => ?_) <;> (try simp only [gt_iff_lt, ge_iff_le, bne_iff_ne, ne_eq, bne_eq_false_iff_eq, beq_iff_eq, beq_eq_false_iff_ne, Bool.not_eq_true', Bool.not_eq_false', decide_eq_true_eq, decide_eq_false_iff_not, List.length_map] at hc)
  · refine rn rfl ?_
    refine goal_cond rfl (fun hc2 => ?_) (fun hc2 => ?_) <;> (try simp only [gt_iff_lt, ge_iff_le, bne_iff_ne, ne_eq, bne_eq_false_iff_eq, beq_iff_eq, beq_eq_false_iff_ne, Bool.not_eq_true', Bool.not_eq_false', decide_eq_true_eq, decide_eq_false_iff_not, List.length_map] at hc2)
    · obtain ⟨p, hp⟩ := at_some (xs := s) (i := i) (by omega)
      have hpn := hs.nameLen (List.mem_of_getElem? hp)
      refine rn rfl ?_
      refine goal_did rfl rfl (dA_index (eQ p) rfl rfl rfl rfl rfl rfl rfl (by omega) (by (try simp); omega) (map_at (by simpa using hp)) rfl) ?_
      refine rt1 7 rfl ?_
      refine goal_cutR (fun σ' => ∃ v : Int, σ' = ⟨[(9, .one (.int .i64 v)), (8, .one (.op 6 0 0)), (7, .one (.int .i64 i)), (6, .one (.int .i64 pl)), (5, .one (.op 3 0 0)), (4, .one (.op 2 0 0)), (3, .one (.op 1 0 0)), (0, .one (.op 0 0 0))], [oR bs (k1 + 1), some ⟨1, [eG s], false, false, true⟩, some ⟨2, [[.fs [], .fs []]], false, false, true⟩, some ⟨2, [[.os 4 0 F.places.length F.places.length, .os 5 0 F.named.length F.named.length]], false, false, true⟩, ownI F.places, ownP F.named, some ⟨4, [eQ p], false, false, true⟩], []⟩) ?_ ?_
      · refine rn rfl ?_
        refine goal_step (step_callE [0] rfl rfl rfl rfl rfl rfl (rfl) (aNumber_ct bs k1 hb (by omega) (by omega))) ?_
        rintro σ2 ⟨r, o', ⟨⟨v, _, _, rfl⟩, rfl⟩, hσ⟩
        obtain rfl := Option.some.inj hσ
        clear hσ
        refine rn rfl ?_
        exact cut_nrm [9, 8, 7, 6, 5, 4, 3, 0] [1, 2, 3, 4, 5, 6] rfl ⟨v, rfl⟩
      rintro _ ⟨v0, rfl⟩
      refine rt 8 rfl ?_
      refine goal_cutR (fun σ' => ∃ v k2 : Int, k1 + 1 ≤ k2 ∧ k2 ≤ k1 + 2 ∧ σ' = ⟨[(9, .one (.int .i64 v)), (8, .one (.op 6 0 0)), (7, .one (.int .i64 i)), (6, .one (.int .i64 pl)), (5, .one (.op 3 0 0)), (4, .one (.op 2 0 0)), (3, .one (.op 1 0 0)), (0, .one (.op 0 0 0))], [oR bs k2, some ⟨1, [eG s], false, false, true⟩, some ⟨2, [[.fs [], .fs []]], false, false, true⟩, some ⟨2, [[.os 4 0 F.places.length F.places.length, .os 5 0 F.named.length F.named.length]], false, false, true⟩, ownI F.places, ownP F.named, some ⟨4, [eQ p], false, false, true⟩], []⟩) ?_ ?_
      · refine rn rfl ?_
        refine goal_guard rfl rfl rfl (fun a1 => ?_) (fun a1 => ?_) <;> (try simp only [gt_iff_lt, ge_iff_le, bne_iff_ne, ne_eq, bne_eq_false_iff_eq, beq_iff_eq, beq_eq_false_iff_ne, Bool.not_eq_true', Bool.not_eq_false', decide_eq_true_eq, decide_eq_false_iff_not, List.length_map] at a1)
        · refine rn rfl ?_
          refine goal_step (step_callE [0] rfl rfl rfl rfl rfl rfl (rfl) (pick_ct bs (k1 + 1) 3 hb (by omega) (by omega) (by omega))) ?_
          rintro σ2 ⟨r, o', ⟨⟨z, rfl, _, _⟩, rfl⟩, hσ⟩
          obtain rfl := Option.some.inj hσ
          clear hσ
          refine rn rfl ?_
          refine goal_cond rfl (fun a2 => ?_) (fun a2 => ?_) <;> (try simp only [gt_iff_lt, ge_iff_le, bne_iff_ne, ne_eq, bne_eq_false_iff_eq, beq_iff_eq, beq_eq_false_iff_ne, Bool.not_eq_true', Bool.not_eq_false', decide_eq_true_eq, decide_eq_false_iff_not, List.length_map] at a2)
          · refine rn rfl ?_
            exact cut_nrm [9, 8, 7, 6, 5, 4, 3, 0] [1, 2, 3, 4, 5, 6] rfl ⟨p.dflt, k1 + 1 + 1, by omega, by omega, rfl⟩
          · refine rn rfl ?_
            exact cut_nrm [9, 8, 7, 6, 5, 4, 3, 0] [1, 2, 3, 4, 5, 6] rfl ⟨v0, k1 + 1 + 1, by omega, by omega, rfl⟩
        · refine rn rfl ?_
          exact cut_nrm [9, 8, 7, 6, 5, 4, 3, 0] [1, 2, 3, 4, 5, 6] rfl ⟨v0, k1 + 1, by omega, by omega, rfl⟩
      rintro _ ⟨v, k2, hk3, hk4, rfl⟩
      refine rt1 10 rfl ?_
      refine goal_cutR (fun σ' => ∃ b : Bool, σ' = ⟨[(48, .one (.bool b)), (9, .one (.int .i64 v)), (8, .one (.op 6 0 0)), (7, .one (.int .i64 i)), (6, .one (.int .i64 pl)), (5, .one (.op 3 0 0)), (4, .one (.op 2 0 0)), (3, .one (.op 1 0 0)), (0, .one (.op 0 0 0))], [oR bs k2, some ⟨1, [eG s], false, false, true⟩, some ⟨2, [[.fs [], .fs []]], false, false, true⟩, some ⟨2, [[.os 4 0 F.places.length F.places.length, .os 5 0 F.named.length F.named.length]], false, false, true⟩, ownI F.places, ownP F.named, some ⟨4, [eQ p], false, false, true⟩], []⟩) ?_ ?_
      · refine rn rfl ?_
        refine goal_step (step_call [] rfl rfl rfl rfl rfl rfl (splaced_ct p)) ?_
        rintro σ2 ⟨r, o', ⟨rfl, rfl⟩, hσ⟩
        obtain rfl := Option.some.inj hσ
        clear hσ
        refine rn rfl ?_
        refine goal_guard rfl rfl rfl (fun a1 => ?_) (fun a1 => ?_) <;> (try simp only [gt_iff_lt, ge_iff_le, bne_iff_ne, ne_eq, bne_eq_false_iff_eq, beq_iff_eq, beq_eq_false_iff_ne, Bool.not_eq_true', Bool.not_eq_false', decide_eq_true_eq, decide_eq_false_iff_not, List.length_map] at a1)
        · refine rn rfl ?_
          refine goal_guard rfl rfl rfl (fun a2 => ?_) (fun a2 => ?_) <;> (try simp only [gt_iff_lt, ge_iff_le, bne_iff_ne, ne_eq, bne_eq_false_iff_eq, beq_iff_eq, beq_eq_false_iff_ne, Bool.not_eq_true', Bool.not_eq_false', decide_eq_true_eq, decide_eq_false_iff_not, List.length_map] at a2)
          · refine rn rfl ?_
            exact cut_nrm [48, 9, 8, 7, 6, 5, 4, 3, 0] [1, 2, 3, 4, 5, 6] rfl ⟨true, rfl⟩
          · refine rn rfl ?_
            refine goal_guard rfl rfl rfl (fun a3 => ?_) (fun a3 => ?_) <;> (try simp only [gt_iff_lt, ge_iff_le, bne_iff_ne, ne_eq, bne_eq_false_iff_eq, beq_iff_eq, beq_eq_false_iff_ne, Bool.not_eq_true', Bool.not_eq_false', decide_eq_true_eq, decide_eq_false_iff_not, List.length_map] at a3)
            · refine rn rfl ?_
              refine goal_guard rfl rfl rfl (fun a4 => ?_) (fun a4 => ?_) <;> (try simp only [gt_iff_lt, ge_iff_le, bne_iff_ne, ne_eq, bne_eq_false_iff_eq, beq_iff_eq, beq_eq_false_iff_ne, Bool.not_eq_true', Bool.not_eq_false', decide_eq_true_eq, decide_eq_false_iff_not, List.length_map] at a4)
              · refine rn rfl ?_
                exact cut_nrm [48, 9, 8, 7, 6, 5, 4, 3, 0] [1, 2, 3, 4, 5, 6] rfl ⟨_, rfl⟩
              · refine rn rfl ?_
                exact cut_nrm [48, 9, 8, 7, 6, 5, 4, 3, 0] [1, 2, 3, 4, 5, 6] rfl ⟨false, rfl⟩
            · refine rn rfl ?_
              exact cut_nrm [48, 9, 8, 7, 6, 5, 4, 3, 0] [1, 2, 3, 4, 5, 6] rfl ⟨false, rfl⟩
        · refine rn rfl ?_
          exact cut_nrm [48, 9, 8, 7, 6, 5, 4, 3, 0] [1, 2, 3, 4, 5, 6] rfl ⟨false, rfl⟩
      rintro _ ⟨b1, rfl⟩
      refine rn rfl ?_
      refine goal_cond rfl (fun c1 => ?_) (fun c1 => ?_) <;> (try simp only [gt_iff_lt, ge_iff_le, bne_iff_ne, ne_eq, bne_eq_false_iff_eq, beq_iff_eq, beq_eq_false_iff_ne, Bool.not_eq_true', Bool.not_eq_false', decide_eq_true_eq, decide_eq_false_iff_not, List.length_map] at c1)
      · refine rn rfl ?_
        refine goal_did rfl rfl (dA_append (old := (F.places).map eI) (rows := ([v] : List Int).map eI) (((F.places) ++ ([v] : List Int)).map eI) (F.places.length + 1) true (Dst.own rfl rfl rfl rfl rfl (by first | (simp; done) | (simp; omega)) (whole (by first | (simp; done) | (simp; omega)))) (Src.os rfl rfl (Nat.le_refl 1) rfl) rfl rfl rfl rfl rfl rfl rfl rfl (rows_len eI_len _) (rows_len eI_len _) (by (try simp only [List.length_map, List.length_append, List.length_cons, List.length_nil, List.length_take, List.length_drop]); show _ * 8 ≤ _; omega) (by first | (simp; done) | (simp; omega)) (by simp) (by first | (simp; done) | (simp; omega)) (fun _ => noOwnR_map _ eI_noOwn _)) ?_
        refine rn rfl ?_
        refine rn rfl ?_
        refine round_keep (s.length - (i + 1)) [7, 6, 5, 4, 3, 0] [1, 2, 3, 8, 5] (by omega) rfl ⟨_, k2, i + 1, _, _, ⟨F.places ++ [v], F.named⟩, wrap64 (by omega) (by omega), by omega, rfl, by simp, rfl, ⟨by simp; omega, by simp; omega, hF.names⟩, by omega, by omega, rfl⟩
      · refine rt1 12 rfl ?_
        refine goal_cutR (fun σ' => ∃ (b : Bool) (k3 : Int), k2 ≤ k3 ∧ k3 ≤ k2 + 1 ∧ σ' = ⟨[(79, .one (.bool b)), (9, .one (.int .i64 v)), (8, .one (.op 6 0 0)), (7, .one (.int .i64 i)), (6, .one (.int .i64 pl)), (5, .one (.op 3 0 0)), (4, .one (.op 2 0 0)), (3, .one (.op 1 0 0)), (0, .one (.op 0 0 0))], [oR bs k3, some ⟨1, [eG s], false, false, true⟩, some ⟨2, [[.fs [], .fs []]], false, false, true⟩, some ⟨2, [[.os 4 0 F.places.length F.places.length, .os 5 0 F.named.length F.named.length]], false, false, true⟩, ownI F.places, ownP F.named, some ⟨4, [eQ p], false, false, true⟩], []⟩) ?_ ?_
        · refine rn rfl ?_
          refine goal_step (step_call [] rfl rfl rfl rfl rfl rfl (snamed_ct p)) ?_
          rintro σ2 ⟨r, o', ⟨rfl, rfl⟩, hσ⟩
          obtain rfl := Option.some.inj hσ
          clear hσ
          refine rn rfl ?_
          refine goal_guard rfl rfl rfl (fun a1 => ?_) (fun a1 => ?_) <;> (try simp only [gt_iff_lt, ge_iff_le, bne_iff_ne, ne_eq, bne_eq_false_iff_eq, beq_iff_eq, beq_eq_false_iff_ne, Bool.not_eq_true', Bool.not_eq_false', decide_eq_true_eq, decide_eq_false_iff_not, List.length_map] at a1)
          · refine rn rfl ?_
            refine goal_step (step_lendE [] rfl rfl rfl rfl rfl rfl rfl (cons_eq (congrArg (fun x => T.one (C.fs x)) (takeAll eP F.named _ rfl)) rfl) (spairAt_ct F.named p.name (by omega)) (by rintro r o ⟨rfl, rfl⟩; exact ⟨rfl, rfl⟩)) ?_
            rintro σ2 ⟨r, o', ⟨rfl, rfl⟩, hσ⟩
            obtain rfl := Option.some.inj hσ
            clear hσ
            refine rn rfl ?_
            refine goal_guard rfl rfl rfl (fun a2 => ?_) (fun a2 => ?_) <;> (try simp only [gt_iff_lt, ge_iff_le, bne_iff_ne, ne_eq, bne_eq_false_iff_eq, beq_iff_eq, beq_eq_false_iff_ne, Bool.not_eq_true', Bool.not_eq_false', decide_eq_true_eq, decide_eq_false_iff_not, List.length_map] at a2)
            · refine rn rfl ?_
              refine goal_guard rfl rfl rfl (fun a3 => ?_) (fun a3 => ?_) <;> (try simp only [gt_iff_lt, ge_iff_le, bne_iff_ne, ne_eq, bne_eq_false_iff_eq, beq_iff_eq, beq_eq_false_iff_ne, Bool.not_eq_true', Bool.not_eq_false', decide_eq_true_eq, decide_eq_false_iff_not, List.length_map] at a3)
              · refine rn rfl ?_
                exact cut_nrm [79, 9, 8, 7, 6, 5, 4, 3, 0] [1, 2, 3, 4, 5, 6] rfl ⟨true, k2, by omega, by omega, rfl⟩
              · refine rn rfl ?_
                refine goal_step (step_callE [0] rfl rfl rfl rfl rfl rfl (rfl) (pick_ct bs k2 2 hb (by omega) (by omega) (by omega))) ?_
                rintro σ2 ⟨r, o', ⟨⟨z, rfl, _, _⟩, rfl⟩, hσ⟩
                obtain rfl := Option.some.inj hσ
                clear hσ
                refine rn rfl ?_
                exact cut_nrm [79, 9, 8, 7, 6, 5, 4, 3, 0] [1, 2, 3, 4, 5, 6] rfl ⟨_, k2 + 1, by omega, by omega, rfl⟩
            · refine rn rfl ?_
              exact cut_nrm [79, 9, 8, 7, 6, 5, 4, 3, 0] [1, 2, 3, 4, 5, 6] rfl ⟨false, k2, by omega, by omega, rfl⟩
          · refine rn rfl ?_
            exact cut_nrm [79, 9, 8, 7, 6, 5, 4, 3, 0] [1, 2, 3, 4, 5, 6] rfl ⟨false, k2, by omega, by omega, rfl⟩
        rintro _ ⟨b2, k3, hk5, hk6, rfl⟩
        refine rn rfl ?_
        refine goal_cond rfl (fun c2 => ?_) (fun c2 => ?_) <;> (try simp only [gt_iff_lt, ge_iff_le, bne_iff_ne, ne_eq, bne_eq_false_iff_eq, beq_iff_eq, beq_eq_false_iff_ne, Bool.not_eq_true', Bool.not_eq_false', decide_eq_true_eq, decide_eq_false_iff_not, List.length_map] at c2)
        · refine rn rfl ?_
          refine goal_did rfl rfl (dA_append (old := (F.named).map eP) (rows := ([⟨p.name, v⟩] : List Pair).map eP) (((F.named) ++ ([⟨p.name, v⟩] : List Pair)).map eP) (F.named.length + 1) true (Dst.own rfl rfl rfl rfl rfl (by first | (simp; done) | (simp; omega)) (whole (by first | (simp; done) | (simp; omega)))) (Src.os rfl rfl (Nat.le_refl 1) rfl) rfl rfl rfl rfl rfl rfl rfl rfl (rows_len eP_len _) (rows_len eP_len _) (by (try simp only [List.length_map, List.length_append, List.length_cons, List.length_nil, List.length_take, List.length_drop]); show _ * 24 ≤ _; omega) (by first | (simp; done) | (simp; omega)) (by simp) (by first | (simp; done) | (simp; omega)) (fun _ => noOwnR_map _ eP_noOwn _)) ?_
          refine rn rfl ?_
          refine rn rfl ?_
          refine round_keep (s.length - (i + 1)) [7, 6, 5, 4, 3, 0] [1, 2, 3, 4, 8] (by omega) rfl ⟨_, k3, i + 1, _, _, ⟨F.places, F.named ++ [⟨p.name, v⟩]⟩, wrap64 (by omega) (by omega), by omega, rfl, rfl, by simp, ⟨by simp; omega, by simp; omega, ?_⟩, by omega, by omega, rfl⟩
          intro r hr
          rcases List.mem_append.1 hr with hr | hr
          · exact hF.names r hr
          · simp only [List.mem_singleton] at hr; rw [hr]; show p.name.length ≤ 7; omega
        · refine rt1 14 rfl ?_
          refine goal_cutR (fun σ' => ∃ b : Bool, σ' = ⟨[(109, .one (.bool b)), (9, .one (.int .i64 v)), (8, .one (.op 6 0 0)), (7, .one (.int .i64 i)), (6, .one (.int .i64 pl)), (5, .one (.op 3 0 0)), (4, .one (.op 2 0 0)), (3, .one (.op 1 0 0)), (0, .one (.op 0 0 0))], [oR bs k3, some ⟨1, [eG s], false, false, true⟩, some ⟨2, [[.fs [], .fs []]], false, false, true⟩, some ⟨2, [[.os 4 0 F.places.length F.places.length, .os 5 0 F.named.length F.named.length]], false, false, true⟩, ownI F.places, ownP F.named, some ⟨4, [eQ p], false, false, true⟩], []⟩) ?_ ?_
          · refine goal_draw' [1, 3, 6] 18 rfl ?_
            refine drn [0, 1, 2, 3] (by kernel_rfl) (by kernel_rfl) rfl rfl ?_
            refine AH_guard (i := 4) rfl rfl rfl (fun d1 => ?_) (fun d1 => ?_) <;> (try simp only [gt_iff_lt, ge_iff_le, bne_iff_ne, ne_eq, bne_eq_false_iff_eq, beq_iff_eq, beq_eq_false_iff_ne, Bool.not_eq_true', Bool.not_eq_false', decide_eq_true_eq, decide_eq_false_iff_not, List.length_map] at d1)
            · refine drn [4, 5, 6, 7] (by kernel_rfl) (by kernel_rfl) rfl rfl ?_
              refine AH_one (i := 8) (by kernel_rfl) (step_call [] rfl rfl rfl rfl rfl rfl (splaces_ct s (by omega))) (by simp) ?_
              rintro σ2 ⟨r, o', ⟨rfl, rfl⟩, hσ⟩
              obtain rfl := Option.some.inj hσ
              clear hσ
              refine drn [9, 10, 11] (by kernel_rfl) (by kernel_rfl) rfl rfl ?_
              refine AH_guard (i := 12) rfl rfl rfl (fun d2 => ?_) (fun d2 => ?_) <;> (try simp only [gt_iff_lt, ge_iff_le, bne_iff_ne, ne_eq, bne_eq_false_iff_eq, beq_iff_eq, beq_eq_false_iff_ne, Bool.not_eq_true', Bool.not_eq_false', decide_eq_true_eq, decide_eq_false_iff_not, List.length_map] at d2)
              · refine drn [12, 13, 14, 15, 16, 17] (by kernel_rfl) (by kernel_rfl) rfl rfl ?_
                refine AH_end (by kernel_rfl) ?_
                refine rn rfl ?_
                exact cut_nrm [109, 9, 8, 7, 6, 5, 4, 3, 0] [1, 2, 3, 4, 5, 6] rfl ⟨_, rfl⟩
              · refine drn [12, 13, 14, 15, 16, 17] (by kernel_rfl) (by kernel_rfl) rfl rfl ?_
                refine AH_end (by kernel_rfl) ?_
                refine rn rfl ?_
                exact cut_nrm [109, 9, 8, 7, 6, 5, 4, 3, 0] [1, 2, 3, 4, 5, 6] rfl ⟨false, rfl⟩
            · refine drn [4, 5, 6, 7, 8, 9, 10, 11, 12, 13, 14, 15, 16, 17] (by kernel_rfl) (by kernel_rfl) rfl rfl ?_
              refine AH_end (by kernel_rfl) ?_
              refine rn rfl ?_
              exact cut_nrm [109, 9, 8, 7, 6, 5, 4, 3, 0] [1, 2, 3, 4, 5, 6] rfl ⟨false, rfl⟩
          rintro _ ⟨b3, rfl⟩
          refine rn rfl ?_
          refine goal_cond rfl (fun c3 => ?_) (fun c3 => ?_) <;> (try simp only [gt_iff_lt, ge_iff_le, bne_iff_ne, ne_eq, bne_eq_false_iff_eq, beq_iff_eq, beq_eq_false_iff_ne, Bool.not_eq_true', Bool.not_eq_false', decide_eq_true_eq, decide_eq_false_iff_not, List.length_map] at c3)
          · refine rn rfl ?_
            refine goal_step (step_callE [0] rfl rfl rfl rfl rfl rfl (rfl) (pick_ct bs k3 3 hb (by omega) (by omega) (by omega))) ?_
            rintro σ2 ⟨r, o', ⟨⟨y, rfl, hy, _⟩, rfl⟩, hσ⟩
            obtain rfl := Option.some.inj hσ
            clear hσ
            refine rn rfl ?_
            have hy' := hy (by omega)
            refine goal_loop_keep (fun m σ => ∃ (q k4 : Int) (l : Nat) (G : List Int), m = q.toNat ∧ 0 ≤ q ∧ q ≤ 2 ∧ l = G.length ∧ (G.length : Int) + q ≤ F.places.length + 2 ∧ k3 + 1 ≤ k4 ∧ k4 + q ≤ k3 + 3 ∧
                σ = ⟨[(10, .one (.int .i64 q)), (7, .one (.int .i64 i)), (6, .one (.int .i64 pl)), (5, .one (.op 3 0 0)), (4, .one (.op 2 0 0)), (3, .one (.op 1 0 0)), (0, .one (.op 0 0 0))],
                  [oR bs k4, some ⟨1, [eG s], false, false, true⟩, some ⟨2, [[.fs [], .fs []]], false, false, true⟩, some ⟨2, [[.os 4 0 l l, .os 5 0 F.named.length F.named.length]], false, false, true⟩, ownI G, ownP F.named], []⟩) y.toNat [10, 7, 6, 5, 4, 3, 0] [1, 2, 3, 4, 5] rfl
              ⟨y, k3 + 1, _, F.places, rfl, by omega, by omega, rfl, by omega, by omega, by omega, rfl⟩ ?_
            rintro m2 σ2 ⟨q, k4, l, G, rfl, hq0, hq2, rfl, hG, hk7, hk8, rfl⟩
            have hwq : IntKind.i64.wrap (q - 1) = q - 1 := wrap64 (by omega) (by omega)
            have fin2 : ∀ {K : KP}, K = K → True := fun _ => trivial
            clear fin2
            refine rn rfl ?_
            refine goal_guard rfl rfl rfl (fun d5 => ?_) (fun d5 => ?_) <;> (try simp only [gt_iff_lt, ge_iff_le, bne_iff_ne, ne_eq, bne_eq_false_iff_eq, beq_iff_eq, beq_eq_false_iff_ne, Bool.not_eq_true', Bool.not_eq_false', decide_eq_true_eq, decide_eq_false_iff_not, List.length_map] at d5)
            · refine rn rfl ?_
              refine goal_cond rfl (fun d6 => ?_) (fun d6 => ?_) <;> (try simp only [gt_iff_lt, ge_iff_le, bne_iff_ne, ne_eq, bne_eq_false_iff_eq, beq_iff_eq, beq_eq_false_iff_ne, Bool.not_eq_true', Bool.not_eq_false', decide_eq_true_eq, decide_eq_false_iff_not, List.length_map] at d6)
              · refine rn rfl ?_
                refine goal_drawL [3] [7] 8 rfl ?_
                refine drnL [0, 1, 2] (by kernel_rfl) (by kernel_rfl) rfl rfl ?_
                refine AHL_one (i := 3) (by kernel_rfl) rfl (step_callE [0] rfl rfl rfl rfl rfl rfl (rfl) (aNumber_ct bs k4 hb (by omega) (by omega))) (by simp) ?_
                rintro σ2 ⟨r, o', ⟨⟨w, _, _, rfl⟩, rfl⟩, hσ⟩
                obtain rfl := Option.some.inj hσ
                clear hσ
                refine AHL_oneDid 4 rfl (by kernel_rfl) rfl rfl (dA_step rfl) (mdOk rfl) ?_
                refine AHL_oneDid 5 rfl (by kernel_rfl) rfl rfl (dA_append (old := (G).map eI) (rows := ([w] : List Int).map eI) (((G) ++ ([w] : List Int)).map eI) (G.length + 1) true (Dst.own rfl rfl rfl rfl rfl (by first | (simp; done) | (simp; omega)) (whole (by first | (simp; done) | (simp; omega)))) (Src.os rfl rfl (Nat.le_refl 1) rfl) rfl rfl rfl rfl rfl rfl rfl rfl (rows_len eI_len _) (rows_len eI_len _) (by (try simp only [List.length_map, List.length_append, List.length_cons, List.length_nil, List.length_take, List.length_drop]); show _ * 8 ≤ _; omega) (by first | (simp; done) | (simp; omega)) (by simp) (by first | (simp; done) | (simp; omega)) (fun _ => noOwnR_map _ eI_noOwn _)) (mdOk rfl) ?_
                refine drnL [6] (by kernel_rfl) (by kernel_rfl) rfl rfl ?_
                refine AHL_lateDid 7 rfl (by kernel_rfl) rfl rfl (dA_step rfl) ?_
                refine AH_end (by kernel_rfl) ?_
                refine rn rfl ?_
                refine rn rfl ?_
                rw [hwq]
                refine round_keep (q - 1).toNat [10, 7, 6, 5, 4, 3, 0] [1, 2, 3, 7, 5] (by omega) rfl ⟨q - 1, k4 + 1, _, G ++ [w], rfl, by omega, by omega, (by simp : G.length + 1 = _), by simp; omega, by omega, by omega, rfl⟩
              · refine rn rfl (round_ext ?_)
                refine rn rfl ?_
                refine round_keep (s.length - (i + 1)) [7, 6, 5, 4, 3, 0] [1, 2, 3, 4, 5] (by omega) rfl ⟨_, k4, i + 1, _, _, ⟨G, F.named⟩, wrap64 (by omega) (by omega), by omega, rfl, rfl, rfl, ⟨by show G.length ≤ _; omega, by show F.named.length ≤ _; omega, hF.names⟩, by omega, by omega, rfl⟩
            · refine rn rfl (round_ext ?_)
              refine rn rfl ?_
              refine round_keep (s.length - (i + 1)) [7, 6, 5, 4, 3, 0] [1, 2, 3, 4, 5] (by omega) rfl ⟨_, k4, i + 1, _, _, ⟨G, F.named⟩, wrap64 (by omega) (by omega), by omega, rfl, rfl, rfl, ⟨by show G.length ≤ _; omega, by show F.named.length ≤ _; omega, hF.names⟩, by omega, by omega, rfl⟩
          · refine rt1 19 rfl ?_
            refine goal_cutR (fun σ' => ∃ (b : Bool) (k4 : Int), k3 ≤ k4 ∧ k4 ≤ k3 + 1 ∧ σ' = ⟨[(146, .one (.bool b)), (9, .one (.int .i64 v)), (8, .one (.op 6 0 0)), (7, .one (.int .i64 i)), (6, .one (.int .i64 pl)), (5, .one (.op 3 0 0)), (4, .one (.op 2 0 0)), (3, .one (.op 1 0 0)), (0, .one (.op 0 0 0))], [oR bs k4, some ⟨1, [eG s], false, false, true⟩, some ⟨2, [[.fs [], .fs []]], false, false, true⟩, some ⟨2, [[.os 4 0 F.places.length F.places.length, .os 5 0 F.named.length F.named.length]], false, false, true⟩, ownI F.places, ownP F.named, some ⟨4, [eQ p], false, false, true⟩], []⟩) ?_ ?_
            · refine rn rfl ?_
              refine goal_guard rfl rfl rfl (fun d1 => ?_) (fun d1 => ?_) <;> (try simp only [gt_iff_lt, ge_iff_le, bne_iff_ne, ne_eq, bne_eq_false_iff_eq, beq_iff_eq, beq_eq_false_iff_ne, Bool.not_eq_true', Bool.not_eq_false', decide_eq_true_eq, decide_eq_false_iff_not, List.length_map] at d1)
              · refine rn rfl ?_
                refine goal_step (step_callE [0] rfl rfl rfl rfl rfl rfl (rfl) (pick_ct bs k3 2 hb (by omega) (by omega) (by omega))) ?_
                rintro σ2 ⟨r, o', ⟨⟨z, rfl, _, _⟩, rfl⟩, hσ⟩
                obtain rfl := Option.some.inj hσ
                clear hσ
                refine rn rfl ?_
                exact cut_nrm [146, 9, 8, 7, 6, 5, 4, 3, 0] [1, 2, 3, 4, 5, 6] rfl ⟨_, k3 + 1, by omega, by omega, rfl⟩
              · refine rn rfl ?_
                exact cut_nrm [146, 9, 8, 7, 6, 5, 4, 3, 0] [1, 2, 3, 4, 5, 6] rfl ⟨false, k3, by omega, by omega, rfl⟩
            rintro _ ⟨b4, k4, hk7, hk8, rfl⟩
            refine rn rfl ?_
            refine goal_cond rfl (fun c4 => ?_) (fun c4 => ?_) <;> (try simp only [gt_iff_lt, ge_iff_le, bne_iff_ne, ne_eq, bne_eq_false_iff_eq, beq_iff_eq, beq_eq_false_iff_ne, Bool.not_eq_true', Bool.not_eq_false', decide_eq_true_eq, decide_eq_false_iff_not, List.length_map] at c4)
            · refine rn rfl ?_
              refine goal_drawL [3] [10] 11 rfl ?_
              refine drnL [0, 1, 2, 5] (by kernel_rfl) (by kernel_rfl) rfl rfl ?_
              refine AHL_oneDid 3 rfl (by kernel_rfl) rfl rfl (dA_step rfl) (mdOk rfl) ?_
              refine AHL_one (i := 4) (by kernel_rfl) rfl (step_callE [0] rfl rfl rfl rfl rfl rfl (rfl) (of_ct bs k4 [[109], [110], [111]] hb (by omega) (by omega) (by decide) (by decide))) (by simp) ?_
              rintro σ2 ⟨r, o', ⟨⟨nm, hnm, rfl⟩, rfl⟩, hσ⟩
              obtain rfl := Option.some.inj hσ
              clear hσ
              refine AHL_one (i := 6) (by kernel_rfl) rfl (step_callE [0] rfl rfl rfl rfl rfl rfl (rfl) (aNumber_ct bs (k4 + 1) hb (by omega) (by omega))) (by simp) ?_
              rintro σ2 ⟨r, o', ⟨⟨w, _, _, rfl⟩, rfl⟩, hσ⟩
              obtain rfl := Option.some.inj hσ
              clear hσ
              refine drnL [7] (by kernel_rfl) (by kernel_rfl) rfl rfl ?_
              refine AHL_one (i := 8) (by kernel_rfl) rfl (step_callE [] rfl rfl rfl rfl rfl rfl (cons_eq (congrArg (fun x => T.one (C.fs x)) (takeAll eP F.named _ rfl)) rfl) (putPair_ct F.named ⟨nm, w⟩ (by omega))) (by simp) ?_
              rintro σ2 ⟨r, o', ⟨rfl, rfl⟩, hσ⟩
              obtain rfl := Option.some.inj hσ
              clear hσ
              refine drnL [9] (by kernel_rfl) (by kernel_rfl) rfl rfl ?_
              refine AHL_lateDid 10 rfl (by kernel_rfl) rfl rfl (dA_step rfl) ?_
              refine AH_end (by kernel_rfl) ?_
              refine rn rfl ?_
              have hnl : nm.length ≤ 7 := by
                simp only [List.mem_cons, List.not_mem_nil, or_false] at hnm
                rcases hnm with h | h | h <;> (rw [h]; decide)
              refine rn rfl ?_
              have hpl : (spPair F.named ⟨nm, w⟩).length ≤ F.named.length + 1 := by rw [spPair_eq]; exact putP_length _ _ _
              refine round_keep (s.length - (i + 1)) [7, 6, 5, 4, 3, 0] [1, 2, 3, 4, 8] (by omega) rfl ⟨_, k4 + 1 + 1, i + 1, _, _, ⟨F.places, spPair F.named ⟨nm, w⟩⟩, wrap64 (by omega) (by omega), by omega, rfl, rfl, rfl, ⟨by show F.places.length ≤ _; omega, by show (spPair F.named ⟨nm, w⟩).length ≤ _; omega, ?_⟩, by omega, by omega, rfl⟩
              intro r hr
              rw [spPair_eq] at hr
              rcases putP_mem hr with h | ⟨q, hq, h⟩
              · rw [h]; exact hnl
              · rw [h]; exact hF.names q hq
            · refine rn rfl ?_
              refine round_keep (s.length - (i + 1)) [7, 6, 5, 4, 3, 0] [1, 2, 3, 4, 5] (by omega) rfl ⟨_, k4, i + 1, _, _, F, wrap64 (by omega) (by omega), by omega, rfl, rfl, rfl, ⟨by omega, by omega, hF.names⟩, by omega, by omega, rfl⟩
    · refine rn rfl (round_ext ?_)
      refine rn rfl (fin_is [] rfl ⟨F, k1, ⟨by omega, by omega, hF.names⟩, by omega, by omega, ?_, rfl⟩)
      exact asFl F
  · refine rn rfl (round_ext ?_)
    refine rn rfl (fin_is [] rfl ⟨F, k1, ⟨by omega, by omega, hF.names⟩, by omega, by omega, ?_, rfl⟩)
    exact asFl F

/-- Given by its place. -/
def byPl (pl : List Int) (i : Nat) (p : Param) : Bool := placedQ p && decide (i < pl.length)

def giveQ (s : Sig) (pl : List Int) (qs : List Pair) (i : Nat) (p : Param) : Slot :=
  if p.kind = 4 then ⟨false, [], qs.filter fun q => takesQ s q.name == (i : Int)⟩
  else if namedQ p && !byPl pl i p then (match qs.find? (nameIs p.name) with
    | some q => ⟨true, [q.value], []⟩
    | none => zL)
  else place1 (placesQ s) pl i p

def wrongQ (s : Sig) (pl : List Int) (q : Pair) : Option Problem :=
  if takesQ s q.name < 0 then some ⟨1, q.name⟩ else
  match s[(takesQ s q.name).toNat]? with
  | some p => if p.kind = 4 then none else if byPl pl (takesQ s q.name).toNat p then some ⟨2, q.name⟩ else none
  | none => none

def closedQ (s : Sig) (pl : List Int) (qs : List Pair) : Bnds × List Problem := (s.mapIdx (giveQ s pl qs), manyQ s pl ++ qs.filterMap (wrongQ s pl))

theorem giveQ_nil {s : Sig} (pl : List Int) (i : Nat) (p : Param) : giveQ s pl [] i p = place1 (placesQ s) pl i p := by
  unfold giveQ
  by_cases h4 : p.kind = 4
  · rw [if_pos h4]
    have : placedQ p = false := by
      cases h : placedQ p with
      | false => rfl
      | true => rw [placed_kind] at h; omega
    unfold place1
    simp [this, h4, zL]
  · rw [if_neg h4]
    split
    · rename_i h
      simp only [Bool.and_eq_true, Bool.not_eq_true'] at h
      have hk := named_kind.1 h.1
      unfold place1
      unfold byPl at h
      rw [h.2]
      have : (p.kind == 2) = false := by simp; omega
      simp [this]
    · rfl

theorem closed_nil (s : Sig) (pl : List Int) : closedQ s pl [] = (phase1 s pl, manyQ s pl) := by
  simp only [closedQ, phase1, List.filterMap_nil, List.append_nil]
  congr 1
  apply List.ext_getElem?
  intro i
  rw [List.getElem?_mapIdx, List.getElem?_mapIdx]
  cases s[i]? with
  | none => rfl
  | some p => simp only [Option.map_some, giveQ_nil]

theorem takes_named {s : Sig} (hs : OkS s) {i : Nat} {p : Param} (hp : s[i]? = some p) (hn : namedQ p = true) : takesQ s p.name = (i : Int) := by
  have hq : ∀ j q, s[j]? = some q → q.name = p.name → j = i := fun j q hj hqn => by
    have hnd := hs.nodup
    rw [List.nodup_iff_pairwise_ne, List.pairwise_iff_getElem] at hnd
    have hi := lt_of_some hp
    have hjl := lt_of_some hj
    rw [List.getElem?_eq_getElem hi] at hp
    rw [List.getElem?_eq_getElem hjl] at hj
    simp only [Option.some.injEq] at hp hj
    rcases Nat.lt_trichotomy j i with h | h | h
    · exact absurd (by rw [List.getElem_map, List.getElem_map, hp, hj, hqn]) (hnd j i (by simpa using hjl) (by simpa using hi) h)
    · exact h
    · exact absurd (by rw [List.getElem_map, List.getElem_map, hp, hj, hqn]) (hnd i j (by simpa using hi) (by simpa using hjl) h)
  have hany : s.any (qIs p.name) = true := by rw [List.any_eq_true]; exact ⟨p, List.mem_of_getElem? hp, by simp [qIs]⟩
  obtain ⟨q, hf, hqi, hqn, hlt⟩ := idxI_find (idxI_ge (i := 0).2 hany)
  have hqn' : q.name = p.name := by simpa [qIs] using hqn
  have hix := hq _ q hqi hqn'
  have hpq : q = p := by rw [hix, hp] at hqi; exact (Option.some.inj hqi).symm
  have h0 := idxI_ge (i := 0).2 hany
  unfold takesQ
  rw [hf]
  simp only [hpq, hn, if_true]
  omega

theorem find_snoc {qs : List Pair} {q : Pair} {n : Str} : (qs ++ [q]).find? (nameIs n) = (match qs.find? (nameIs n) with
    | some x => some x
    | none => if q.name = n then some q else none) := by
  rw [List.find?_append]
  cases qs.find? (nameIs n) with
  | some x => rfl
  | none =>
    simp only [Option.none_or, List.find?_cons, List.find?_nil, nameIs]
    by_cases h : q.name = n
    · simp [h]
    · have : (q.name == n) = false := by simpa using h
      simp [h, this]

theorem find_none {qs : List Pair} {n : Str} (h : n ∉ namesOf qs) : qs.find? (nameIs n) = none := by
  rw [List.find?_eq_none]
  intro x hx hxn
  exact h (by simp only [nameIs, beq_iff_eq] at hxn; rw [← hxn]; exact List.mem_map_of_mem hx)

theorem closed_step {s : Sig} (hs : OkS s) {pl : List Int} {qs : List Pair} {q : Pair} (hq : q.name ∉ namesOf qs) : stepB s (closedQ s pl qs) q = closedQ s pl (qs ++ [q]) := by
  by_cases hneg : takesQ s q.name < 0
  · rw [stepB_neg hneg]
    simp only [closedQ, List.filterMap_append, List.filterMap_cons, List.filterMap_nil, wrongQ, hneg, if_true, List.append_assoc]
    congr 1
    apply List.ext_getElem?
    intro i
    simp only [List.getElem?_mapIdx]
    cases hp : s[i]? with
    | none => rfl
    | some p =>
      simp only [Option.map_some, Option.some.injEq, giveQ]
      split
      · have : (takesQ s q.name == (i : Int)) = false := by simp; omega
        simp [this]
      · split
        · rename_i h4 hn
          simp only [Bool.and_eq_true] at hn
          have ht := takes_named hs hp hn.1
          rw [find_snoc]
          have hne : q.name ≠ p.name := fun h0 => by rw [h0, ht] at hneg; omega
          rw [if_neg hne]
          cases qs.find? (nameIs p.name) <;> rfl
        · rfl
  · obtain ⟨p, hp, hlt, hk⟩ := takesQ_some hneg
    have hat : takesQ s q.name = ((takesQ s q.name).toNat : Nat) := by omega
    generalize hj : (takesQ s q.name).toNat = j at hp hat
    have hx : (closedQ s pl qs).1[j]? = some (giveQ s pl qs j p) := by simp [closedQ, hp]
    have hother : ∀ (i : Nat) (r : Param), s[i]? = some r → i ≠ j → giveQ s pl (qs ++ [q]) i r = giveQ s pl qs i r := fun i r hr hij => by
      simp only [giveQ]
      split
      · have : (takesQ s q.name == (i : Int)) = false := by rw [hat]; simp; omega
        simp [this]
      · split
        · rename_i h4 hn
          simp only [Bool.and_eq_true] at hn
          have ht := takes_named hs hr hn.1
          rw [find_snoc]
          have hne : q.name ≠ r.name := fun h0 => by rw [h0, ht] at hat; omega
          rw [if_neg hne]
          cases qs.find? (nameIs r.name) <;> rfl
        · rfl
    have hset : ∀ y : Slot, giveQ s pl (qs ++ [q]) j p = y → (closedQ s pl qs).1.set j y = (closedQ s pl (qs ++ [q])).1 := fun y hy => by
      apply List.ext_getElem?
      intro i
      simp only [closedQ, List.getElem?_set, List.getElem?_mapIdx, List.length_mapIdx]
      by_cases hij : j = i
      · subst hij; rw [if_pos rfl, if_pos (lt_of_some hp), hp]; simp [hy]
      · rw [if_neg hij]
        cases hr : s[i]? with
        | none => rfl
        | some r => simp [hother i r hr (fun h => hij h.symm)]
    have hwr : ∀ w : Option Problem, wrongQ s pl q = w → (closedQ s pl (qs ++ [q])).2 = (closedQ s pl qs).2 ++ w.toList := fun w hw => by
      simp only [closedQ, List.filterMap_append, List.append_assoc]
      congr 1
      congr 1
      cases w <;> simp [List.filterMap_cons, hw]
    by_cases h4 : p.kind = 4
    · rw [stepB_map hat hp hx h4]
      have hw : wrongQ s pl q = none := by simp [wrongQ, hneg, hj, hp, h4]
      have h1 := hwr none hw
      refine Prod.ext (hset _ ?_) (by rw [h1]; simp)
      simp [giveQ, h4, hat]
    · have hn : namedQ p = true ∧ p.name = q.name := by
        rcases hk with h | h
        · exact h
        · exact absurd h h4
      have hnf : qs.find? (nameIs p.name) = none := by rw [hn.2]; exact find_none hq
      by_cases hb : byPl pl j p = true
      · have hg : (giveQ s pl qs j p).given = true := by
          unfold byPl at hb
          simp only [giveQ, h4, if_false, hn.1, byPl, hb, Bool.not_true, Bool.and_false, Bool.false_eq_true, place1, if_true]
        rw [stepB_twice hat hp hx h4 hg]
        have hw : wrongQ s pl q = some ⟨2, q.name⟩ := by simp [wrongQ, hneg, hj, hp, h4, hb]
        have h1 := hwr _ hw
        refine Prod.ext ?_ (by rw [h1]; rfl)
        have h2 := hset (giveQ s pl qs j p) (by simp only [giveQ, h4, if_false, hn.1, hb, Bool.not_true, Bool.and_false, Bool.false_eq_true])
        rw [set_same hx] at h2
        exact h2
      · have hb' : byPl pl j p = false := by simpa using hb
        have hg : (giveQ s pl qs j p).given = false := by
          simp only [giveQ, h4, if_false, hn.1, hb', Bool.not_false, Bool.and_self, if_true, hnf, zL]
        rw [stepB_set hat hp hx h4 hg]
        have hw : wrongQ s pl q = none := by simp [wrongQ, hneg, hj, hp, h4, hb']
        have h1 := hwr none hw
        refine Prod.ext (hset _ ?_) (by rw [h1]; simp)
        rw [hn.2] at hnf
        simp only [giveQ, h4, if_false, hn.1, hb', Bool.not_false, Bool.and_self, if_true, find_snoc, hnf, hn.2]

theorem closed_fold {s : Sig} (hs : OkS s) {pl : List Int} : ∀ (rs qs : List Pair), (namesOf (qs ++ rs)).Nodup → rs.foldl (stepB s) (closedQ s pl qs) = closedQ s pl (qs ++ rs)
  | [], qs, _ => by simp
  | r :: rs, qs, h => by
    have hr : r.name ∉ namesOf qs := by
      intro h0
      simp only [namesOf, List.map_append, List.map_cons] at h h0
      exact (List.nodup_append.1 h).2.2 _ h0 _ (List.mem_cons_self ..) rfl
    rw [List.foldl_cons, closed_step hs hr, closed_fold hs rs (qs ++ [r]) (by simpa using h)]
    simp

/-- What a call gives. -/
theorem bound_closed {s : Sig} (hs : OkS s) {f : Flat} (hf : (namesOf f.named).Nodup) : boundQ s f = closedQ s f.places f.named := by
  rw [boundQ, ← closed_nil, closed_fold hs f.named [] (by simpa using hf)]
  simp

structure LenPa (p : Part) : Prop where
  sig : LenS p.sig
  flat : LenF p.flat

def atP (f : Flat) (q : Param) : Bool := q.kind == 1 && f.named.any (nameIs q.name)

def atQ (s : Sig) (f : Flat) : Int := idxI (atP f) s 0

def giveP (f : Flat) (q : Param) : Param := if namedQ q then (match f.named.find? (nameIs q.name) with
  | some r => ⟨q.name, q.kind, true, r.value⟩
  | none => q) else q

def kindP (b : Bool) (q : Param) : Param := if q.kind == 1 && b then ⟨q.name, 3, q.hasD, q.dflt⟩ else q

def skipP (at' : Int) (f : Flat) (i : Nat) (q : Param) : Bool := (placedQ q && decide (i < f.places.length)) || (q.kind == 2 && decide (0 ≤ at'))

def partParam (at' : Int) (f : Flat) (i : Nat) (q : Param) : Option Param :=
  if skipP at' f i q then none else some (giveP f (kindP (decide (0 ≤ at') && decide (at' ≤ i)) q))

def psL (at' : Int) (f : Flat) (s : Sig) : Sig := s.zipIdx.filterMap fun x => partParam at' f x.2 x.1

theorem psL_succ {at' : Int} {f : Flat} {s : Sig} {i : Nat} {q : Param} (hq : s[i]? = some q) : psL at' f (s.take (i + 1)) = psL at' f (s.take i) ++ (partParam at' f i q).toList := by
  have hl : (s.take i).length = i := by have := lt_of_some hq; simp; omega
  unfold psL
  rw [← take_snoc hq, List.zipIdx_append, List.filterMap_append, hl]
  simp [List.filterMap_cons]
  cases partParam at' f i q <;> rfl

theorem psL_len (at' : Int) (f : Flat) (s : Sig) : (psL at' f s).length ≤ s.length := by
  unfold psL
  have := List.length_filterMap_le (fun x : Param × Nat => partParam at' f x.2 x.1) s.zipIdx
  simpa using this

theorem partParam_name {at' : Int} {f : Flat} {i : Nat} {q r : Param} (h : partParam at' f i q = some r) : r.name = q.name := by
  unfold partParam at h
  split at h
  · cases h
  · simp only [Option.some.injEq] at h
    rw [← h]
    unfold giveP kindP
    split <;> split <;> (try split) <;> rfl

theorem psL_names {at' : Int} {f : Flat} {s : Sig} (hs : ∀ p ∈ s, p.name.length ≤ 9223372036854775807) : ∀ p ∈ psL at' f s, p.name.length ≤ 9223372036854775807 := by
  intro p hp
  unfold psL at hp
  rw [List.mem_filterMap] at hp
  obtain ⟨⟨q, i⟩, hq, hr⟩ := hp
  rw [partParam_name hr]
  exact hs q (List.fst_mem_of_mem_zipIdx hq)

theorem pair_at {f : Flat} {n : Str} (h : 0 ≤ pairIx f.named n) : ∃ r, f.named.find? (nameIs n) = some r ∧ f.named[(pairIx f.named n).toNat]? = some r ∧ pairIx f.named n < f.named.length := by
  obtain ⟨r, h1, h2, _, h3⟩ := idxI_find h
  exact ⟨r, h1, h2, h3⟩

theorem pair_none {f : Flat} {n : Str} (h : ¬ 0 ≤ pairIx f.named n) : f.named.find? (nameIs n) = none := idxI_none' h

theorem pair_any {f : Flat} {n : Str} : f.named.any (nameIs n) = decide (0 ≤ pairIx f.named n) := by
  have := idxI_ge (pred := nameIs n) (xs := f.named) (i := 0)
  cases h : f.named.any (nameIs n) with
  | true => simp [pairIx, this.2 h]
  | false =>
    have h0 : ¬ 0 ≤ idxI (nameIs n) f.named 0 := fun h1 => by rw [this.1 h1] at h; cases h
    simp [pairIx, h0]

theorem snamedAt_ct (p : Part) (hp : LenPa p) : ACalls pk 237 [.agg (ePa p)] [] (fun r o => r = .one (.int .i64 (atQ p.sig p.flat)) ∧ o = []) := by
  obtain ⟨s1, s2⟩ := hp.sig
  have f2 := hp.flat.named
  obtain ⟨s, f⟩ := p
  simp only at s1 f2
  refine acalls_of_body Tryz.func237 rfl (by kernel_rfl) rfl ?_
  refine rn rfl ?_
  refine goal_loop_keep (fun m σ => ∃ (q : Int) (i : Nat), q = i ∧ i ≤ s.length ∧ m = s.length - i ∧ atQ s f = idxI (atP f) (s.drop i) i ∧
      σ = ⟨[(3, .one (.int .i64 q)), (1, .one (.op 0 0 0))], [some ⟨3, [ePa ⟨s, f⟩], false, false, true⟩], []⟩) s.length [3, 1] [0] rfl ⟨_, 0, rfl, by omega, by omega, by simp [atQ], rfl⟩ ?_
  rintro m σ ⟨q, i, rfl, hi, rfl, hidx, rfl⟩
  refine rn rfl ?_
  refine goal_cond rfl (fun h => ?_) (fun h => ?_) <;> (try simp only [gt_iff_lt, ge_iff_le, bne_iff_ne, ne_eq, bne_eq_false_iff_eq, beq_iff_eq, beq_eq_false_iff_ne, Bool.not_eq_true', Bool.not_eq_false', decide_eq_true_eq, decide_eq_false_iff_not, List.length_map] at h)
  · obtain ⟨x, hx⟩ := at_some (xs := s) (i := i) (by omega)
    refine rn rfl ?_
    refine goal_draw' [0] 22 rfl ?_
    refine drn [0, 1, 2, 3] (by kernel_rfl) (by kernel_rfl) rfl rfl ?_
    refine AH_did 4 rfl (by kernel_rfl) (by kernel_rfl) (by kernel_rfl) rfl rfl (dA_index (eQ x) rfl rfl rfl rfl rfl rfl rfl (by omega) (by (try simp); omega) (map_at (by simpa using hx)) rfl) ?_
    refine drn [5, 6, 7, 8] (by kernel_rfl) (by kernel_rfl) rfl rfl ?_
    refine AH_guard (i := 9) rfl rfl rfl (fun h1 => ?_) (fun h1 => ?_) <;> (try simp only [gt_iff_lt, ge_iff_le, bne_iff_ne, ne_eq, bne_eq_false_iff_eq, beq_iff_eq, beq_eq_false_iff_ne, Bool.not_eq_true', Bool.not_eq_false', decide_eq_true_eq, decide_eq_false_iff_not, List.length_map] at h1)
    · refine drn [9, 10, 11, 12, 13, 14, 15] (by kernel_rfl) (by kernel_rfl) rfl rfl ?_
      refine AH_did 16 rfl (by kernel_rfl) (by kernel_rfl) (by kernel_rfl) rfl rfl (dA_index (eQ x) rfl rfl rfl rfl rfl rfl rfl (by omega) (by (try simp); omega) (map_at (by simpa using hx)) rfl) ?_
      refine drn [17, 18] (by kernel_rfl) (by kernel_rfl) rfl rfl ?_
      refine AH_one (i := 19) (by kernel_rfl) (step_call [] rfl rfl rfl rfl rfl rfl (spairAt_ct f.named x.name (by omega))) (by simp) ?_
      rintro σ2 ⟨r, o', ⟨rfl, rfl⟩, hσ⟩
      obtain rfl := Option.some.inj hσ
      clear hσ
      refine drn [20, 21] (by kernel_rfl) (by kernel_rfl) rfl rfl ?_
      refine AH_end (by kernel_rfl) ?_
      refine rn rfl ?_
      refine goal_cond rfl (fun h2 => ?_) (fun h2 => ?_) <;> simp only [decide_eq_true_eq, decide_eq_false_iff_not] at h2
      · refine rn rfl (round_ret (fin_is [] rfl ⟨?_, rfl⟩))
        have ha : atP f x = true := by simp [atP, h1, pair_any, h2]
        rw [hidx, drop_at hx]; simp [idxI, ha]
      · refine rn rfl ?_
        have ha : atP f x = false := by simp [atP, h1, pair_any, h2]
        refine round_keep (s.length - (i + 1)) [3, 1] [0] (by omega) rfl ⟨_, i + 1, wrap64 (by omega) (by omega), by omega, rfl, ?_, rfl⟩
        rw [hidx, drop_at hx]; simp [idxI, ha]
    · refine drn [9, 10, 11, 12, 13, 14, 15, 16, 17, 18, 19, 20, 21] (by kernel_rfl) (by kernel_rfl) rfl rfl ?_
      refine AH_end (by kernel_rfl) ?_
      refine rn rfl ?_
      refine rn rfl ?_
      have ha : atP f x = false := by simp [atP, h1]
      refine round_keep (s.length - (i + 1)) [3, 1] [0] (by omega) rfl ⟨_, i + 1, wrap64 (by omega) (by omega), by omega, rfl, ?_, rfl⟩
      rw [hidx, drop_at hx]; simp [idxI, ha]
  · refine rn rfl (round_ext ?_)
    refine rn rfl (fin_is [] rfl ⟨?_, rfl⟩)
    rw [hidx, List.drop_eq_nil_of_le (by omega)]; rfl

theorem placed_not2 {x : Param} (h : placedQ x = true) : (x.kind == 2) = false := by
  rw [placed_kind] at h; simp; omega

theorem partialParams_ct (s : Sig) (f : Flat) (hp : LenPa ⟨s, f⟩) (hl : s.length ≤ 1000) : ACalls pk 215 [.agg (ePa ⟨s, f⟩)] [] (fun r o => r = .one (.fs ((psL (atQ s f) f s).map eQ)) ∧ o = []) := by
  obtain ⟨s1, s2⟩ := hp.sig
  have f1 := hp.flat.places
  have f2 := hp.flat.named
  have hat : ACalls pk 237 [.agg (ePa ⟨s, f⟩)] [] (fun r o => r = .one (.int .i64 (atQ s f)) ∧ o = []) := snamedAt_ct ⟨s, f⟩ hp
  simp only at s1 f1 f2 s2
  refine acalls_of_body Tryz.func215 rfl (by kernel_rfl) rfl ?_
  refine rn rfl ?_
  refine goal_step (step_call [] rfl rfl rfl rfl rfl rfl (hat)) ?_
  rintro σ2 ⟨r, o', ⟨rfl, rfl⟩, hσ⟩
  obtain rfl := Option.some.inj hσ
  clear hσ
  refine rn rfl ?_
  generalize atQ s f = A
  refine rn rfl ?_
  refine goal_loop_keep (fun m σ => ∃ (q : Int) (i l : Nat) (acc : List Param), q = i ∧ i ≤ s.length ∧ m = s.length - i ∧ l = acc.length ∧ acc = psL A f (s.take i) ∧
      σ = ⟨[(5, .one (.int .i64 q)), (4, .one (.int .i64 A)), (3, .one (.os 1 0 l l)), (1, .one (.op 0 0 0))], [some ⟨3, [ePa ⟨s, f⟩], false, false, true⟩, ownQ acc], []⟩) s.length [5, 4, 3, 1] [0, 1] rfl
    ⟨_, 0, 0, [], rfl, by omega, by omega, rfl, rfl, rfl⟩ ?_
  rintro m σ ⟨q, i, l, acc, rfl, hi, rfl, rfl, hacc, rfl⟩
  have hal := psL_len A f (s.take i)
  rw [← hacc, List.length_take] at hal
  refine rn rfl ?_
  refine goal_cond rfl (fun h => ?_) (fun h => ?_) <;> (try simp only [gt_iff_lt, ge_iff_le, bne_iff_ne, ne_eq, bne_eq_false_iff_eq, beq_iff_eq, beq_eq_false_iff_ne, Bool.not_eq_true', Bool.not_eq_false', decide_eq_true_eq, decide_eq_false_iff_not, List.length_map] at h)
  · obtain ⟨x, hx⟩ := at_some (xs := s) (i := i) (by omega)
    have hst := psL_succ (at' := A) (f := f) hx
    rw [← hacc] at hst
    have hskip : skipP A f i x = true → psL A f (s.take (i + 1)) = acc := fun h0 => by rw [hst]; simp [partParam, h0]
    refine rn rfl ?_
    refine goal_did rfl rfl (dA_index (eQ x) rfl rfl rfl rfl rfl rfl rfl (by omega) (by (try simp); omega) (map_at (by simpa using hx)) rfl) ?_
    refine rt 7 rfl ?_
    refine goal_cutR (fun σ' => skipP A f i x = false ∧ σ' = ⟨[(6, .one (.op 2 0 0)), (5, .one (.int .i64 i)), (4, .one (.int .i64 A)), (3, .one (.os 1 0 acc.length acc.length)), (1, .one (.op 0 0 0))],
        [some ⟨3, [ePa ⟨s, f⟩], false, false, true⟩, ownQ acc, some ⟨4, [eQ x], false, false, true⟩], []⟩) ?_ ?_
    · refine rn rfl ?_
      refine goal_step (step_call [] rfl rfl rfl rfl rfl rfl (splaced_ct x)) ?_
      rintro σ2 ⟨r, o', ⟨rfl, rfl⟩, hσ⟩
      obtain rfl := Option.some.inj hσ
      clear hσ
      refine rn rfl ?_
      refine goal_guard rfl rfl rfl (fun h1 => ?_) (fun h1 => ?_) <;> (try simp only [gt_iff_lt, ge_iff_le, bne_iff_ne, ne_eq, bne_eq_false_iff_eq, beq_iff_eq, beq_eq_false_iff_ne, Bool.not_eq_true', Bool.not_eq_false', decide_eq_true_eq, decide_eq_false_iff_not, List.length_map] at h1)
      · refine rn rfl ?_
        refine goal_guard rfl rfl rfl (fun h2 => ?_) (fun h2 => ?_) <;> (try simp only [gt_iff_lt, ge_iff_le, bne_iff_ne, ne_eq, bne_eq_false_iff_eq, beq_iff_eq, beq_eq_false_iff_ne, Bool.not_eq_true', Bool.not_eq_false', decide_eq_true_eq, decide_eq_false_iff_not, List.length_map] at h2)
        · refine rn rfl ?_
          refine cut_ext ?_
          refine rn rfl ?_
          refine round_keep (s.length - (i + 1)) [5, 4, 3, 1] [0, 1] (by omega) rfl ⟨_, i + 1, acc.length, acc, wrap64 (by omega) (by omega), by omega, rfl, rfl, (hskip (by simp [skipP, h1]; left; omega)).symm, rfl⟩
        · have h3 := placed_not2 h1
          refine rn rfl ?_
          refine goal_guard rfl rfl rfl (fun h4 => by rw [h3] at h4; cases h4) (fun h4 => ?_)
          refine rn rfl ?_
          exact cut_nrm [6, 5, 4, 3, 1] [0, 1, 2] rfl ⟨by simp [skipP, h1, h3]; omega, rfl⟩
      · refine rn rfl ?_
        refine goal_guard rfl rfl rfl (fun h3 => ?_) (fun h3 => ?_) <;> (try simp only [gt_iff_lt, ge_iff_le, bne_iff_ne, ne_eq, bne_eq_false_iff_eq, beq_iff_eq, beq_eq_false_iff_ne, Bool.not_eq_true', Bool.not_eq_false', decide_eq_true_eq, decide_eq_false_iff_not, List.length_map] at h3)
        · refine rn rfl ?_
          refine goal_cond rfl (fun h4 => ?_) (fun h4 => ?_) <;> (try simp only [gt_iff_lt, ge_iff_le, bne_iff_ne, ne_eq, bne_eq_false_iff_eq, beq_iff_eq, beq_eq_false_iff_ne, Bool.not_eq_true', Bool.not_eq_false', decide_eq_true_eq, decide_eq_false_iff_not, List.length_map] at h4)
          · refine rn rfl ?_
            refine cut_ext ?_
            refine rn rfl ?_
            refine round_keep (s.length - (i + 1)) [5, 4, 3, 1] [0, 1] (by omega) rfl ⟨_, i + 1, acc.length, acc, wrap64 (by omega) (by omega), by omega, rfl, rfl, (hskip (by simp [skipP, h3]; right; omega)).symm, rfl⟩
          · refine rn rfl ?_
            exact cut_nrm [6, 5, 4, 3, 1] [0, 1, 2] rfl ⟨by simp [skipP, h1, h3]; omega, rfl⟩
        · refine rn rfl ?_
          exact cut_nrm [6, 5, 4, 3, 1] [0, 1, 2] rfl ⟨by simp [skipP, h1, h3], rfl⟩
    rintro _ ⟨hns, rfl⟩
    refine rt 8 rfl ?_
    refine goal_cutR (fun σ' => σ' = ⟨[(6, .one (.op 2 0 0)), (5, .one (.int .i64 i)), (4, .one (.int .i64 A)), (3, .one (.os 1 0 acc.length acc.length)), (1, .one (.op 0 0 0))],
        [some ⟨3, [ePa ⟨s, f⟩], false, false, true⟩, ownQ acc, some ⟨4, [eQ (kindP (decide (0 ≤ A) && decide (A ≤ i)) x)], false, false, true⟩], []⟩) ?_ ?_
    · have keep : (x.kind == 1 && (decide (0 ≤ A) && decide (A ≤ i))) = false → kindP (decide (0 ≤ A) && decide (A ≤ i)) x = x := fun h0 => by unfold kindP; rw [h0]; rfl
      refine rn rfl ?_
      refine goal_guard rfl rfl rfl (fun h1 => ?_) (fun h1 => ?_) <;> (try simp only [gt_iff_lt, ge_iff_le, bne_iff_ne, ne_eq, bne_eq_false_iff_eq, beq_iff_eq, beq_eq_false_iff_ne, Bool.not_eq_true', Bool.not_eq_false', decide_eq_true_eq, decide_eq_false_iff_not, List.length_map] at h1)
      · refine rn rfl ?_
        refine goal_guard rfl rfl rfl (fun h2 => ?_) (fun h2 => ?_) <;> (try simp only [gt_iff_lt, ge_iff_le, bne_iff_ne, ne_eq, bne_eq_false_iff_eq, beq_iff_eq, beq_eq_false_iff_ne, Bool.not_eq_true', Bool.not_eq_false', decide_eq_true_eq, decide_eq_false_iff_not, List.length_map] at h2)
        · refine rn rfl ?_
          refine goal_cond rfl (fun h3 => ?_) (fun h3 => ?_) <;> (try simp only [gt_iff_lt, ge_iff_le, bne_iff_ne, ne_eq, bne_eq_false_iff_eq, beq_iff_eq, beq_eq_false_iff_ne, Bool.not_eq_true', Bool.not_eq_false', decide_eq_true_eq, decide_eq_false_iff_not, List.length_map] at h3)
          · have hk : kindP (decide (0 ≤ A) && decide (A ≤ i)) x = ⟨x.name, 3, x.hasD, x.dflt⟩ := by unfold kindP; rw [if_pos]; simp [h1]; omega
            rw [hk]
            refine rn rfl ?_
            exact cut_nrm [6, 5, 4, 3, 1] [0, 1, 2] rfl rfl
          · rw [keep (by simp; intros; omega)]
            refine rn rfl ?_
            exact cut_nrm [6, 5, 4, 3, 1] [0, 1, 2] rfl rfl
        · rw [keep (by simp; intros; omega)]
          refine rn rfl ?_
          exact cut_nrm [6, 5, 4, 3, 1] [0, 1, 2] rfl rfl
      · rw [keep (by simp [h1])]
        refine rn rfl ?_
        exact cut_nrm [6, 5, 4, 3, 1] [0, 1, 2] rfl rfl
    rintro _ rfl
    have hpp : partParam A f i x = some (giveP f (kindP (decide (0 ≤ A) && decide (A ≤ i)) x)) := by simp [partParam, hns]
    rw [hpp] at hst
    generalize kindP (decide (0 ≤ A) && decide (A ≤ i)) x = y at hst ⊢
    refine rn rfl ?_
    refine goal_step (step_call [] rfl rfl rfl rfl rfl rfl (spairAt_ct f.named y.name (by omega))) ?_
    rintro σ2 ⟨r, o', ⟨rfl, rfl⟩, hσ⟩
    obtain rfl := Option.some.inj hσ
    clear hσ
    refine rt 11 rfl ?_
    refine goal_cutR (fun σ' => σ' = ⟨[(6, .one (.op 2 0 0)), (5, .one (.int .i64 i)), (4, .one (.int .i64 A)), (3, .one (.os 1 0 acc.length acc.length)), (1, .one (.op 0 0 0))],
        [some ⟨3, [ePa ⟨s, f⟩], false, false, true⟩, ownQ acc, some ⟨4, [eQ (giveP f y)], false, false, true⟩], []⟩) ?_ ?_
    · refine rn rfl ?_
      refine goal_guard rfl rfl rfl (fun h1 => ?_) (fun h1 => ?_) <;> (try simp only [gt_iff_lt, ge_iff_le, bne_iff_ne, ne_eq, bne_eq_false_iff_eq, beq_iff_eq, beq_eq_false_iff_ne, Bool.not_eq_true', Bool.not_eq_false', decide_eq_true_eq, decide_eq_false_iff_not, List.length_map] at h1)
      · obtain ⟨r, hr1, hr2, hr3⟩ := pair_at h1
        refine rn rfl ?_
        refine goal_step (step_call [] rfl rfl rfl rfl rfl rfl (snamed_ct y)) ?_
        rintro σ2 ⟨r, o', ⟨rfl, rfl⟩, hσ⟩
        obtain rfl := Option.some.inj hσ
        clear hσ
        refine rn rfl ?_
        refine goal_cond rfl (fun h2 => ?_) (fun h2 => ?_) <;> (try simp only [gt_iff_lt, ge_iff_le, bne_iff_ne, ne_eq, bne_eq_false_iff_eq, beq_iff_eq, beq_eq_false_iff_ne, Bool.not_eq_true', Bool.not_eq_false', decide_eq_true_eq, decide_eq_false_iff_not, List.length_map] at h2)
        · have hg : giveP f y = ⟨y.name, y.kind, true, r.value⟩ := by unfold giveP; rw [if_pos h2, hr1]
          rw [hg]
          refine rn rfl ?_
          refine goal_did rfl rfl (dA_index (eP r) rfl rfl rfl rfl rfl rfl rfl (by omega) (by (try simp); omega) (map_at (by simpa using hr2)) rfl) ?_
          refine rn rfl ?_
          exact cut_nrm [6, 5, 4, 3, 1] [0, 1, 2] rfl rfl
        · have hg : giveP f y = y := by unfold giveP; rw [if_neg (by simp [h2])]
          rw [hg]
          refine rn rfl ?_
          exact cut_nrm [6, 5, 4, 3, 1] [0, 1, 2] rfl rfl
      · have hg : giveP f y = y := by unfold giveP; rw [pair_none (by omega)]; split <;> rfl
        rw [hg]
        refine rn rfl ?_
        exact cut_nrm [6, 5, 4, 3, 1] [0, 1, 2] rfl rfl
    rintro _ rfl
    generalize giveP f y = z at hst ⊢
    refine rn rfl ?_
    refine goal_did rfl rfl (dA_append (old := (acc).map eQ) (rows := ([z] : List Param).map eQ) (((acc) ++ ([z] : List Param)).map eQ) (acc.length + 1) true (Dst.own rfl rfl rfl rfl rfl (by first | (simp; done) | (simp; omega)) (whole (by first | (simp; done) | (simp; omega)))) (Src.os rfl rfl (Nat.le_refl 1) rfl) rfl rfl rfl rfl rfl rfl rfl rfl (rows_len eQ_len _) (rows_len eQ_len _) (by (try simp only [List.length_map, List.length_append, List.length_cons, List.length_nil, List.length_take, List.length_drop]); show _ * 40 ≤ _; omega) (by first | (simp; done) | (simp; omega)) (by simp) (by first | (simp; done) | (simp; omega)) (fun _ => noOwnR_map _ eQ_noOwn _)) ?_
    refine rn rfl ?_
    refine round_keep (s.length - (i + 1)) [5, 4, 3, 1] [0, 4] (by omega) rfl ⟨_, i + 1, acc.length + 1, acc ++ [z], wrap64 (by omega) (by omega), by omega, rfl, by simp, by rw [hst]; rfl, rfl⟩
  · refine rn rfl (round_ext ?_)
    refine rn rfl (fin_is [] rfl ⟨?_, rfl⟩)
    rw [takeAll eQ _ _ rfl, hacc, show i = s.length by omega, List.take_length]

theorem idxI_le {α : Type} {pred : α → Bool} : ∀ {xs : List α} {k i : Nat} {x : α}, xs[i]? = some x → pred x = true → 0 ≤ idxI pred xs k ∧ idxI pred xs k ≤ ((k + i : Nat) : Int)
  | y :: xs, k, 0, x, hx, hp => by
    simp at hx; subst hx
    simp [idxI, hp]
  | y :: xs, k, i + 1, x, hx, hp => by
    simp only [List.getElem?_cons_succ] at hx
    have := idxI_le (k := k + 1) hx hp
    unfold idxI
    split
    · omega
    · omega

theorem part_np {s : Sig} {f : Flat} (h : partQ s f = true) {i : Nat} {x : Param} (hx : s[i]? = some x) (hp : placedQ x = true) (hi : i < f.places.length) (hn : namedQ x = true) : f.named.any (nameIs x.name) = false := by
  simp only [partQ, Bool.and_eq_true, decide_eq_true_eq] at h
  obtain ⟨h1, h2⟩ := h
  obtain ⟨hs, hf⟩ := fitQ_iff.1 h1
  have hnd : (namesOf f.named).Nodup := by
    have := okFlat_iff.2 hf
    simp [okFlat] at this; exact this.1.1.1.2
  rw [bound_closed hs hnd] at h2
  simp only [closedQ, List.append_eq_nil_iff, List.filterMap_eq_nil_iff] at h2
  cases ha : f.named.any (nameIs x.name) with
  | false => rfl
  | true =>
    rw [List.any_eq_true] at ha
    obtain ⟨q, hq, hqn⟩ := ha
    simp only [nameIs, beq_iff_eq] at hqn
    have hw := h2.2 q hq
    have ht := takes_named hs hx hn
    rw [← hqn] at ht
    have hk := placed_kind.1 hp
    have hb : byPl f.places i x = true := by simp [byPl, hp, hi]
    unfold wrongQ at hw
    rw [ht] at hw
    simp only [Int.toNat_natCast, hx] at hw
    rw [if_neg (by omega), if_neg (by omega), if_pos hb] at hw
    cases hw

theorem np_at {s : Sig} {f : Flat} (h : partQ s f = true) {i : Nat} {x : Param} (hx : s[i]? = some x) (hp : placedQ x = true) (hi : i < f.places.length) : atP f x = false := by
  unfold atP
  cases hk : x.kind == 1 with
  | false => rfl
  | true =>
    rw [part_np h hx hp hi (by simp at hk; simp [namedQ, hk])]; rfl

def psQ (s : Sig) (f : Flat) : Sig := psL (atQ s f) f s

def PsF (s : Sig) (f : Flat) : Sig × Bool := if partQ s f && okSig (psQ s f) then (psQ s f, true) else ([], false)

theorem spartialSig_ct (s : Sig) (f : Flat) (hp : LenPa ⟨s, f⟩) : ACalls pk 170 [.agg (ePa ⟨s, f⟩)] [] (fun r o => r = .tup [.agg (eG (PsF s f).1), .one (.bool (PsF s f).2)] ∧ o = []) := by
  obtain ⟨s1, s2⟩ := hp.sig
  have hv : ACalls pk 60 [.agg (ePa ⟨s, f⟩)] [] (fun r o => r = .one (.bool (partQ s f)) ∧ o = []) := svalidPartial_ct s f hp.sig hp.flat
  simp only at s1 s2
  refine acalls_of_body Tryz.func170 rfl (by kernel_rfl) rfl ?_
  refine rn rfl ?_
  refine goal_step (step_call [] rfl rfl rfl rfl rfl rfl (hv)) ?_
  rintro σ2 ⟨r, o', ⟨rfl, rfl⟩, hσ⟩
  obtain rfl := Option.some.inj hσ
  clear hσ
  refine rn rfl ?_
  refine goal_cond rfl (fun h => ?_) (fun h => ?_) <;> (try simp only [gt_iff_lt, ge_iff_le, bne_iff_ne, ne_eq, bne_eq_false_iff_eq, beq_iff_eq, beq_eq_false_iff_ne, Bool.not_eq_true', Bool.not_eq_false', decide_eq_true_eq, decide_eq_false_iff_not, List.length_map] at h)
  · refine rn rfl (fin_is [] rfl ⟨?_, rfl⟩)
    simp [PsF, h]; rfl
  have hq := h
  simp only [partQ, Bool.and_eq_true, decide_eq_true_eq] at hq
  obtain ⟨hs, hf⟩ := fitQ_iff.1 hq.1
  have hlen := hs.len
  have hl := psL_len (atQ s f) f s
  refine rn rfl ?_
  refine goal_step (step_call [] rfl rfl rfl rfl rfl rfl (partialParams_ct s f hp (by omega))) ?_
  rintro σ2 ⟨r, o', ⟨rfl, rfl⟩, hσ⟩
  obtain rfl := Option.some.inj hσ
  clear hσ
  refine rn rfl ?_
  refine goal_step (step_call [] rfl rfl rfl rfl rfl rfl (checkedSig_ct (psQ s f) (by show (psL _ _ _).length ≤ _; omega) (psL_names s2))) ?_
  rintro σ2 ⟨r, o', ⟨rfl, rfl⟩, hσ⟩
  obtain rfl := Option.some.inj hσ
  clear hσ
  refine rn rfl ?_
  refine rn rfl (fin_is [] rfl ⟨?_, rfl⟩)
  have e : PsF s f = checkG (psQ s f) := by unfold PsF checkG; simp [h]
  rw [e]; rfl

theorem partFlat_ct (bs : Str) (k : Int) (s : Sig) (hs : SmallS s) (hb : bs.length ≤ 2000) (hk : 0 ≤ k) (hk' : k ≤ 1073600000) :
    ACalls pk 213 [.one (.op 0 0 0), .agg (eG s)] [oR bs k] (fun r o => ∃ f k', MidF f 24 8 ∧ k ≤ k' ∧ k' ≤ k + 210 ∧ r = .agg (eF f) ∧ o = [oR bs k']) := by
  have hsl := hs.len
  have hsn : ∀ p ∈ s, p.name.length ≤ 9223372036854775807 := fun p hp => by have := hs.names p hp; omega
  refine acalls_of_body Tryz.func213 rfl (by kernel_rfl) rfl ?_
  refine rt 2 rfl ?_
  refine goal_cutR (fun σ' => ∃ (f : Flat) (k1 : Int), MidF f 24 8 ∧ k ≤ k1 ∧ k1 ≤ k + 200 ∧ σ' = ⟨[(5, .one (.op 3 0 0)), (4, .one (.op 2 0 0)), (0, .one (.op 0 0 0))], [oR bs k1, some ⟨1, [eG s], false, false, true⟩, some ⟨2, [[.fs [], .fs []]], false, false, true⟩, some ⟨2, [eF f], false, false, true⟩], []⟩) ?_ ?_
  · refine rn rfl ?_
    refine goal_step (step_call [] rfl rfl rfl rfl rfl rfl (svalidSig_ct s (by omega) hsn)) ?_
    rintro σ2 ⟨r, o', ⟨rfl, rfl⟩, hσ⟩
    obtain rfl := Option.some.inj hσ
    clear hσ
    refine rn rfl ?_
    refine goal_cond rfl (fun h1 => ?_) (fun h1 => ?_) <;> (try simp only [gt_iff_lt, ge_iff_le, bne_iff_ne, ne_eq, bne_eq_false_iff_eq, beq_iff_eq, beq_eq_false_iff_ne, Bool.not_eq_true', Bool.not_eq_false', decide_eq_true_eq, decide_eq_false_iff_not, List.length_map] at h1)
    · refine rn rfl ?_
      refine goal_step (step_callE [0] rfl rfl rfl rfl rfl rfl rfl (callFor_ct bs k s (okSig_iff.1 h1) hb hk (by omega))) ?_
      rintro σ2 ⟨r, o', ⟨f, k1, hf, hk1, hk2, rfl, rfl⟩, hσ⟩
      obtain rfl := Option.some.inj hσ
      clear hσ
      refine rn rfl ?_
      exact cut_nrm [5, 4, 0] [1, 2, 3] rfl ⟨f, k1, hf, hk1, hk2, rfl⟩
    · refine rn rfl ?_
      exact cut_nrm [5, 4, 0] [1, 2, 3] rfl ⟨zF, k, ⟨by simp [zF], by simp [zF], by simp [zF]⟩, by omega, by omega, rfl⟩
  rintro _ ⟨f, k1, hf, hk1, hk2, rfl⟩
  have hf1 := hf.places
  have hf2 := hf.named
  refine rt 4 rfl ?_
  refine goal_cutR (fun σ' => ∃ (g : Flat) (k2 : Int), MidF g 24 8 ∧ k1 ≤ k2 ∧ k2 ≤ k1 + 2 ∧ σ' = ⟨[(5, .one (.op 3 0 0)), (4, .one (.op 2 0 0)), (0, .one (.op 0 0 0))], [oR bs k2, some ⟨1, [eG s], false, false, true⟩, some ⟨2, [[.fs [], .fs []]], false, false, true⟩, some ⟨2, [eF g], false, false, true⟩], []⟩) ?_ ?_
  · refine rn rfl ?_
    refine goal_guard rfl rfl rfl (fun h1 => ?_) (fun h1 => ?_) <;> (try simp only [gt_iff_lt, ge_iff_le, bne_iff_ne, ne_eq, bne_eq_false_iff_eq, beq_iff_eq, beq_eq_false_iff_ne, Bool.not_eq_true', Bool.not_eq_false', decide_eq_true_eq, decide_eq_false_iff_not, List.length_map] at h1)
    · refine rn rfl ?_
      refine goal_step (step_callE [0] rfl rfl rfl rfl rfl rfl (rfl) (pick_ct bs k1 2 hb (by omega) (by omega) (by omega))) ?_
      rintro σ2 ⟨r, o', ⟨⟨z, rfl, _, _⟩, rfl⟩, hσ⟩
      obtain rfl := Option.some.inj hσ
      clear hσ
      refine rn rfl ?_
      refine goal_cond rfl (fun h2 => ?_) (fun h2 => ?_) <;> (try simp only [gt_iff_lt, ge_iff_le, bne_iff_ne, ne_eq, bne_eq_false_iff_eq, beq_iff_eq, beq_eq_false_iff_ne, Bool.not_eq_true', Bool.not_eq_false', decide_eq_true_eq, decide_eq_false_iff_not, List.length_map] at h2)
      · refine rn rfl ?_
        refine goal_drawL [3] [9] 10 rfl ?_
        refine drnL [0, 1, 2, 3, 4, 5] (by kernel_rfl) (by kernel_rfl) rfl rfl ?_
        refine AHL_one (i := 6) (by kernel_rfl) rfl (step_callE [0] rfl rfl rfl rfl rfl rfl (rfl) (pick_ct bs (k1 + 1) (f.places.map eI).length hb (by omega) (by omega) (by simp; omega))) (by simp) ?_
        rintro σ2 ⟨r, o', ⟨⟨y, rfl, hy, _⟩, rfl⟩, hσ⟩
        obtain rfl := Option.some.inj hσ
        clear hσ
        have hy' := hy (by simp; omega)
        simp only [List.length_map] at hy'
        obtain ⟨j, rfl⟩ : ∃ j : Nat, y = j := ⟨y.toNat, by omega⟩
        refine AHL_did 7 rfl (by kernel_rfl) (by kernel_rfl) (by kernel_rfl) (by kernel_rfl) rfl rfl (dA_slice 0 j ((f.places.take j).map eI) rfl rfl rfl rfl rfl Bnd.none_ (Bnd.some_ rfl rfl) (rows_len eI_len _) (by omega) (by simp; omega) rfl (by simp)) ?_
        refine drnL [8] (by kernel_rfl) (by kernel_rfl) rfl rfl ?_
        refine AHL_lateDid 9 rfl (by kernel_rfl) rfl rfl (dA_step rfl) ?_
        refine AH_end (by kernel_rfl) ?_
        refine rn rfl ?_
        exact cut_nrm [5, 4, 0] [1, 2, 3] rfl ⟨⟨f.places.take j, f.named⟩, k1 + 1 + 1, ⟨by simp; omega, hf2, hf.names⟩, by omega, by omega, rfl⟩
      · refine rn rfl ?_
        exact cut_nrm [5, 4, 0] [1, 2, 3] rfl ⟨f, k1 + 1, hf, by omega, by omega, rfl⟩
    · refine rn rfl ?_
      exact cut_nrm [5, 4, 0] [1, 2, 3] rfl ⟨f, k1, hf, by omega, by omega, rfl⟩
  rintro _ ⟨g, k2, hg, hk3, hk4, rfl⟩
  have hg1 := hg.places
  have hg2 := hg.named
  refine rt 6 rfl ?_
  refine goal_cutR (fun σ' => ∃ (f' : Flat) (k3 : Int), MidF f' 24 8 ∧ k2 ≤ k3 ∧ k3 ≤ k2 + 1 ∧ σ' = ⟨[(5, .one (.op 3 0 0)), (4, .one (.op 2 0 0)), (0, .one (.op 0 0 0))], [oR bs k3, some ⟨1, [eG s], false, false, true⟩, some ⟨2, [[.fs [], .fs []]], false, false, true⟩, some ⟨2, [eF f'], false, false, true⟩], []⟩) ?_ ?_
  · refine rn rfl ?_
    refine goal_guard rfl rfl rfl (fun h1 => ?_) (fun h1 => ?_) <;> (try simp only [gt_iff_lt, ge_iff_le, bne_iff_ne, ne_eq, bne_eq_false_iff_eq, beq_iff_eq, beq_eq_false_iff_ne, Bool.not_eq_true', Bool.not_eq_false', decide_eq_true_eq, decide_eq_false_iff_not, List.length_map] at h1)
    · refine rn rfl ?_
      refine goal_step (step_callE [0] rfl rfl rfl rfl rfl rfl (rfl) (pick_ct bs k2 2 hb (by omega) (by omega) (by omega))) ?_
      rintro σ2 ⟨r, o', ⟨⟨z, rfl, _, _⟩, rfl⟩, hσ⟩
      obtain rfl := Option.some.inj hσ
      clear hσ
      refine rn rfl ?_
      refine goal_cond rfl (fun h2 => ?_) (fun h2 => ?_) <;> (try simp only [gt_iff_lt, ge_iff_le, bne_iff_ne, ne_eq, bne_eq_false_iff_eq, beq_iff_eq, beq_eq_false_iff_ne, Bool.not_eq_true', Bool.not_eq_false', decide_eq_true_eq, decide_eq_false_iff_not, List.length_map] at h2)
      · refine rn rfl ?_
        refine goal_did rfl rfl (dA_slice 1 g.named.length ((g.named.drop 1).map eP) rfl rfl rfl rfl rfl (Bnd.some_ rfl rfl) (by simp [Bnd]) (rows_len eP_len _) (by omega) (by simp) rfl (by simp [List.take_of_length_le])) ?_
        refine rn rfl ?_
        exact cut_nrm [5, 4, 0] [1, 2, 3] rfl ⟨⟨g.places, g.named.drop 1⟩, k2 + 1, ⟨hg1, by simp; omega, fun p hp => hg.names p (List.mem_of_mem_drop hp)⟩, by omega, by omega, rfl⟩
      · refine rn rfl ?_
        exact cut_nrm [5, 4, 0] [1, 2, 3] rfl ⟨g, k2 + 1, hg, by omega, by omega, rfl⟩
    · refine rn rfl ?_
      exact cut_nrm [5, 4, 0] [1, 2, 3] rfl ⟨g, k2, hg, by omega, by omega, rfl⟩
  rintro _ ⟨f', k3, hf', hk5, hk6, rfl⟩
  exact rn rfl (fin_is [] rfl ⟨f', k3, hf', by omega, by omega, rfl, rfl⟩)

theorem somePartial_ct (bs : Str) (k : Int) (hb : bs.length ≤ 2000) (hk : 0 ≤ k) (hk' : k ≤ 1073500000) :
    ACalls pk 169 [.one (.op 0 0 0)] [oR bs k] (fun r o => ∃ p k', SmallS p.sig ∧ MidF p.flat 24 8 ∧ k ≤ k' ∧ k' ≤ k + 400 ∧ r = .agg (ePa p) ∧ o = [oR bs k']) := by
  refine acalls_of_body Tryz.func169 rfl (by kernel_rfl) rfl ?_
  refine rn rfl ?_
  refine goal_step (step_callE [0] rfl rfl rfl rfl rfl rfl rfl (someSignature_ct bs k hb hk (by omega))) ?_
  rintro σ2 ⟨r, o', ⟨s, k1, hs, hk1, hk2, rfl, rfl⟩, hσ⟩
  obtain rfl := Option.some.inj hσ
  clear hσ
  refine rn rfl ?_
  refine goal_step (step_callE [0] rfl rfl rfl rfl rfl rfl (rfl) (pick_ct bs k1 10 hb (by omega) (by omega) (by omega))) ?_
  rintro σ2 ⟨r, o', ⟨⟨z, rfl, _, _⟩, rfl⟩, hσ⟩
  obtain rfl := Option.some.inj hσ
  clear hσ
  refine rn rfl ?_
  refine goal_cond rfl (fun h1 => ?_) (fun h1 => ?_) <;> (try simp only [gt_iff_lt, ge_iff_le, bne_iff_ne, ne_eq, bne_eq_false_iff_eq, beq_iff_eq, beq_eq_false_iff_ne, Bool.not_eq_true', Bool.not_eq_false', decide_eq_true_eq, decide_eq_false_iff_not, List.length_map] at h1)
  · refine rn rfl ?_
    refine goal_draw' [2] 5 rfl ?_
    refine drn [0, 1] (by kernel_rfl) (by kernel_rfl) rfl rfl ?_
    refine AH_one (i := 2) (by kernel_rfl) (step_callE [0] rfl rfl rfl rfl rfl rfl (rfl) (someFlat_ct bs (k1 + 1) hb (by omega) (by omega))) (by simp) ?_
    rintro σ2 ⟨r, o', ⟨f, k2, hf, hk3, hk4, rfl, rfl⟩, hσ⟩
    obtain rfl := Option.some.inj hσ
    clear hσ
    refine drn [3] (by kernel_rfl) (by kernel_rfl) rfl rfl ?_
    refine AH_oneDid 4 rfl (by kernel_rfl) rfl (dA_step rfl) (mdOk rfl) ?_
    refine AH_end (by kernel_rfl) ?_
    refine rn rfl ?_
    exact rn rfl (fin_is [] rfl ⟨⟨s, f⟩, k2, hs, ⟨Nat.le_trans hf.places (by omega), Nat.le_trans hf.named (by omega), hf.names⟩, by omega, by omega, rfl, rfl⟩)
  · refine rn rfl ?_
    refine goal_draw' [2] 6 rfl ?_
    refine drn [0, 1, 2] (by kernel_rfl) (by kernel_rfl) rfl rfl ?_
    refine AH_one (i := 3) (by kernel_rfl) (step_callE [0] rfl rfl rfl rfl rfl rfl (rfl) (partFlat_ct bs (k1 + 1) s hs hb (by omega) (by omega))) (by simp) ?_
    rintro σ2 ⟨r, o', ⟨f, k2, hf, hk3, hk4, rfl, rfl⟩, hσ⟩
    obtain rfl := Option.some.inj hσ
    clear hσ
    refine drn [4] (by kernel_rfl) (by kernel_rfl) rfl rfl ?_
    refine AH_oneDid 5 rfl (by kernel_rfl) rfl (dA_step rfl) (mdOk rfl) ?_
    refine AH_end (by kernel_rfl) ?_
    refine rn rfl ?_
    exact rn rfl (fin_is [] rfl ⟨⟨s, f⟩, k2, hs, hf, by omega, by omega, rfl, rfl⟩)

theorem SmallS.lenS {s : Sig} (h : SmallS s) : LenS s := ⟨by have := h.len; omega, fun p hp => by have := h.names p hp; omega⟩

theorem MidF.lenF {f : Flat} {a b : Nat} (h : MidF f a b) (ha : a ≤ 1000) (hb : b ≤ 1000) : LenF f := ⟨by have := h.places; omega, by have := h.named; omega, fun p hp => by have := h.names p hp; omega⟩

theorem putPairD_ct (ps : List Pair) (p : Pair) (h : ps.length ≤ 1000) : ACalls pk 161 [.one (.fs (ps.map eP)), .agg (eP p)] [] (fun r o => r = .one (.fs ((spPair ps p).map eP)) ∧ o = []) :=
  (putPair_ct ps p h).told [] (by rintro r o ⟨rfl, rfl⟩; exact ⟨_, _, rfl, congrArg (fun x => T.one (C.fs x)) (takeAll eP _ _ rfl), rfl⟩)

theorem partialCall_ct (bs : Str) (k : Int) (hb : bs.length ≤ 2000) (hk : 0 ≤ k) (hk' : k ≤ 1073400000) :
    ACalls pk 100 [.one (.op 0 0 0)] [oR bs k] (fun r o => ∃ p f k', SmallS p.sig ∧ MidF p.flat 24 8 ∧ MidF f 24 9 ∧ k ≤ k' ∧ k' ≤ k + 700 ∧ r = .tup [.agg (ePa p), .agg (eF f)] ∧ o = [oR bs k']) := by
  refine acalls_of_body Tryz.func100 rfl (by kernel_rfl) rfl ?_
  refine rn rfl ?_
  refine goal_step (step_callE [0] rfl rfl rfl rfl rfl rfl rfl (somePartial_ct bs k hb hk (by omega))) ?_
  rintro σ2 ⟨r, o', ⟨p, k1, hs, hpf, hk1, hk2, rfl, rfl⟩, hσ⟩
  obtain rfl := Option.some.inj hσ
  clear hσ
  have lp : LenPa ⟨p.sig, p.flat⟩ := ⟨hs.lenS, hpf.lenF (by omega) (by omega)⟩
  refine rn rfl ?_
  refine goal_step (step_call [] rfl rfl rfl rfl rfl rfl (spartialSig_ct p.sig p.flat lp)) ?_
  rintro σ2 ⟨r, o', ⟨rfl, rfl⟩, hσ⟩
  obtain rfl := Option.some.inj hσ
  clear hσ
  have hT : (PsF p.sig p.flat).2 = true → OkS (PsF p.sig p.flat).1 := fun h => by
    unfold PsF at h ⊢
    split at h
    · rename_i h1
      rw [if_pos h1]
      simp only [Bool.and_eq_true] at h1
      exact okSig_iff.1 h1.2
    · cases h
  generalize (PsF p.sig p.flat).1 = S at hT ⊢
  generalize (PsF p.sig p.flat).2 = ok at hT ⊢
  refine rt 3 rfl ?_
  refine goal_cutR (fun σ' => ∃ k2 : Int, OkS S ∧ k1 ≤ k2 ∧ k2 ≤ k1 + 1 ∧ σ' = ⟨[(5, .one (.op 4 0 0)), (4, .one (.op 3 0 0)), (3, .one (.op 2 0 0)), (2, .one (.op 1 0 0)), (0, .one (.op 0 0 0))],
    [oR bs k2, some ⟨3, [[.fs [], .fs [], .fs []]], false, false, true⟩, some ⟨2, [[.fs [], .fs []]], false, false, true⟩, some ⟨3, [ePa p], false, false, true⟩, some ⟨1, [eG S], false, false, true⟩], []⟩) ?_ ?_
  · refine rn rfl ?_
    refine goal_guard rfl rfl rfl (fun h1 => ?_) (fun h1 => ?_) <;> (try simp only [gt_iff_lt, ge_iff_le, bne_iff_ne, ne_eq, bne_eq_false_iff_eq, beq_iff_eq, beq_eq_false_iff_ne, Bool.not_eq_true', Bool.not_eq_false', decide_eq_true_eq, decide_eq_false_iff_not, List.length_map] at h1)
    · refine rn rfl ?_
      refine goal_draw' [3] 5 rfl ?_
      refine drn [0, 1] (by kernel_rfl) (by kernel_rfl) rfl rfl ?_
      refine AH_one (i := 2) (by kernel_rfl) (step_callE [0] rfl rfl rfl rfl rfl rfl (rfl) (someFlat_ct bs k1 hb (by omega) (by omega))) (by simp) ?_
      rintro σ2 ⟨r, o', ⟨f, k2, hf, hk3, hk4, rfl, rfl⟩, hσ⟩
      obtain rfl := Option.some.inj hσ
      clear hσ
      refine AH_oneDid 3 rfl (by kernel_rfl) rfl (dA_step rfl) (mdOk rfl) ?_
      refine AH_oneDid 4 rfl (by kernel_rfl) rfl (dA_step rfl) (mdOk rfl) ?_
      refine AH_end (by kernel_rfl) ?_
      refine rn rfl ?_
      refine cut_ret ?_
      exact fin_is [] rfl ⟨p, f, k2, hs, hpf, ⟨Nat.le_trans hf.places (by omega), Nat.le_trans hf.named (by omega), hf.names⟩, by omega, by omega, rfl, rfl⟩
    · refine rn rfl ?_
      refine goal_step (step_callE [0] rfl rfl rfl rfl rfl rfl (rfl) (pick_ct bs k1 6 hb (by omega) (by omega) (by omega))) ?_
      rintro σ2 ⟨r, o', ⟨⟨z, rfl, _, _⟩, rfl⟩, hσ⟩
      obtain rfl := Option.some.inj hσ
      clear hσ
      refine rn rfl ?_
      refine goal_cond rfl (fun h2 => ?_) (fun h2 => ?_) <;> (try simp only [gt_iff_lt, ge_iff_le, bne_iff_ne, ne_eq, bne_eq_false_iff_eq, beq_iff_eq, beq_eq_false_iff_ne, Bool.not_eq_true', Bool.not_eq_false', decide_eq_true_eq, decide_eq_false_iff_not, List.length_map] at h2)
      · refine rn rfl ?_
        refine goal_draw' [3] 5 rfl ?_
        refine drn [0, 1] (by kernel_rfl) (by kernel_rfl) rfl rfl ?_
        refine AH_one (i := 2) (by kernel_rfl) (step_callE [0] rfl rfl rfl rfl rfl rfl (rfl) (someFlat_ct bs (k1 + 1) hb (by omega) (by omega))) (by simp) ?_
        rintro σ2 ⟨r, o', ⟨f, k2, hf, hk3, hk4, rfl, rfl⟩, hσ⟩
        obtain rfl := Option.some.inj hσ
        clear hσ
        refine AH_oneDid 3 rfl (by kernel_rfl) rfl (dA_step rfl) (mdOk rfl) ?_
        refine AH_oneDid 4 rfl (by kernel_rfl) rfl (dA_step rfl) (mdOk rfl) ?_
        refine AH_end (by kernel_rfl) ?_
        refine rn rfl ?_
        refine cut_ret ?_
        exact fin_is [] rfl ⟨p, f, k2, hs, hpf, ⟨Nat.le_trans hf.places (by omega), Nat.le_trans hf.named (by omega), hf.names⟩, by omega, by omega, rfl, rfl⟩
      · refine rn rfl ?_
        exact cut_nrm [5, 4, 3, 2, 0] [1, 2, 3, 4] rfl ⟨k1 + 1, hT (by simpa using h1), by omega, by omega, rfl⟩
  rintro _ ⟨k2, hS, hk3, hk4, rfl⟩
  refine rn rfl ?_
  refine goal_step (step_callE [0] rfl rfl rfl rfl rfl rfl rfl (callFor_ct bs k2 S hS hb (by omega) (by omega))) ?_
  rintro σ2 ⟨r, o', ⟨f, k3, hf, hk5, hk6, rfl, rfl⟩, hσ⟩
  obtain rfl := Option.some.inj hσ
  clear hσ
  have hf2 := hf.named
  refine rn rfl ?_
  refine goal_step (step_callE [0] rfl rfl rfl rfl rfl rfl (rfl) (pick_ct bs k3 5 hb (by omega) (by omega) (by omega))) ?_
  rintro σ2 ⟨r, o', ⟨⟨z, rfl, _, _⟩, rfl⟩, hσ⟩
  obtain rfl := Option.some.inj hσ
  clear hσ
  refine rn rfl ?_
  refine goal_cond rfl (fun h3 => ?_) (fun h3 => ?_) <;> (try simp only [gt_iff_lt, ge_iff_le, bne_iff_ne, ne_eq, bne_eq_false_iff_eq, beq_iff_eq, beq_eq_false_iff_ne, Bool.not_eq_true', Bool.not_eq_false', decide_eq_true_eq, decide_eq_false_iff_not, List.length_map] at h3)
  · refine rn rfl ?_
    refine goal_drawL [3, 5] [9] 10 rfl ?_
    refine drnL [0, 1, 2, 4] (by kernel_rfl) (by kernel_rfl) rfl rfl ?_
    refine AHL_one (i := 3) (by kernel_rfl) rfl (step_callE [0] rfl rfl rfl rfl rfl rfl (rfl) (aName_ct bs (k3 + 1) hb (by omega) (by omega))) (by simp) ?_
    rintro σ2 ⟨r, o', ⟨⟨nm, hnm, rfl⟩, rfl⟩, hσ⟩
    obtain rfl := Option.some.inj hσ
    clear hσ
    refine AHL_one (i := 5) (by kernel_rfl) rfl (step_callE [0] rfl rfl rfl rfl rfl rfl (rfl) (aNumber_ct bs (k3 + 1 + 1) hb (by omega) (by omega))) (by simp) ?_
    rintro σ2 ⟨r, o', ⟨⟨w, _, _, rfl⟩, rfl⟩, hσ⟩
    obtain rfl := Option.some.inj hσ
    clear hσ
    refine drnL [6] (by kernel_rfl) (by kernel_rfl) rfl rfl ?_
    refine AHL_one (i := 7) (by kernel_rfl) rfl (step_call [] rfl rfl rfl rfl rfl rfl (putPairD_ct f.named ⟨nm, w⟩ (by omega))) (by simp) ?_
    rintro σ2 ⟨r, o', ⟨rfl, rfl⟩, hσ⟩
    obtain rfl := Option.some.inj hσ
    clear hσ
    refine drnL [8] (by kernel_rfl) (by kernel_rfl) rfl rfl ?_
    refine AHL_lateDid 9 rfl (by kernel_rfl) rfl rfl (dA_step rfl) ?_
    refine AH_end (by kernel_rfl) ?_
    refine rn rfl ?_
    refine rn rfl ?_
    refine goal_draw' [3, 5] 4 rfl ?_
    refine drn [0, 1] (by kernel_rfl) (by kernel_rfl) rfl rfl ?_
    refine AH_oneDid 2 rfl (by kernel_rfl) rfl (dA_step rfl) (mdOk rfl) ?_
    refine AH_oneDid 3 rfl (by kernel_rfl) rfl (dA_step rfl) (mdOk rfl) ?_
    refine AH_end (by kernel_rfl) ?_
    refine rn rfl ?_
    have hpl : (spPair f.named ⟨nm, w⟩).length ≤ f.named.length + 1 := by rw [spPair_eq]; exact putP_length _ _ _
    refine rn rfl (fin_is [] rfl ⟨p, ⟨f.places, spPair f.named ⟨nm, w⟩⟩, k3 + 1 + 1 + 1, hs, hpf, ⟨hf.places, Nat.le_trans hpl (by omega), fun r hr => ?_⟩, by omega, by omega, rfl, rfl⟩)
    rw [spPair_eq] at hr
    rcases putP_mem hr with h | ⟨q, hq, h⟩
    · rw [h]; exact hnm
    · rw [h]; exact hf.names q hq
  · refine rn rfl ?_
    refine goal_draw' [3, 5] 4 rfl ?_
    refine drn [0, 1] (by kernel_rfl) (by kernel_rfl) rfl rfl ?_
    refine AH_oneDid 2 rfl (by kernel_rfl) rfl (dA_step rfl) (mdOk rfl) ?_
    refine AH_oneDid 3 rfl (by kernel_rfl) rfl (dA_step rfl) (mdOk rfl) ?_
    refine AH_end (by kernel_rfl) ?_
    refine rn rfl ?_
    exact rn rfl (fin_is [] rfl ⟨p, f, k3 + 1, hs, hpf, ⟨hf.places, by omega, hf.names⟩, by omega, by omega, rfl, rfl⟩)

theorem drawCallPartial_ct (bs : Str) : ACalls pk 39 [.one (.fs (bs.map rowB))] [] (fun r o => ∃ p f, SmallS p.sig ∧ MidF p.flat 24 8 ∧ MidF f 24 9 ∧ r = .tup [.agg (ePa p), .agg (eF f)] ∧ o = []) := by
  have hb : (bs.take 2000).length ≤ 2000 := by simp; omega
  refine acalls_of_body Tryz.func39 rfl (by kernel_rfl) rfl ?_
  refine rn rfl ?_
  refine goal_step (step_call [] rfl rfl rfl rfl rfl rfl (newReader_ct bs)) ?_
  rintro σ2 ⟨r, o', ⟨rfl, rfl⟩, hσ⟩
  obtain rfl := Option.some.inj hσ
  clear hσ
  refine rn rfl ?_
  refine goal_step (step_callE [2] rfl rfl rfl rfl rfl rfl rfl (partialCall_ct (bs.take 2000) 0 hb (by omega) (by omega))) ?_
  rintro σ2 ⟨r, o', ⟨p, f, k1, hs, hp, hf, hk1, hk2, rfl, rfl⟩, hσ⟩
  obtain rfl := Option.some.inj hσ
  exact rn rfl (fin_is [] rfl ⟨p, f, hs, hp, hf, rfl, rfl⟩)

def FullF (p : Part) (f : Flat) : Flat × Bool := if partQ p.sig p.flat then OverF p.flat f else (zF, false)

structure LenP (p : Part) : Prop where
  sig : LenS p.sig
  flat : LenF p.flat

theorem partQ_flat {s : Sig} {f : Flat} (h : partQ s f = true) : okFlat f = true := by
  simp only [partQ, Bool.and_eq_true] at h
  exact okFlat_iff.2 (fitQ_iff.1 h.1).2

theorem iover_o (f g : Flat) (hf : LenF f) (hg : LenF g) : ACalls pk 103 [.agg (eF f), .agg (eF g)] [] (fun r o => r = .tup [rF (OverF f g).1, .one (.bool (OverF f g).2)] ∧ o = oF (OverF f g).1) := iover_ct f g hf hg

theorem ifull_ct (p : Part) (f : Flat) (hp : LenP p) (hf : LenF f) : ACalls pk 42 [.agg (ePa p), .agg (eF f)] [] (fun r o => r = .tup [rF (FullF p f).1, .one (.bool (FullF p f).2)] ∧ o = oF (FullF p f).1) := by
  refine acalls_of_body Tryz.func42 rfl (by kernel_rfl) rfl ?_
  refine rn rfl ?_
  refine goal_step (step_call [] rfl rfl rfl rfl rfl rfl (ivalidPartial_ct p.sig p.flat hp.sig hp.flat)) ?_
  rintro σ2 ⟨r, o', ⟨rfl, rfl⟩, hσ⟩
  obtain rfl := Option.some.inj hσ
  clear hσ
  refine rn rfl ?_
  refine goal_cond rfl (fun h => ?_) (fun h => ?_) <;> (try simp only [gt_iff_lt, ge_iff_le, bne_iff_ne, ne_eq, bne_eq_false_iff_eq, beq_iff_eq, beq_eq_false_iff_ne, Bool.not_eq_true', Bool.not_eq_false', decide_eq_true_eq, decide_eq_false_iff_not, List.length_map] at h)
  · refine rn rfl ?_
    refine fin_weak (Weak.adoptO 2 0 1) (fin_weak (Weak.adoptO 2 1 2) (fin_is [3, 4] rfl ⟨?_, ?_⟩))
    · simp [FullF, h]; rfl
    · simp [FullF, h]; rfl
  · refine rn rfl ?_
    refine goal_step (step_call [] rfl rfl rfl rfl rfl rfl (iover_o p.flat f hp.flat hf)) ?_
    rintro σ2 ⟨r, o', ⟨rfl, rfl⟩, hσ⟩
    obtain rfl := Option.some.inj hσ
    clear hσ
    refine rn rfl ?_
    refine rn rfl (fin_is [3, 4] rfl ⟨?_, ?_⟩)
    · simp only [FullF, h, if_true]; rfl
    · simp only [FullF, h, if_true]; rfl

theorem ifullD_ct (p : Part) (f : Flat) (hp : LenP p) (hf : LenF f) : ACalls pk 42 [.agg (ePa p), .agg (eF f)] [] (fun r o => r = .tup [.agg (eF (FullF p f).1), .one (.bool (FullF p f).2)] ∧ o = []) :=
  (ifull_ct p f hp hf).told [] (by rintro r o ⟨rfl, rfl⟩; exact ⟨_, _, rfl, tellF _ _, rfl⟩)

theorem sfull_ct (p : Part) (f : Flat) (hp : LenP p) (hf : LenF f) : ACalls pk 101 [.agg (ePa p), .agg (eF f)] [] (fun r o => r = .tup [.agg (eF (FullF p f).1), .one (.bool (FullF p f).2)] ∧ o = []) := by
  have b1 := hf.places
  have b2 := hf.named
  refine acalls_of_body Tryz.func101 rfl (by kernel_rfl) rfl ?_
  refine rn rfl ?_
  refine goal_step (step_call [] rfl rfl rfl rfl rfl rfl (svalidPartial_ct p.sig p.flat hp.sig hp.flat)) ?_
  rintro σ2 ⟨r, o', ⟨rfl, rfl⟩, hσ⟩
  obtain rfl := Option.some.inj hσ
  clear hσ
  refine rn rfl ?_
  refine goal_guard rfl rfl rfl (fun h => ?_) (fun h => ?_) <;> (try simp only [gt_iff_lt, ge_iff_le, bne_iff_ne, ne_eq, bne_eq_false_iff_eq, beq_iff_eq, beq_eq_false_iff_ne, Bool.not_eq_true', Bool.not_eq_false', decide_eq_true_eq, decide_eq_false_iff_not, List.length_map] at h)
  · refine rn rfl (fin_is [] rfl ⟨?_, rfl⟩)
    simp [FullF, h]; rfl
  refine rn rfl ?_
  refine goal_step (step_call [] rfl rfl rfl rfl rfl rfl (svalidFlat_ct f (by omega) (by omega) hf.names)) ?_
  rintro σ2 ⟨r, o', ⟨rfl, rfl⟩, hσ⟩
  obtain rfl := Option.some.inj hσ
  clear hσ
  refine rn rfl ?_
  refine goal_cond rfl (fun h2 => ?_) (fun h2 => ?_) <;> (try simp only [gt_iff_lt, ge_iff_le, bne_iff_ne, ne_eq, bne_eq_false_iff_eq, beq_iff_eq, beq_eq_false_iff_ne, Bool.not_eq_true', Bool.not_eq_false', decide_eq_true_eq, decide_eq_false_iff_not, List.length_map] at h2)
  · refine rn rfl (fin_is [] rfl ⟨?_, rfl⟩)
    simp [FullF, h, OverF, h2]; rfl
  have hq := partQ_flat h
  have hF := okFlat_iff.1 hq
  have hG := okFlat_iff.1 h2
  have ho : FullF p f = checkF (overQ p.flat f) true := by unfold FullF; rw [if_pos h]; unfold OverF; rw [if_pos (by simp [hq, h2, okFlat_iff.2 hF, okFlat_iff.2 hG])]
  obtain ⟨l1, l2, l3⟩ := hp.flat.over hf
  rw [ho]
  refine rn rfl ?_
  refine goal_step (step_call [] rfl rfl rfl rfl rfl rfl (sover_ct p.flat f hp.flat hf (by have := hF.named; omega) (by have := hG.named; omega))) ?_
  rintro σ2 ⟨r, o', ⟨rfl, rfl⟩, hσ⟩
  obtain rfl := Option.some.inj hσ
  clear hσ
  refine rn rfl ?_
  refine goal_step (step_call [] rfl rfl rfl rfl rfl rfl (checkedFlat_ct (overQ p.flat f) l1 l2 l3)) ?_
  rintro σ2 ⟨r, o', ⟨rfl, rfl⟩, hσ⟩
  obtain rfl := Option.some.inj hσ
  clear hσ
  refine rn rfl ?_
  exact rn rfl (fin_is [] rfl ⟨rfl, rfl⟩)

theorem full_names {p : Part} {f : Flat} : LenF (FullF p f).1 := by
  unfold FullF OverF checkF
  split
  · split
    · split
      · rename_i h
        simp only [Bool.true_and] at h
        exact (okFlat_iff.1 h).len
      · exact ⟨by simp [zF], by simp [zF], by simp [zF]⟩
    · exact ⟨by simp [zF], by simp [zF], by simp [zF]⟩
  · exact ⟨by simp [zF], by simp [zF], by simp [zF]⟩

theorem acc_iff {s : Sig} {f : Flat} (hs : OkS s) (hf : OkF f) : accQ s f = true ↔
    (placesQ s < f.places.length → s.any (kIs 2) = true) ∧ (∀ q ∈ f.named, wrongQ s f.places q = none) ∧ missingQ s (s.mapIdx (giveQ s f.places f.named)) = [] := by
  have hb := bound_closed hs hf.nodup
  unfold accQ bindQ
  rw [hb]
  simp only [closedQ, decide_eq_true_eq, List.append_eq_nil_iff, List.filterMap_eq_nil_iff, and_assoc]
  have hm : manyQ s f.places = [] ↔ (placesQ s < f.places.length → s.any (kIs 2) = true) := by
    unfold manyQ
    split
    · rename_i h
      simp only [Bool.and_eq_true, decide_eq_true_eq, Bool.not_eq_true'] at h
      constructor
      · intro h0; cases h0
      · intro h0; rw [h0 h.1] at h; cases h.2
    · rename_i h
      simp only [true_iff]
      intro h0
      cases ha : s.any (kIs 2) with
      | true => rfl
      | false => exact absurd (by simp [h0, ha]) h
  rw [hm]

theorem give_given {s : Sig} {pl : List Int} {qs : List Pair} {i : Nat} {p : Param} (h : singleQ p = true) :
    (giveQ s pl qs i p).given = (byPl pl i p || (namedQ p && qs.any (nameIs p.name))) := by
  rw [single_kind] at h
  have hf : (qs.find? (nameIs p.name)).isSome = qs.any (nameIs p.name) := by
    cases ha : qs.any (nameIs p.name) with
    | true =>
      rw [List.find?_isSome]
      exact List.any_eq_true.1 ha
    | false =>
      cases hq : qs.find? (nameIs p.name) with
      | none => rfl
      | some q =>
        have h1 := List.mem_of_find?_eq_some hq
        have h2 := List.find?_some hq
        have : qs.any (nameIs p.name) = true := List.any_eq_true.2 ⟨q, h1, h2⟩
        rw [this] at ha; cases ha
  unfold giveQ
  rw [if_neg (by omega)]
  cases hb : byPl pl i p with
  | true =>
    simp only [Bool.not_true, Bool.and_false, Bool.true_or]
    unfold byPl at hb
    simp [place1, hb]
  | false =>
    cases hn : namedQ p with
    | true =>
      simp only [Bool.not_false, Bool.and_self, if_true, Bool.false_or, Bool.true_and]
      rw [← hf]
      cases qs.find? (nameIs p.name) <;> rfl
    | false =>
      simp only [Bool.false_and, Bool.false_or]
      unfold byPl at hb
      have h2 : (p.kind == 2) = false := by simp; omega
      simp [place1, hb, h2, zL]

/-- What is lacking, parameter by parameter. -/
theorem lack_iff {s : Sig} {pl : List Int} {qs : List Pair} : missingQ s (s.mapIdx (giveQ s pl qs)) = [] ↔
    ∀ (i : Nat) (p : Param), s[i]? = some p → singleQ p = true → p.hasD = true ∨ byPl pl i p = true ∨ (namedQ p = true ∧ qs.any (nameIs p.name) = true) := by
  unfold missingQ
  rw [List.filterMap_eq_nil_iff]
  constructor
  · intro h i p hp hsg
    have hz : (p, giveQ s pl qs i p) ∈ s.zip (s.mapIdx (giveQ s pl qs)) := List.mem_of_getElem? (i := i) (by
      rw [List.getElem?_zip_eq_some]; exact ⟨hp, by simp [List.getElem?_mapIdx, hp]⟩)
    have h1 := h _ hz
    unfold lackQ at h1
    simp only [give_given hsg, hsg, Bool.true_and] at h1
    split at h1
    · cases h1
    · rename_i h2
      cases hd : p.hasD with
      | true => exact .inl rfl
      | false =>
        right
        rw [hd] at h2
        simp only [Bool.not_false, Bool.true_and, Bool.not_eq_true', Bool.not_eq_false] at h2
        simpa using h2
  · intro h z hz
    obtain ⟨i, hi⟩ := List.getElem?_of_mem hz
    rw [List.getElem?_zip_eq_some] at hi
    obtain ⟨h1, h2⟩ := hi
    rw [List.getElem?_mapIdx, h1] at h2
    simp only [Option.map_some, Option.some.injEq] at h2
    unfold lackQ
    split
    · rename_i h3
      simp only [Bool.and_eq_true, Bool.not_eq_true'] at h3
      have h4 := h i z.1 h1 h3.1.1
      rw [← h2, give_given h3.1.1] at h3
      rcases h4 with h4 | h4 | ⟨h4, h5⟩
      · rw [h4] at h3; cases h3.1.2
      · rw [h4] at h3; cases h3.2
      · rw [h4, h5] at h3; simp at h3
    · rfl

/-- What is wrong with a name. -/
theorem wrong_iff {s : Sig} {pl : List Int} {q : Pair} : wrongQ s pl q = none ↔
    0 ≤ takesQ s q.name ∧ ∀ p, s[(takesQ s q.name).toNat]? = some p → p.kind ≠ 4 → byPl pl (takesQ s q.name).toNat p = false := by
  unfold wrongQ
  constructor
  · intro h
    split at h
    · cases h
    · rename_i h1
      refine ⟨by omega, fun p hp hk => ?_⟩
      rw [hp] at h
      simp only at h
      rw [if_neg hk] at h
      cases hb : byPl pl (takesQ s q.name).toNat p with
      | false => rfl
      | true => rw [if_pos hb] at h; cases h
  · rintro ⟨h1, h2⟩
    rw [if_neg (by omega)]
    cases hp : s[(takesQ s q.name).toNat]? with
    | none => rfl
    | some p =>
      simp only
      by_cases hk : p.kind = 4
      · rw [if_pos hk]
      · rw [if_neg hk, if_neg (by rw [h2 p hp hk]; simp)]

def CallF (p : Part) (f : Flat) : Bnds × Bool := if (FullF p f).2 then BindQ p.sig (FullF p f).1 else ([], false)

theorem icallPart_ct (p : Part) (f : Flat) (hp : LenP p) (hf : LenF f) : ACalls pk 40 [.agg (ePa p), .agg (eF f)] [] (fun r o => r = .tup [.agg (eBi (CallF p f).1), .one (.bool (CallF p f).2)] ∧ o = []) := by
  have lg := full_names (p := p) (f := f)
  have hE : CallF p f = if (FullF p f).2 then BindQ p.sig (FullF p f).1 else ([], false) := rfl
  have hI := ifullD_ct p f hp hf
  rw [hE]
  generalize (FullF p f).1 = G at *
  generalize (FullF p f).2 = b at *
  refine acalls_of_body Tryz.func40 rfl (by kernel_rfl) rfl ?_
  refine rn rfl ?_
  refine goal_step (step_call [] rfl rfl rfl rfl rfl rfl (hI)) ?_
  rintro σ2 ⟨r, o', ⟨rfl, rfl⟩, hσ⟩
  obtain rfl := Option.some.inj hσ
  clear hσ
  refine rn rfl ?_
  refine goal_cond rfl (fun h => ?_) (fun h => ?_) <;> (try simp only [gt_iff_lt, ge_iff_le, bne_iff_ne, ne_eq, bne_eq_false_iff_eq, beq_iff_eq, beq_eq_false_iff_ne, Bool.not_eq_true', Bool.not_eq_false', decide_eq_true_eq, decide_eq_false_iff_not, List.length_map] at h)
  · subst h
    exact rn rfl (fin_is [] rfl ⟨rfl, rfl⟩)
  · subst h
    refine rn rfl ?_
    refine goal_step (step_call [] rfl rfl rfl rfl rfl rfl (iBindD_ct p.sig G hp.sig lg)) ?_
    rintro σ2 ⟨r, o', ⟨rfl, rfl⟩, hσ⟩
    obtain rfl := Option.some.inj hσ
    clear hσ
    refine rn rfl ?_
    exact rn rfl (fin_is [] rfl ⟨rfl, rfl⟩)

theorem equalBi_ct (b : Bnds) (hb : b.length ≤ 1048576) (hl : ∀ x ∈ b, x.list.length ≤ 1048576 ∧ x.pairs.length ≤ 1048576) : ACalls pk 35 [.agg (eBi b), .agg (eBi b)] [] (fun r o => r = .one (.bool true) ∧ o = []) := by
  refine acalls_of_body Tryz.func35 rfl (by kernel_rfl) rfl ?_
  refine rn rfl ?_
  refine goal_cond rfl (fun h => by simp at h) (fun _ => ?_)
  refine rn rfl ?_
  refine goal_loop_keep (fun m σ => ∃ (n : Int) (i : Nat), n = i ∧ i ≤ b.length ∧ m = b.length - i ∧
      σ = ⟨[(5, .one (.int .i64 n)), (3, .one (.op 1 0 0)), (2, .one (.op 0 0 0))], [some ⟨1, [eBi b], false, false, true⟩, some ⟨1, [eBi b], false, false, true⟩], []⟩) b.length [5, 3, 2] [0, 1] rfl
    ⟨_, 0, rfl, by omega, by omega, rfl⟩ ?_
  rintro m σ ⟨n, i, rfl, hi, rfl, rfl⟩
  refine rn rfl ?_
  refine goal_cond rfl (fun hc => ?_) (fun hc => ?_) <;> (try simp only [gt_iff_lt, ge_iff_le, bne_iff_ne, ne_eq, bne_eq_false_iff_eq, beq_iff_eq, beq_eq_false_iff_ne, Bool.not_eq_true', Bool.not_eq_false', decide_eq_true_eq, decide_eq_false_iff_not, List.length_map] at hc)
  · obtain ⟨x, hx⟩ := at_some (xs := b) (i := i) (by omega)
    obtain ⟨l1, l2⟩ := hl x (List.mem_of_getElem? hx)
    refine rn rfl ?_
    refine goal_did rfl rfl (dA_index (eL x) rfl rfl rfl rfl rfl rfl rfl (by omega) (by (try simp); omega) (map_at (by simpa using hx)) rfl) ?_
    refine rn rfl ?_
    refine goal_did rfl rfl (dA_index (eL x) rfl rfl rfl rfl rfl rfl rfl (by omega) (by (try simp); omega) (map_at (by simpa using hx)) rfl) ?_
    refine rn rfl ?_
    refine goal_guard rfl rfl rfl (fun h => by simp at h) (fun _ => ?_)
    refine rn rfl ?_
    refine goal_step (step_call [] rfl rfl rfl rfl rfl rfl (equalInts_ct x.list x.list (by omega))) ?_
    rintro σ2 ⟨r, o', ⟨rfl, rfl⟩, hσ⟩
    obtain rfl := Option.some.inj hσ
    clear hσ
    refine rn rfl ?_
    refine goal_guard rfl rfl rfl (fun h => by simp at h) (fun _ => ?_)
    refine rn rfl ?_
    refine goal_step (step_call [] rfl rfl rfl rfl rfl rfl (equalPairs_ct x.pairs x.pairs (by omega))) ?_
    rintro σ2 ⟨r, o', ⟨rfl, rfl⟩, hσ⟩
    obtain rfl := Option.some.inj hσ
    clear hσ
    refine rn rfl ?_
    refine goal_cond rfl (fun h => by simp at h) (fun _ => ?_)
    refine rn rfl ?_
    refine round_keep (b.length - (i + 1)) [5, 3, 2] [0, 1] (by omega) rfl ⟨_, i + 1, wrap64 (by omega) (by omega), by omega, rfl, rfl⟩
  · refine rn rfl (round_ext ?_)
    exact rn rfl (fin_is [] rfl ⟨rfl, rfl⟩)

theorem place1_small (np : Nat) (pl : List Int) (i : Nat) (p : Param) (h : pl.length ≤ 8) : (place1 np pl i p).list.length ≤ 8 ∧ (place1 np pl i p).pairs.length ≤ 8 := by
  unfold place1
  split
  · simp
  · split
    · simp; omega
    · simp [zL]

theorem bind_small (s : Sig) (f : Flat) : (BindQ s f).1.length ≤ 8 ∧ ∀ x ∈ (BindQ s f).1, x.list.length ≤ 8 ∧ x.pairs.length ≤ 8 := by
  unfold BindQ
  split
  · rename_i h
    simp only [Bool.and_eq_true] at h
    obtain ⟨hs, hf⟩ := fitQ_iff.1 h.1
    have h1 := hf.places
    have h2 := hf.named
    rw [bound_closed hs hf.nodup]
    refine ⟨by simp only [closedQ, List.length_mapIdx]; exact hs.len, fun x hx => ?_⟩
    simp only [closedQ, List.mem_mapIdx] at hx
    obtain ⟨i, hi, rfl⟩ := hx
    unfold giveQ
    split
    · have := List.length_filter_le (fun q : Pair => takesQ s q.name == (i : Int)) f.named
      simp; omega
    · split
      · split <;> simp [zL]
      · exact place1_small _ _ _ _ h1
  · simp

theorem name_inj {s : Sig} (hs : OkS s) {i j : Nat} {p q : Param} (hp : s[i]? = some p) (hq : s[j]? = some q) (h : p.name = q.name) : i = j := by
  refine (List.getElem?_inj (l := s.map Param.name) (by have := lt_of_some hp; simpa using this) hs.nodup).1 ?_
  rw [List.getElem?_map, List.getElem?_map, hp, hq]
  simp [h]

theorem any_names {qs : List Pair} {n : Str} : qs.any (nameIs n) = true ↔ n ∈ namesOf qs := by
  simp [namesOf, nameIs]

/-- Where a name goes. -/
def goesQ (s : Sig) (n : Str) : Prop := (∃ (i : Nat) (p : Param), s[i]? = some p ∧ namedQ p = true ∧ p.name = n) ∨ ∃ p ∈ s, p.kind = 4

theorem takes_goes {s : Sig} (hs : OkS s) {n : Str} : 0 ≤ takesQ s n ↔ goesQ s n := by
  constructor
  · intro h
    obtain ⟨p, hp, _, hk⟩ := takesQ_some (show ¬ takesQ s n < 0 by omega)
    rcases hk with ⟨h1, h2⟩ | h1
    · exact .inl ⟨_, p, hp, h1, h2⟩
    · exact .inr ⟨p, List.mem_of_getElem? hp, h1⟩
  · intro h
    by_cases hA : ∃ (i : Nat) (p : Param), s[i]? = some p ∧ namedQ p = true ∧ p.name = n
    · obtain ⟨i, p, hp, hn, rfl⟩ := hA
      rw [takes_named hs hp hn]; omega
    · rcases h with h | ⟨p, hp, hk⟩
      · exact absurd h hA
      · have h4 : takesQ s n = idxI (kIs 4) s 0 := by
          cases hf : s.find? (qIs n) with
          | none => simp [takesQ, hf]
          | some q =>
            cases hn : namedQ q with
            | false => simp [takesQ, hf, hn]
            | true =>
              have h1 := List.mem_of_find?_eq_some hf
              have h2 := List.find?_some hf
              obtain ⟨i, hi⟩ := List.getElem?_of_mem h1
              exact absurd ⟨i, q, hi, hn, by simpa [qIs] using h2⟩ hA
        rw [h4]
        exact idxI_ge.2 (List.any_eq_true.2 ⟨p, hp, by simpa [kIs] using hk⟩)

theorem wrong_iff2 {s : Sig} (hs : OkS s) {pl : List Int} {q : Pair} : wrongQ s pl q = none ↔
    goesQ s q.name ∧ ∀ (i : Nat) (p : Param), s[i]? = some p → namedQ p = true → p.name = q.name → byPl pl i p = false := by
  rw [wrong_iff, takes_goes hs]
  constructor
  · rintro ⟨h1, h2⟩
    refine ⟨h1, fun i p hp hn he => ?_⟩
    have ht := takes_named hs hp hn
    rw [he] at ht
    have := h2 p (by rw [ht]; simpa using hp) (by have := named_kind.1 hn; omega)
    rw [ht] at this
    simpa using this
  · rintro ⟨h1, h2⟩
    refine ⟨h1, fun p hp hk => ?_⟩
    obtain ⟨p', hp', _, hk'⟩ := takesQ_some (show ¬ takesQ s q.name < 0 by have := (takes_goes hs).2 h1; omega)
    rw [hp] at hp'
    cases hp'
    rcases hk' with ⟨h3, h4⟩ | h3
    · exact h2 _ p hp h3 h4
    · exact absurd h3 hk

theorem find_isSome {f : Flat} {n : Str} : (f.named.find? (nameIs n)).isSome = f.named.any (nameIs n) := by
  cases ha : f.named.any (nameIs n) with
  | true => rw [List.find?_isSome]; exact List.any_eq_true.1 ha
  | false =>
    cases hq : f.named.find? (nameIs n) with
    | none => rfl
    | some q =>
      have : f.named.any (nameIs n) = true := List.any_eq_true.2 ⟨q, List.mem_of_find?_eq_some hq, List.find?_some hq⟩
      rw [this] at ha; cases ha

theorem kindP_facts (b : Bool) (q : Param) : (kindP b q).name = q.name ∧ (kindP b q).kind = (if q.kind = 1 ∧ b = true then 3 else q.kind) ∧ (kindP b q).hasD = q.hasD ∧ namedQ (kindP b q) = namedQ q := by
  unfold kindP namedQ
  by_cases h1 : q.kind = 1
  · cases b <;> simp [h1]
  · simp [h1]

theorem giveP_facts (f : Flat) (q : Param) : (giveP f q).name = q.name ∧ (giveP f q).kind = q.kind ∧ (giveP f q).hasD = (q.hasD || (namedQ q && f.named.any (nameIs q.name))) := by
  unfold giveP
  rw [← find_isSome]
  cases hn : namedQ q with
  | false => simp
  | true =>
    simp only [if_true]
    cases f.named.find? (nameIs q.name) <;> simp

/-- What becomes of a parameter. -/
structure KeptQ (k : Int) (f : Flat) (i : Nat) (p p' : Param) : Prop where
  name : p'.name = p.name
  kind : p'.kind = if p.kind = 1 ∧ 0 ≤ k ∧ k ≤ i then 3 else p.kind
  hasD : p'.hasD = (p.hasD || (namedQ p && f.named.any (nameIs p.name)))
  place : ¬ (placedQ p = true ∧ i < f.places.length)
  rest : ¬ (p.kind = 2 ∧ 0 ≤ k)

theorem partParam_facts {k : Int} {f : Flat} {i : Nat} {p p' : Param} (h : partParam k f i p = some p') : KeptQ k f i p p' := by
  have hn := partParam_name h
  unfold partParam at h
  split at h
  · cases h
  · rename_i hs
    simp only [Option.some.injEq] at h
    obtain ⟨a1, a2, a3, a4⟩ := kindP_facts (decide (0 ≤ k) && decide (k ≤ i)) p
    obtain ⟨b1, b2, b3⟩ := giveP_facts f (kindP (decide (0 ≤ k) && decide (k ≤ i)) p)
    rw [h] at b1 b2 b3
    refine ⟨hn, ?_, ?_, ?_, ?_⟩
    · rw [b2, a2]; simp
    · rw [b3, a3, a4, a1]
    · rintro ⟨h1, h2⟩; exact hs (by simp [skipP, h1, h2])
    · rintro ⟨h1, h2⟩; exact hs (by simp [skipP, h1, h2])

theorem partParam_keep {k : Int} {f : Flat} {i : Nat} {p : Param} (h1 : ¬ (placedQ p = true ∧ i < f.places.length)) (h2 : ¬ (p.kind = 2 ∧ 0 ≤ k)) : ∃ p', partParam k f i p = some p' := by
  unfold partParam
  rw [if_neg]
  · exact ⟨_, rfl⟩
  · unfold skipP
    simp only [Bool.or_eq_true, Bool.and_eq_true, decide_eq_true_eq, beq_iff_eq]
    rintro (h | h)
    · exact h1 h
    · exact h2 h

theorem psL_split {k : Int} {f : Flat} {s : Sig} (i : Nat) : ∃ r, psL k f s = psL k f (s.take i) ++ r := by
  refine ⟨((s.drop i).zipIdx (0 + (s.take i).length)).filterMap (fun x => partParam k f x.2 x.1), ?_⟩
  conv => lhs; rw [← List.take_append_drop i s]
  unfold psL
  rw [List.zipIdx_append, List.filterMap_append]

/-- The facts of a partial call's signature. -/
structure PsFacts (s : Sig) (pf : Flat) : Prop where
  sig : OkS s
  flat : OkF pf
  out : OkS (psQ s pf)
  part : partQ s pf = true

theorem PsFacts.first {s : Sig} {pf : Flat} (h : PsFacts s pf) (h0 : 0 ≤ atQ s pf) : ∃ (n : Nat) (y : Param), atQ s pf = n ∧ s[n]? = some y ∧ y.kind = 1 ∧ pf.named.any (nameIs y.name) = true ∧ pf.places.length ≤ n := by
  obtain ⟨y, _, hy, hyp, hlt⟩ := idxI_find h0
  have hk := hyp
  simp only [atP, Bool.and_eq_true, beq_iff_eq] at hk
  refine ⟨(atQ s pf).toNat, y, by omega, hy, hk.1, hk.2, ?_⟩
  refine Classical.byContradiction fun hc => ?_
  have := np_at h.part hy (placed_kind.2 (.inr hk.1)) (by unfold atQ at hc; omega)
  rw [hyp] at this; cases this

theorem PsFacts.from {s : Sig} {pf : Flat} (h : PsFacts s pf) {i : Nat} {p : Param} (hp : s[i]? = some p) (hk : p.kind = 1) (hn : pf.named.any (nameIs p.name) = true) : 0 ≤ atQ s pf ∧ atQ s pf ≤ i := by
  have := idxI_le (k := 0) (pred := atP pf) hp (by simp [atP, hk, hn])
  unfold atQ; omega

theorem PsFacts.kinds {s : Sig} {pf : Flat} (h : PsFacts s pf) {i : Nat} {p : Param} (hp : s[i]? = some p) (h0 : 0 ≤ atQ s pf) (h1 : atQ s pf ≤ i) (hk : placedQ p = true) : p.kind = 1 := by
  obtain ⟨n, y, hn, hy, hyk, _, _⟩ := h.first h0
  have := h.sig.sorted (i - n) n y p hy (by rw [show n + (i - n) = i by omega]; exact hp)
  rw [placed_kind] at hk; omega

theorem KeptQ.placed {s : Sig} {pf : Flat} (h : PsFacts s pf) {i : Nat} {p p' : Param} (hp : s[i]? = some p) (hk : KeptQ (atQ s pf) pf i p p') : placedQ p' = true ↔ placedQ p = true ∧ ¬ (0 ≤ atQ s pf ∧ atQ s pf ≤ i) := by
  have h1 := hk.kind
  constructor
  · intro h2
    rw [placed_kind] at h2
    split at h1
    · omega
    · rename_i h3
      have hpp : placedQ p = true := placed_kind.2 (by omega)
      refine ⟨hpp, fun h4 => h3 ⟨h.kinds hp h4.1 h4.2 hpp, h4⟩⟩
  · rintro ⟨h2, h3⟩
    rw [placed_kind] at h2 ⊢
    rw [if_neg (fun h4 => h3 h4.2)] at h1
    omega

theorem KeptQ.named {k : Int} {pf : Flat} {i : Nat} {p p' : Param} (hk : KeptQ k pf i p p') : namedQ p' = namedQ p := by
  have h1 := hk.kind
  have : namedQ p' = true ↔ namedQ p = true := by
    rw [named_kind, named_kind]
    split at h1 <;> omega
  cases h : namedQ p with
  | true => exact this.2 h
  | false =>
    cases h' : namedQ p' with
    | false => rfl
    | true => rw [this.1 h'] at h; cases h

theorem PsFacts.len {s : Sig} {pf : Flat} (h : PsFacts s pf) : ∀ (i : Nat), i ≤ placesQ s → (psL (atQ s pf) pf (s.take i)).length = i - pf.places.length
  | 0, _ => by simp [psL]
  | i + 1, hi => by
    have hP := placesQ_le s
    obtain ⟨p, hp⟩ := at_some (xs := s) (i := i) (by omega)
    have hpl := (h.sig.placed_iff hp).2 (by omega)
    rw [psL_succ hp, List.length_append, PsFacts.len h i (by omega)]
    by_cases hia : i < pf.places.length
    · have : partParam (atQ s pf) pf i p = none := by simp [partParam, skipP, hpl, hia]
      rw [this]; simp; omega
    · obtain ⟨p', hp'⟩ := partParam_keep (k := atQ s pf) (f := pf) (i := i) (p := p) (by omega) (by rw [placed_kind] at hpl; omega)
      rw [hp']; simp; omega

/-- Where a parameter goes. -/
theorem PsFacts.to {s : Sig} {pf : Flat} (h : PsFacts s pf) {i : Nat} {p : Param} (hp : s[i]? = some p) (h1 : ¬ (placedQ p = true ∧ i < pf.places.length)) (h2 : ¬ (p.kind = 2 ∧ 0 ≤ atQ s pf)) :
    ∃ (j : Nat) (p' : Param), (psQ s pf)[j]? = some p' ∧ KeptQ (atQ s pf) pf i p p' ∧ (placedQ p' = true → j + pf.places.length = i) := by
  obtain ⟨p', hp'⟩ := partParam_keep (f := pf) h1 h2
  have hk := partParam_facts hp'
  obtain ⟨r, hr⟩ := psL_split (k := atQ s pf) (f := pf) (s := s) (i + 1)
  rw [psL_succ hp, hp'] at hr
  refine ⟨(psL (atQ s pf) pf (s.take i)).length, p', ?_, hk, fun hpl => ?_⟩
  · unfold psQ
    rw [hr, List.append_assoc, List.getElem?_append_right (by omega)]
    simp
  · have hpp := ((hk.placed h hp).1 hpl).1
    have hi := (h.sig.placed_iff hp).1 hpp
    rw [h.len i (by omega)]
    have := hk.place
    have : ¬ i < pf.places.length := fun h0 => this ⟨hpp, h0⟩
    omega

/-- Where a parameter comes from. -/
theorem PsFacts.of {s : Sig} {pf : Flat} (h : PsFacts s pf) {j : Nat} {p' : Param} (hp : (psQ s pf)[j]? = some p') :
    ∃ (i : Nat) (p : Param), s[i]? = some p ∧ KeptQ (atQ s pf) pf i p p' ∧ (placedQ p' = true → j + pf.places.length = i) := by
  have hm := List.mem_of_getElem? hp
  unfold psQ psL at hm
  rw [List.mem_filterMap] at hm
  obtain ⟨⟨p, i⟩, hq, hr⟩ := hm
  rw [List.mem_zipIdx_iff_getElem?] at hq
  have hk := partParam_facts hr
  obtain ⟨j', p2, hj', hk', hpos⟩ := h.to hq hk.place hk.rest
  have hjj := name_inj h.out hp hj' (by rw [hk.name, hk'.name])
  subst hjj
  rw [hp] at hj'
  cases hj'
  exact ⟨i, p, hq, hk, hpos⟩

section

variable {s : Sig} {pf f : Flat}

end

def sameL (x y : Slot) : Bool := x.given == y.given && (decide (x.list = y.list) && decide (isortL ltN x.pairs = isortL ltN y.pairs))

def sameB (a b : Bnds) : Bool := decide (a.length = b.length) && (a.zip b).all (fun z => sameL z.1 z.2)

theorem sameB_iff {a b : Bnds} : sameB a b = true ↔ a.length = b.length ∧ ∀ (i : Nat) (x y : Slot), a[i]? = some x → b[i]? = some y → sameL x y = true := by
  unfold sameB
  rw [Bool.and_eq_true, decide_eq_true_eq, List.all_eq_true]
  refine and_congr_right fun _ => ?_
  constructor
  · intro h i x y hx hy
    exact h (x, y) (List.mem_of_getElem? (i := i) (List.getElem?_zip_eq_some.2 ⟨hx, hy⟩))
  · intro h z hz
    obtain ⟨i, hi⟩ := List.getElem?_of_mem hz
    rw [List.getElem?_zip_eq_some] at hi
    exact h i _ _ hi.1 hi.2

theorem sameL_self (x : Slot) : sameL x x = true := by simp [sameL]

theorem sameB_self (b : Bnds) : sameB b b = true := sameB_iff.2 ⟨rfl, fun i x y hx hy => by rw [hx] at hy; cases hy; exact sameL_self x⟩

structure SmallL (x : Slot) : Prop where
  list : x.list.length ≤ 1048576
  pairs : x.pairs.length ≤ 12

theorem sameC_ct (x y : Slot) (hx : SmallL x) (hy : SmallL y) : ACalls pk 131 [.agg (eL x), .agg (eL y)] [] (fun r o => r = .one (.bool (sameL x y)) ∧ o = []) := by
  have h1 := hx.list
  have h2 := hx.pairs
  have h3 := hy.pairs
  have g1 := isortL_length ltN x.pairs
  refine acalls_of_body Tryz.func131 rfl (by kernel_rfl) rfl ?_
  refine rn rfl ?_
  refine goal_draw' [0, 1] 22 rfl ?_
  refine drn [0, 1, 2, 3, 4, 5] (by kernel_rfl) (by kernel_rfl) rfl rfl ?_
  refine AH_guard (i := 6) rfl rfl rfl (fun h4 => ?_) (fun h4 => ?_) <;> (try simp only [gt_iff_lt, ge_iff_le, bne_iff_ne, ne_eq, bne_eq_false_iff_eq, beq_iff_eq, beq_eq_false_iff_ne, Bool.not_eq_true', Bool.not_eq_false', decide_eq_true_eq, decide_eq_false_iff_not, List.length_map] at h4)
  · refine drn [6, 7, 8, 9] (by kernel_rfl) (by kernel_rfl) rfl rfl ?_
    refine AH_one (i := 10) (by kernel_rfl) (step_call [] rfl rfl rfl rfl rfl rfl (libEqualI_ct x.list y.list (by omega))) (by simp) ?_
    rintro σ2 ⟨r, o', ⟨rfl, rfl⟩, hσ⟩
    obtain rfl := Option.some.inj hσ
    clear hσ
    refine drn [11, 12] (by kernel_rfl) (by kernel_rfl) rfl rfl ?_
    refine AH_guard (i := 13) rfl rfl rfl (fun h5 => ?_) (fun h5 => ?_) <;> (try simp only [gt_iff_lt, ge_iff_le, bne_iff_ne, ne_eq, bne_eq_false_iff_eq, beq_iff_eq, beq_eq_false_iff_ne, Bool.not_eq_true', Bool.not_eq_false', decide_eq_true_eq, decide_eq_false_iff_not, List.length_map] at h5)
    · refine drn [13, 14, 16, 17] (by kernel_rfl) (by kernel_rfl) rfl rfl ?_
      refine AH_one (i := 15) (by kernel_rfl) (step_call [] rfl rfl rfl rfl rfl rfl (byNameD_ct x.pairs (by omega))) (by simp) ?_
      rintro σ2 ⟨r, o', ⟨rfl, rfl⟩, hσ⟩
      obtain rfl := Option.some.inj hσ
      clear hσ
      refine AH_one (i := 18) (by kernel_rfl) (step_call [] rfl rfl rfl rfl rfl rfl (byNameD_ct y.pairs (by omega))) (by simp) ?_
      rintro σ2 ⟨r, o', ⟨rfl, rfl⟩, hσ⟩
      obtain rfl := Option.some.inj hσ
      clear hσ
      refine AH_one (i := 19) (by kernel_rfl) (step_call [] rfl rfl rfl rfl rfl rfl (libEqualP_ct (isortL ltN x.pairs) (isortL ltN y.pairs) (by omega))) (by simp) ?_
      rintro σ2 ⟨r, o', ⟨rfl, rfl⟩, hσ⟩
      obtain rfl := Option.some.inj hσ
      clear hσ
      refine drn [20, 21] (by kernel_rfl) (by kernel_rfl) rfl rfl ?_
      refine AH_end (by kernel_rfl) ?_
      refine rn rfl ?_
      refine rn rfl (fin_is [] rfl ⟨?_, rfl⟩)
      simp [sameL, h4, h5]
    · refine drn [13, 14, 15, 16, 17, 18, 19, 20, 21] (by kernel_rfl) (by kernel_rfl) rfl rfl ?_
      refine AH_end (by kernel_rfl) ?_
      refine rn rfl ?_
      refine rn rfl (fin_is [] rfl ⟨?_, rfl⟩)
      simp [sameL, h5]
  · refine drn [6, 7, 8, 9, 10, 11, 12, 13, 14, 15, 16, 17, 18, 19, 20, 21] (by kernel_rfl) (by kernel_rfl) rfl rfl ?_
    refine AH_end (by kernel_rfl) ?_
    refine rn rfl ?_
    refine rn rfl (fin_is [] rfl ⟨?_, rfl⟩)
    simp [sameL, h4]

theorem equalFunc_ct (a b : Bnds) (f : FuncId) (ha : a.length ≤ 1048576) (h : ∀ x ∈ a, ∀ y ∈ b, ACalls pk f [.agg (eL x), .agg (eL y)] [] (fun r o => r = .one (.bool (sameL x y)) ∧ o = [])) :
    ACalls pk 130 [.one (.fs (a.map eL)), .one (.fs (b.map eL)), .one (.fn f [])] [] (fun r o => r = .one (.bool (sameB a b)) ∧ o = []) := by
  refine acalls_of_body Tryz.func130 rfl (by kernel_rfl) rfl ?_
  refine rn rfl ?_
  refine goal_cond rfl (fun h0 => ?_) (fun h0 => ?_) <;> simp only [List.length_map, bne_iff_ne, ne_eq, bne_eq_false_iff_eq] at h0
  · refine rn rfl (fin_is [] rfl ⟨?_, rfl⟩)
    have : a.length ≠ b.length := by omega
    simp [sameB, this]
  · have hlen : a.length = b.length := by omega
    refine rn rfl ?_
    refine goal_loop_keep (fun m σ => ∃ (q L : Int) (i : Nat), q = i ∧ L = a.length ∧ i ≤ a.length ∧ m = a.length - i ∧ (∀ (j : Nat) (x y : Slot), a[j]? = some x → b[j]? = some y → j < i → sameL x y = true) ∧
        σ = ⟨[(17, .one (.int .i64 q)), (16, .one (.int .i64 L)), (15, .one (.fs (a.map eL))), (2, .one (.fn f [])), (1, .one (.fs (b.map eL)))], [], []⟩) a.length [17, 16, 15, 2, 1] [] rfl
      ⟨_, _, 0, rfl, by simp, by omega, by omega, fun j x y _ _ hj => by omega, rfl⟩ ?_
    rintro m σ ⟨q, L, i, rfl, rfl, hi, rfl, hall, rfl⟩
    refine rn rfl ?_
    refine goal_cond rfl (fun h1 => ?_) (fun h1 => ?_) <;> (try simp only [gt_iff_lt, ge_iff_le, bne_iff_ne, ne_eq, bne_eq_false_iff_eq, beq_iff_eq, beq_eq_false_iff_ne, Bool.not_eq_true', Bool.not_eq_false', decide_eq_true_eq, decide_eq_false_iff_not, List.length_map] at h1)
    · obtain ⟨x, hx⟩ := at_some (xs := a) (i := i) (by omega)
      obtain ⟨y, hy⟩ := at_some (xs := b) (i := i) (by omega)
      refine rn rfl ?_
      refine goal_did rfl rfl (dA_index (eL x) rfl rfl rfl rfl rfl rfl rfl (by omega) (by (try simp); omega) (map_at (by simpa using hx)) rfl) ?_
      refine rn rfl ?_
      refine goal_did rfl rfl (dA_index (eL y) rfl rfl rfl rfl rfl rfl rfl (by omega) (by (try simp); omega) (map_at (by simpa using hy)) rfl) ?_
      refine rn rfl ?_
      refine goal_step (step_call [] rfl rfl rfl rfl rfl rfl (h x (List.mem_of_getElem? hx) y (List.mem_of_getElem? hy))) ?_
      rintro σ2 ⟨r, o', ⟨rfl, rfl⟩, hσ⟩
      obtain rfl := Option.some.inj hσ
      clear hσ
      refine rn rfl ?_
      refine goal_cond rfl (fun h2 => ?_) (fun h2 => ?_) <;> simp only [Bool.not_eq_true', Bool.not_eq_false'] at h2
      · refine rn rfl (round_ret (fin_is [] rfl ⟨?_, rfl⟩))
        cases hs : sameB a b with
        | false => rfl
        | true => rw [(sameB_iff.1 hs).2 i x y hx hy] at h2; cases h2
      · refine rn rfl ?_
        refine round_keep (a.length - (i + 1)) [17, 16, 15, 2, 1] [] (by omega) rfl ⟨_, _, i + 1, wrap64 (by omega) (by omega), rfl, by omega, rfl, fun j x' y' hx' hy' hj => ?_, rfl⟩
        by_cases hji : j = i
        · subst hji
          rw [hx] at hx'; rw [hy] at hy'
          cases hx'; cases hy'
          exact h2
        · exact hall j x' y' hx' hy' (by omega)
    · refine rn rfl (round_ext ?_)
      refine rn rfl (fin_is [] rfl ⟨?_, rfl⟩)
      rw [sameB_iff.2 ⟨hlen, fun j x y hx hy => hall j x y hx hy (by have := lt_of_some hx; omega)⟩]

theorem isameB_ct (a b : Bnds) (ha : a.length ≤ 1048576) (h1 : ∀ x ∈ a, SmallL x) (h2 : ∀ x ∈ b, SmallL x) : ACalls pk 65 [.agg (eBi a), .agg (eBi b)] [] (fun r o => r = .one (.bool (sameB a b)) ∧ o = []) := by
  refine acalls_of_body Tryz.func65 rfl (by kernel_rfl) rfl ?_
  refine rn rfl ?_
  refine goal_step (step_call [] rfl rfl rfl rfl rfl rfl (equalFunc_ct a b _ ha (fun x hx y hy => sameC_ct x y (h1 x hx) (h2 y hy)))) ?_
  rintro σ2 ⟨r, o', ⟨rfl, rfl⟩, hσ⟩
  obtain rfl := Option.some.inj hσ
  clear hσ
  refine rn rfl ?_
  exact rn rfl (fin_is [] rfl ⟨rfl, rfl⟩)

theorem bound_small {s : Sig} {f : Flat} (hs : OkS s) (hf : OkF f) : (boundQ s f).1.length ≤ 8 ∧ ∀ x ∈ (boundQ s f).1, x.list.length ≤ 8 ∧ x.pairs.length ≤ 8 := by
  have h1 := hf.places
  have h2 := hf.named
  rw [bound_closed hs hf.nodup]
  refine ⟨by simp only [closedQ, List.length_mapIdx]; exact hs.len, fun x hx => ?_⟩
  simp only [closedQ, List.mem_mapIdx] at hx
  obtain ⟨i, hi, rfl⟩ := hx
  unfold giveQ
  split
  · have := List.length_filter_le (fun q : Pair => takesQ s q.name == (i : Int)) f.named
    simp; omega
  · split
    · split <;> simp [zL]
    · exact place1_small _ _ _ _ h1

theorem small_of {x : Slot} (h : x.list.length ≤ 8 ∧ x.pairs.length ≤ 8) : SmallL x := ⟨by omega, by omega⟩

theorem OkS.okName {s : Sig} (h : OkS s) {p : Param} (hp : p ∈ s) : okName p.name = true := by
  have := h.params p hp
  simp only [okQ, Bool.and_eq_true] at this
  exact this.1.1.1.1

theorem bind_ok {s : Sig} {f : Flat} (hs : OkS s) (hf : OkF f) : (BindQ s f).2 = accQ s f := by
  unfold BindQ
  rw [fitQ_iff.2 ⟨hs, hf⟩]
  simp only [Bool.true_and]
  split
  · rename_i h; exact h.symm
  · rename_i h; simpa using h

def hd0 (xs : List Int) : Int := xs.headD 0

def stU (st : Flat × Bool) (px : Param × Slot) : Flat × Bool :=
  if px.1.kind = 2 then (⟨st.1.places ++ px.2.list, st.1.named⟩, st.2)
  else if px.1.kind = 4 then (⟨st.1.places, st.1.named ++ px.2.pairs⟩, st.2)
  else if px.2.given = false then (st.1, st.2 && !placedQ px.1)
  else if placedQ px.1 && st.2 then (⟨st.1.places ++ [hd0 px.2.list], st.1.named⟩, st.2)
  else (⟨st.1.places, st.1.named ++ [⟨px.1.name, hd0 px.2.list⟩]⟩, st.2)

def unbQ (s : Sig) (b : Bnds) : Flat := ((s.zip b).foldl stU (zF, true)).1

structure OkB (s : Sig) (b : Bnds) : Prop where
  len : b.length = s.length
  few : s.length ≤ 8
  kinds : ∀ p ∈ s, 0 ≤ p.kind ∧ p.kind ≤ 4
  one : ∀ (i : Nat) (p : Param) (x : Slot), s[i]? = some p → b[i]? = some x → singleQ p = true → x.given = true → ∃ v, x.list = [v]
  size : ∀ x ∈ b, x.list.length ≤ 1000 ∧ x.pairs.length ≤ 1000

theorem stU_len (st : Flat × Bool) (p : Param) (x : Slot) (h : x.list.length ≤ 1000 ∧ x.pairs.length ≤ 1000) : (stU st (p, x)).1.places.length ≤ st.1.places.length + 1000 ∧ (stU st (p, x)).1.named.length ≤ st.1.named.length + 1000 := by
  unfold stU
  simp only
  split
  · simp; omega
  · split
    · simp; omega
    · split
      · simp
      · split <;> simp

theorem unb_len (b : Bnds) (hb : ∀ x ∈ b, x.list.length ≤ 1000 ∧ x.pairs.length ≤ 1000) : ∀ (zs : List (Param × Slot)) (st : Flat × Bool), (∀ z ∈ zs, z.2 ∈ b) → (zs.foldl stU st).1.places.length ≤ st.1.places.length + 1000 * zs.length ∧ (zs.foldl stU st).1.named.length ≤ st.1.named.length + 1000 * zs.length
  | [], st, _ => by simp
  | z :: zs, st, h => by
    have h1 := unb_len b hb zs (stU st z) (fun y hy => h y (by simp [hy]))
    have h2 := stU_len st z.1 z.2 (hb _ (h z (by simp)))
    rw [List.foldl_cons]
    simp only [List.length_cons]
    have e : stU st z = stU st (z.1, z.2) := rfl
    rw [← e] at h2
    omega

theorem kind_split {p : Param} (h : 0 ≤ p.kind ∧ p.kind ≤ 4) : placedQ p = true ∨ p.kind = 2 ∨ p.kind = 3 ∨ p.kind = 4 := by
  rw [placed_kind]; omega

theorem iunbind_ct (s : Sig) (b : Bnds) (h : OkB s b) : ACalls pk 99 [.agg (eG s), .agg (eBi b)] [] (fun r o => r = rF (unbQ s b) ∧ o = oF (unbQ s b)) := by
  have hlen := h.len
  have hfew := h.few
  have hzl : (s.zip b).length = s.length := by simp [hlen]
  refine acalls_of_body Tryz.func99 rfl (by kernel_rfl) rfl ?_
  refine rn rfl ?_
  refine goal_weakCod (Weak.adoptO 3 0 1) ?_
  refine goal_weakCod (Weak.adoptO 3 1 2) ?_
  refine goal_loop_keep (fun m σ => ∃ (q L : Int) (i l1 l2 : Nat) (ob : Bool) (F : Flat), q = i ∧ L = s.length ∧ i ≤ s.length ∧ m = s.length - i ∧ l1 = F.places.length ∧ l2 = F.named.length ∧ (F, ob) = ((s.zip b).take i).foldl stU (zF, true) ∧
      σ = ⟨[(13, .one (.int .i64 q)), (12, .one (.int .i64 L)), (11, .one (.fs (s.map eQ))), (6, .one (.bool ob)), (5, .one (.op 2 0 0)), (4, .one (.op 1 0 0)), (3, .one (.op 0 0 0))],
        [some ⟨1, [eBi b], false, false, true⟩, some ⟨2, [[.fs [], .fs []]], false, false, true⟩, some ⟨2, [[.os 3 0 l1 l1, .os 4 0 l2 l2]], false, false, true⟩, ownI F.places, ownP F.named], []⟩) s.length [13, 12, 11, 6, 5, 4, 3] [1, 2, 3, 4, 5] rfl
    ⟨_, _, 0, 0, 0, _, zF, rfl, ?_, by omega, by omega, rfl, rfl, rfl, rfl⟩ ?_
  · simp
  rintro m σ ⟨q, L, i, l1, l2, ob, F, rfl, rfl, hi, rfl, rfl, rfl, hF, rfl⟩
  have hln := unb_len b h.size ((s.zip b).take i) (zF, true) (fun z hz => by
    have := List.mem_of_mem_take hz
    exact (List.of_mem_zip this).2)
  rw [← hF] at hln
  simp only [List.length_take, hzl, zF, List.length_nil] at hln
  refine rn rfl ?_
  refine goal_cond rfl (fun hc => ?_) (fun hc => ?_) <;> (try simp only [gt_iff_lt, ge_iff_le, bne_iff_ne, ne_eq, bne_eq_false_iff_eq, beq_iff_eq, beq_eq_false_iff_ne, Bool.not_eq_true', Bool.not_eq_false', decide_eq_true_eq, decide_eq_false_iff_not, List.length_map] at hc)
  · obtain ⟨p, hp⟩ := at_some (xs := s) (i := i) (by omega)
    obtain ⟨x, hx⟩ := at_some (xs := b) (i := i) (by omega)
    have hsz := h.size x (List.mem_of_getElem? hx)
    have hz : (s.zip b)[i]? = some (p, x) := by rw [List.getElem?_zip_eq_some]; exact ⟨hp, hx⟩
    have hst : ((s.zip b).take (i + 1)).foldl stU (zF, true) = stU (F, ob) (p, x) := by rw [foldl_take_succ _ _ hz, ← hF]
    have hone := h.one i p x hp hx
    have hk := h.kinds p (List.mem_of_getElem? hp)
    refine rn rfl ?_
    refine goal_did rfl rfl (dA_index (eQ p) rfl rfl rfl rfl rfl rfl rfl (by omega) (by (try simp); omega) (map_at (by simpa using hp)) rfl) ?_
    refine rn rfl ?_
    refine goal_did rfl rfl (dA_index (eL x) rfl rfl rfl rfl rfl rfl rfl (by omega) (by (try simp); omega) (map_at (by simpa using hx)) rfl) ?_
    refine rn rfl ?_
    cases hpl : placedQ p with
    | true =>
      have hk2 : p.kind ≠ 2 ∧ p.kind ≠ 4 := by rw [placed_kind] at hpl; omega
      refine goal_step (step_call [] rfl rfl rfl rfl rfl rfl (iplaced_ct p)) ?_
      rintro σ2 ⟨r, o', ⟨rfl, rfl⟩, hσ⟩
      obtain rfl := Option.some.inj hσ
      clear hσ
      refine rn rfl ?_
      refine goal_guard rfl rfl rfl (fun _ => ?_) (fun h0 => by rw [hpl] at h0; cases h0)
      refine rn rfl ?_
      refine goal_guard rfl rfl rfl (fun ho => ?_) (fun ho => ?_) <;> (try simp only [gt_iff_lt, ge_iff_le, bne_iff_ne, ne_eq, bne_eq_false_iff_eq, beq_iff_eq, beq_eq_false_iff_ne, Bool.not_eq_true', Bool.not_eq_false', decide_eq_true_eq, decide_eq_false_iff_not, List.length_map] at ho)
      · subst ho
        refine rn rfl ?_
        refine goal_cond rfl (fun hg => ?_) (fun hg => ?_) <;> (try simp only [gt_iff_lt, ge_iff_le, bne_iff_ne, ne_eq, bne_eq_false_iff_eq, beq_iff_eq, beq_eq_false_iff_ne, Bool.not_eq_true', Bool.not_eq_false', decide_eq_true_eq, decide_eq_false_iff_not, List.length_map] at hg)
        · obtain ⟨v, hv⟩ := hone (by simp [singleQ, hpl]) hg
          refine rn rfl ?_
          refine goal_cond rfl (fun _ => ?_) (fun h0 => by rw [hg] at h0; cases h0)
          refine rn rfl ?_
          refine goal_did rfl rfl (dA_append (old := (F.places).map eI) (rows := (x.list : List Int).map eI) (((F.places) ++ (x.list : List Int)).map eI) (F.places.length + x.list.length) true (Dst.own rfl rfl rfl rfl rfl (by first | (simp; done) | (simp; omega)) (whole (by first | (simp; done) | (simp; omega)))) (Src.fs rfl) rfl rfl rfl rfl rfl rfl rfl rfl (rows_len eI_len _) (rows_len eI_len _) (by (try simp only [List.length_map, List.length_append, List.length_cons, List.length_nil, List.length_take, List.length_drop]); show _ * 8 ≤ _; omega) (by first | (simp; done) | (simp; omega)) (by simp) (by first | (simp; done) | (simp; omega)) (fun _ => noOwnR_map _ eI_noOwn _)) ?_
          refine rn rfl ?_
          refine round_keep (s.length - (i + 1)) [13, 12, 11, 6, 5, 4, 3] [0, 1, 2, 7, 4] (by omega) rfl ⟨_, _, i + 1, F.places.length + x.list.length, F.named.length, true, ⟨F.places ++ x.list, F.named⟩, wrap64 (by omega) (by omega), rfl, by omega, rfl, by simp, by simp, by rw [hst]; simp [stU, hk2.1, hk2.2, hpl, hg, hv, hd0], rfl⟩
        · refine rn rfl ?_
          refine goal_cond rfl (fun h0 => by simp at h0; omega) (fun _ => ?_)
          refine rn rfl ?_
          refine goal_step (step_call [] rfl rfl rfl rfl rfl rfl (iplaced_ct p)) ?_
          rintro σ2 ⟨r, o', ⟨rfl, rfl⟩, hσ⟩
          obtain rfl := Option.some.inj hσ
          clear hσ
          refine rn rfl ?_
          refine goal_guard rfl rfl rfl (fun _ => ?_) (fun h0 => by rw [hpl] at h0; cases h0)
          refine rn rfl ?_
          refine goal_cond rfl (fun _ => ?_) (fun h0 => by simp [hg] at h0)
          refine rn rfl ?_
          refine round_keep (s.length - (i + 1)) [13, 12, 11, 6, 5, 4, 3] [0, 1, 2, 3, 4] (by omega) rfl ⟨_, _, i + 1, F.places.length, F.named.length, false, F, wrap64 (by omega) (by omega), rfl, by omega, rfl, by simp, by simp, by rw [hst]; simp [stU, hk2.1, hk2.2, hpl, hg], rfl⟩
      · subst ho
        refine rn rfl ?_
        refine goal_cond rfl (fun h0 => by simp at h0; omega) (fun _ => ?_)
        refine rn rfl ?_
        refine goal_step (step_call [] rfl rfl rfl rfl rfl rfl (iplaced_ct p)) ?_
        rintro σ2 ⟨r, o', ⟨rfl, rfl⟩, hσ⟩
        obtain rfl := Option.some.inj hσ
        clear hσ
        refine rn rfl ?_
        refine goal_guard rfl rfl rfl (fun _ => ?_) (fun h0 => by rw [hpl] at h0; cases h0)
        refine rn rfl ?_
        refine goal_cond rfl (fun hg => ?_) (fun hg => ?_) <;> (try simp only [gt_iff_lt, ge_iff_le, bne_iff_ne, ne_eq, bne_eq_false_iff_eq, beq_iff_eq, beq_eq_false_iff_ne, Bool.not_eq_true', Bool.not_eq_false', decide_eq_true_eq, decide_eq_false_iff_not, List.length_map] at hg)
        · refine rn rfl ?_
          refine round_keep (s.length - (i + 1)) [13, 12, 11, 6, 5, 4, 3] [0, 1, 2, 3, 4] (by omega) rfl ⟨_, _, i + 1, F.places.length, F.named.length, false, F, wrap64 (by omega) (by omega), rfl, by omega, rfl, by simp, by simp, by rw [hst]; simp [stU, hk2.1, hk2.2, hpl, hg], rfl⟩
        · refine rn rfl ?_
          refine goal_step (step_call [] rfl rfl rfl rfl rfl rfl (isingle_ct p)) ?_
          rintro σ2 ⟨r, o', ⟨rfl, rfl⟩, hσ⟩
          obtain rfl := Option.some.inj hσ
          clear hσ
          refine rn rfl ?_
          refine goal_guard rfl rfl rfl (fun _ => ?_) (fun h0 => by simp [singleQ, hpl] at h0)
          refine rn rfl ?_
          refine goal_cond rfl (fun _ => ?_) (fun h0 => by rw [hg] at h0; cases h0)
          obtain ⟨v, hv⟩ := hone (by simp [singleQ, hpl]) hg
          refine rn rfl ?_
          refine goal_drawL [2, 5, 6] [12] 13 rfl ?_
          refine drnL [0, 1, 2, 3, 4, 5] (by kernel_rfl) (by kernel_rfl) rfl rfl ?_
          refine AHL_did 6 rfl (by kernel_rfl) (by kernel_rfl) (by kernel_rfl) (by kernel_rfl) rfl rfl (dA_index (eI v) rfl rfl rfl rfl rfl rfl rfl (by omega) (by simp [hv]) (by simp [hv]) rfl) ?_
          refine drnL [7, 8] (by kernel_rfl) (by kernel_rfl) rfl rfl ?_
          refine AHL_oneDid 9 rfl (by kernel_rfl) rfl rfl (dA_step rfl) (mdOk rfl) ?_
          refine AHL_oneDid 10 rfl (by kernel_rfl) rfl rfl (dA_append (old := (F.named).map eP) (rows := ([⟨p.name, v⟩] : List Pair).map eP) (((F.named) ++ ([⟨p.name, v⟩] : List Pair)).map eP) (F.named.length + 1) true (Dst.own rfl rfl rfl rfl rfl (by first | (simp; done) | (simp; omega)) (whole (by first | (simp; done) | (simp; omega)))) (Src.os rfl rfl (Nat.le_refl 1) rfl) rfl rfl rfl rfl rfl rfl rfl rfl (rows_len eP_len _) (rows_len eP_len _) (by (try simp only [List.length_map, List.length_append, List.length_cons, List.length_nil, List.length_take, List.length_drop]); show _ * 24 ≤ _; omega) (by first | (simp; done) | (simp; omega)) (by simp) (by first | (simp; done) | (simp; omega)) (fun _ => noOwnR_map _ eP_noOwn _)) (mdOk rfl) ?_
          refine drnL [11] (by kernel_rfl) (by kernel_rfl) rfl rfl ?_
          refine AHL_lateDid 12 rfl (by kernel_rfl) rfl rfl (dA_step rfl) ?_
          refine AH_end (by kernel_rfl) ?_
          refine rn rfl ?_
          refine round_keep (s.length - (i + 1)) [13, 12, 11, 6, 5, 4, 3] [0, 1, 2, 3, 8] (by omega) rfl ⟨_, _, i + 1, F.places.length, F.named.length + 1, false, ⟨F.places, F.named ++ [⟨p.name, v⟩]⟩, wrap64 (by omega) (by omega), rfl, by omega, rfl, by simp, by simp, by rw [hst]; simp [stU, hk2.1, hk2.2, hpl, hg, hv, hd0], rfl⟩
    | false =>
      refine goal_step (step_call [] rfl rfl rfl rfl rfl rfl (iplaced_ct p)) ?_
      rintro σ2 ⟨r, o', ⟨rfl, rfl⟩, hσ⟩
      obtain rfl := Option.some.inj hσ
      clear hσ
      refine rn rfl ?_
      refine goal_guard rfl rfl rfl (fun h0 => by rw [hpl] at h0; cases h0) (fun _ => ?_)
      refine rn rfl ?_
      refine goal_cond rfl (fun h2 => ?_) (fun h2 => ?_) <;> (try simp only [gt_iff_lt, ge_iff_le, bne_iff_ne, ne_eq, bne_eq_false_iff_eq, beq_iff_eq, beq_eq_false_iff_ne, Bool.not_eq_true', Bool.not_eq_false', decide_eq_true_eq, decide_eq_false_iff_not, List.length_map] at h2)
      · refine rn rfl ?_
        refine goal_did rfl rfl (dA_append (old := (F.places).map eI) (rows := (x.list : List Int).map eI) (((F.places) ++ (x.list : List Int)).map eI) (F.places.length + x.list.length) true (Dst.own rfl rfl rfl rfl rfl (by first | (simp; done) | (simp; omega)) (whole (by first | (simp; done) | (simp; omega)))) (Src.fs rfl) rfl rfl rfl rfl rfl rfl rfl rfl (rows_len eI_len _) (rows_len eI_len _) (by (try simp only [List.length_map, List.length_append, List.length_cons, List.length_nil, List.length_take, List.length_drop]); show _ * 8 ≤ _; omega) (by first | (simp; done) | (simp; omega)) (by simp) (by first | (simp; done) | (simp; omega)) (fun _ => noOwnR_map _ eI_noOwn _)) ?_
        refine rn rfl ?_
        refine round_keep (s.length - (i + 1)) [13, 12, 11, 6, 5, 4, 3] [0, 1, 2, 7, 4] (by omega) rfl ⟨_, _, i + 1, F.places.length + x.list.length, F.named.length, ob, ⟨F.places ++ x.list, F.named⟩, wrap64 (by omega) (by omega), rfl, by omega, rfl, by simp, by simp, by rw [hst]; simp [stU, h2], rfl⟩
      · refine rn rfl ?_
        refine goal_step (step_call [] rfl rfl rfl rfl rfl rfl (iplaced_ct p)) ?_
        rintro σ2 ⟨r, o', ⟨rfl, rfl⟩, hσ⟩
        obtain rfl := Option.some.inj hσ
        clear hσ
        refine rn rfl ?_
        refine goal_guard rfl rfl rfl (fun h0 => by rw [hpl] at h0; cases h0) (fun _ => ?_)
        refine rn rfl ?_
        refine goal_step (step_call [] rfl rfl rfl rfl rfl rfl (isingle_ct p)) ?_
        rintro σ2 ⟨r, o', ⟨rfl, rfl⟩, hσ⟩
        obtain rfl := Option.some.inj hσ
        clear hσ
        refine rn rfl ?_
        refine goal_guard rfl rfl rfl (fun h3 => ?_) (fun h3 => ?_) <;> (try simp only [gt_iff_lt, ge_iff_le, bne_iff_ne, ne_eq, bne_eq_false_iff_eq, beq_iff_eq, beq_eq_false_iff_ne, Bool.not_eq_true', Bool.not_eq_false', decide_eq_true_eq, decide_eq_false_iff_not, List.length_map] at h3)
        · have h4 : p.kind ≠ 4 := by rw [single_kind] at h3; omega
          refine rn rfl ?_
          refine goal_cond rfl (fun hg => ?_) (fun hg => ?_) <;> (try simp only [gt_iff_lt, ge_iff_le, bne_iff_ne, ne_eq, bne_eq_false_iff_eq, beq_iff_eq, beq_eq_false_iff_ne, Bool.not_eq_true', Bool.not_eq_false', decide_eq_true_eq, decide_eq_false_iff_not, List.length_map] at hg)
          · obtain ⟨v, hv⟩ := hone h3 hg
            refine rn rfl ?_
            refine goal_drawL [2, 5, 6] [12] 13 rfl ?_
            refine drnL [0, 1, 2, 3, 4, 5] (by kernel_rfl) (by kernel_rfl) rfl rfl ?_
            refine AHL_did 6 rfl (by kernel_rfl) (by kernel_rfl) (by kernel_rfl) (by kernel_rfl) rfl rfl (dA_index (eI v) rfl rfl rfl rfl rfl rfl rfl (by omega) (by simp [hv]) (by simp [hv]) rfl) ?_
            refine drnL [7, 8] (by kernel_rfl) (by kernel_rfl) rfl rfl ?_
            refine AHL_oneDid 9 rfl (by kernel_rfl) rfl rfl (dA_step rfl) (mdOk rfl) ?_
            refine AHL_oneDid 10 rfl (by kernel_rfl) rfl rfl (dA_append (old := (F.named).map eP) (rows := ([⟨p.name, v⟩] : List Pair).map eP) (((F.named) ++ ([⟨p.name, v⟩] : List Pair)).map eP) (F.named.length + 1) true (Dst.own rfl rfl rfl rfl rfl (by first | (simp; done) | (simp; omega)) (whole (by first | (simp; done) | (simp; omega)))) (Src.os rfl rfl (Nat.le_refl 1) rfl) rfl rfl rfl rfl rfl rfl rfl rfl (rows_len eP_len _) (rows_len eP_len _) (by (try simp only [List.length_map, List.length_append, List.length_cons, List.length_nil, List.length_take, List.length_drop]); show _ * 24 ≤ _; omega) (by first | (simp; done) | (simp; omega)) (by simp) (by first | (simp; done) | (simp; omega)) (fun _ => noOwnR_map _ eP_noOwn _)) (mdOk rfl) ?_
            refine drnL [11] (by kernel_rfl) (by kernel_rfl) rfl rfl ?_
            refine AHL_lateDid 12 rfl (by kernel_rfl) rfl rfl (dA_step rfl) ?_
            refine AH_end (by kernel_rfl) ?_
            refine rn rfl ?_
            refine round_keep (s.length - (i + 1)) [13, 12, 11, 6, 5, 4, 3] [0, 1, 2, 3, 8] (by omega) rfl ⟨_, _, i + 1, F.places.length, F.named.length + 1, ob, ⟨F.places, F.named ++ [⟨p.name, v⟩]⟩, wrap64 (by omega) (by omega), rfl, by omega, rfl, by simp, by simp, by rw [hst]; simp [stU, h2, h4, hpl, hg, hv, hd0], rfl⟩
          · refine rn rfl ?_
            refine goal_cond rfl (fun h0 => by simp at h0; omega) (fun _ => ?_)
            refine rn rfl ?_
            refine round_keep (s.length - (i + 1)) [13, 12, 11, 6, 5, 4, 3] [0, 1, 2, 3, 4] (by omega) rfl ⟨_, _, i + 1, F.places.length, F.named.length, ob, F, wrap64 (by omega) (by omega), rfl, by omega, rfl, by simp, by simp, by rw [hst]; simp [stU, h2, h4, hpl, hg], rfl⟩
        · have h4 : p.kind = 4 := by
            rcases kind_split hk with h0 | h0 | h0 | h0
            · rw [hpl] at h0; cases h0
            · exact absurd h0 h2
            · simp [singleQ, h0] at h3
            · exact h0
          refine rn rfl ?_
          refine goal_cond rfl (fun _ => ?_) (fun h0 => by simp at h0; omega)
          refine rn rfl ?_
          refine goal_did rfl rfl (dA_append (old := (F.named).map eP) (rows := (x.pairs : List Pair).map eP) (((F.named) ++ (x.pairs : List Pair)).map eP) (F.named.length + x.pairs.length) true (Dst.own rfl rfl rfl rfl rfl (by first | (simp; done) | (simp; omega)) (whole (by first | (simp; done) | (simp; omega)))) (Src.fs rfl) rfl rfl rfl rfl rfl rfl rfl rfl (rows_len eP_len _) (rows_len eP_len _) (by (try simp only [List.length_map, List.length_append, List.length_cons, List.length_nil, List.length_take, List.length_drop]); show _ * 24 ≤ _; omega) (by first | (simp; done) | (simp; omega)) (by simp) (by first | (simp; done) | (simp; omega)) (fun _ => noOwnR_map _ eP_noOwn _)) ?_
          refine rn rfl ?_
          refine round_keep (s.length - (i + 1)) [13, 12, 11, 6, 5, 4, 3] [0, 1, 2, 3, 7] (by omega) rfl ⟨_, _, i + 1, F.places.length, F.named.length + x.pairs.length, ob, ⟨F.places, F.named ++ x.pairs⟩, wrap64 (by omega) (by omega), rfl, by omega, rfl, by simp, by simp, by rw [hst]; simp [stU, h4], rfl⟩
  · refine rn rfl (round_ext ?_)
    have hfin : unbQ s b = F := by
      unfold unbQ
      rw [List.take_of_length_le (by omega)] at hF
      rw [← hF]
    rw [hfin]
    refine rn rfl ?_
    refine goal_step (step_callE [] rfl rfl rfl rfl rfl rfl (cons_eq (asFl F) rfl) (copyOf_ct F (by omega) (by omega))) ?_
    rintro σ2 ⟨r, o', ⟨rfl, rfl⟩, hσ⟩
    obtain rfl := Option.some.inj hσ
    clear hσ
    refine rn rfl ?_
    exact rn rfl (fin_is [5, 6] rfl ⟨rfl, rfl⟩)

def SS (xs : List Str) : Prop := xs.Pairwise (fun a b => ltS a b = true)

theorem SS.nodup {xs : List Str} (h : SS xs) : xs.Nodup := List.Pairwise.imp (fun hab he => by rw [he, ltS_irrefl] at hab; cases hab) h

theorem SS.ext {a b : List Str} (ha : SS a) (hb : SS b) (h : ∀ x, x ∈ a ↔ x ∈ b) : a = b := by
  refine List.Perm.eq_of_pairwise (le := fun x y => ltS x y = true) ?_ ha hb ((List.perm_ext_iff_of_nodup ha.nodup hb.nodup).2 h)
  intro x y _ _ h1 h2
  rw [ltS_asymm h1] at h2; cases h2

theorem bindQ_ok {s : Sig} {f : Flat} (h : (BindQ s f).2 = true) : OkS s ∧ OkF f ∧ accQ s f = true ∧ BindQ s f = ((boundQ s f).1, true) := by
  unfold BindQ at h ⊢
  split at h
  · rename_i h1
    have h2 := h1
    simp only [Bool.and_eq_true] at h2
    obtain ⟨hs, hf⟩ := fitQ_iff.1 h2.1
    exact ⟨hs, hf, h2.2, by rw [if_pos h1]⟩
  · cases h

theorem iunbindD_ct (s : Sig) (b : Bnds) (h : OkB s b) : ACalls pk 99 [.agg (eG s), .agg (eBi b)] [] (fun r o => r = .agg (eF (unbQ s b)) ∧ o = []) :=
  (iunbind_ct s b h).told [] (by rintro r o ⟨rfl, rfl⟩; exact ⟨_, _, rfl, asFl _, rfl⟩)

theorem give_one {s : Sig} {pl : List Int} {qs : List Pair} {i : Nat} {p : Param} (h : singleQ p = true) : ((giveQ s pl qs i p).given = true → ∃ v, (giveQ s pl qs i p).list = [v]) ∧ ((giveQ s pl qs i p).given = false → (giveQ s pl qs i p).list = []) ∧
    (p.kind = 0 → (giveQ s pl qs i p).given = decide (i < pl.length)) := by
  rw [single_kind] at h
  unfold giveQ
  rw [if_neg (by omega)]
  split
  · rename_i hn
    simp only [Bool.and_eq_true] at hn
    have hk := named_kind.1 hn.1
    split
    · exact ⟨fun _ => ⟨_, rfl⟩, (fun h0 => by cases h0), (fun h0 => by omega)⟩
    · exact ⟨(fun h0 => by cases h0), (fun _ => rfl), (fun h0 => by omega)⟩
  · unfold place1
    by_cases hb : (placedQ p && decide (i < pl.length)) = true
    · rw [if_pos hb]
      simp only [Bool.and_eq_true] at hb
      exact ⟨fun _ => ⟨_, rfl⟩, (fun h0 => by cases h0), fun _ => hb.2.symm⟩
    · rw [if_neg hb]
      have h2 : (p.kind == 2) = false := by simp; omega
      simp only [h2]
      refine ⟨(fun h0 => by cases h0), (fun _ => rfl), fun h0 => ?_⟩
      have hp : placedQ p = true := placed_kind.2 (.inl h0)
      rw [hp] at hb
      show false = _
      simpa using hb

theorem bound_at {s : Sig} {f : Flat} (hs : OkS s) (hf : OkF f) {i : Nat} {p : Param} {x : Slot} (hp : s[i]? = some p) (hx : (boundQ s f).1[i]? = some x) : x = giveQ s f.places f.named i p := by
  rw [bound_closed hs hf.nodup] at hx
  simp only [closedQ, List.getElem?_mapIdx, hp, Option.map_some, Option.some.injEq] at hx
  exact hx.symm

/-- What a call that is accepted gives to one parameter. -/
structure Given (s : Sig) (f : Flat) (b : Bnds) : Prop where
  sig : OkS s
  flat : OkF f
  acc : accQ s f = true
  eq : b = (boundQ s f).1

section

variable {s : Sig} {f : Flat} {b : Bnds}

theorem Given.len (h : Given s f b) : b.length = s.length := by rw [h.eq, boundQ_len]

theorem Given.at (h : Given s f b) {i : Nat} {p : Param} {x : Slot} (hp : s[i]? = some p) (hx : b[i]? = some x) : x = giveQ s f.places f.named i p := by
  rw [h.eq] at hx
  exact bound_at h.sig h.flat hp hx

theorem Given.get (h : Given s f b) {i : Nat} {p : Param} (hp : s[i]? = some p) : b[i]? = some (giveQ s f.places f.named i p) := by
  obtain ⟨x, hx⟩ := at_some (xs := b) (i := i) (by rw [h.len]; exact lt_of_some hp)
  rw [hx, h.at hp hx]

/-- A parameter that is found by its place alone has got a value only by its place; then all ahead of it have. -/
theorem Given.before (h : Given s f b) {i j : Nat} {p q : Param} (hp : s[i]? = some p) (hq : s[j]? = some q) (hk : p.kind = 0) (hji : j < i) (hg : (giveQ s f.places f.named i p).given = true) : (giveQ s f.places f.named j q).given = true := by
  have h1 := (give_one (s := s) (pl := f.places) (qs := f.named) (i := i) (single_kind.2 (.inl hk))).2.2 hk
  rw [hg] at h1
  have hlt : i < f.places.length := by simpa using h1.symm
  have hP := (h.sig.placed_iff hp).1 (placed_kind.2 (.inl hk))
  have hpl := (h.sig.placed_iff hq).2 (by omega)
  have hs : singleQ q = true := by rw [single_kind]; rw [placed_kind] at hpl; omega
  rw [give_given hs]
  have : byPl f.places j q = true := by simp [byPl, hpl]; omega
  rw [this]; rfl

/-- The walk of 'unbind', prefix by prefix. -/
structure UnbAt (s : Sig) (b : Bnds) (i : Nat) (F : Flat) (op : Bool) (V R : List Int) (X Y : List Pair) : Prop where
  places : F.places = V ++ R
  named : F.named = X ++ Y
  vlen : V.length ≤ min i (placesQ s)
  vals : ∀ (j : Nat) (x : Slot), j < V.length → b[j]? = some x → x.given = true ∧ V[j]? = some (hd0 x.list)
  opn : op = true → V.length = min i (placesQ s)
  shut : op = false → V.length < placesQ s ∧ V.length < i ∧ ∀ x, b[V.length]? = some x → x.given = false
  rest : ∀ (j : Nat) (p : Param) (x : Slot), j < i → s[j]? = some p → b[j]? = some x → p.kind = 2 → R = x.list
  rest0 : (∀ (j : Nat) (p : Param), j < i → s[j]? = some p → p.kind ≠ 2) → R = []
  map : ∀ (j : Nat) (p : Param) (x : Slot), j < i → s[j]? = some p → b[j]? = some x → p.kind = 4 → Y = x.pairs
  map0 : (∀ (j : Nat) (p : Param), j < i → s[j]? = some p → p.kind ≠ 4) → Y = []
  mem : ∀ q : Pair, q ∈ X ↔ ∃ (j : Nat) (p : Param) (x : Slot), j < i ∧ s[j]? = some p ∧ b[j]? = some x ∧ x.given = true ∧ (p.kind = 3 ∨ (p.kind = 1 ∧ V.length < j)) ∧ q = ⟨p.name, hd0 x.list⟩
  nodup : (namesOf X).Nodup

theorem Given.unbAt (h : Given s f b) : ∀ i, i ≤ s.length → ∃ F op V R X Y, ((s.zip b).take i).foldl stU (zF, true) = (F, op) ∧ UnbAt s b i F op V R X Y
  | 0, _ => ⟨zF, true, [], [], [], [], by simp, ⟨rfl, rfl, by simp, fun j x hj => by simp at hj, fun _ => by simp, (fun h0 => by cases h0), fun j p x hj => by omega, fun _ => rfl, fun j p x hj => by omega, fun _ => rfl, fun q => by
      constructor
      · intro h0; simp at h0
      · rintro ⟨j, p, x, hj, _⟩; omega, by simp [namesOf]⟩⟩
  | i + 1, hi => by
    obtain ⟨F, op, V, R, X, Y, hfold, I⟩ := Given.unbAt h i (by omega)
    obtain ⟨p, hp⟩ := at_some (xs := s) (i := i) (by omega)
    have hx := h.get hp
    generalize hxe : giveQ s f.places f.named i p = x at hx
    have hz : (s.zip b)[i]? = some (p, x) := List.getElem?_zip_eq_some.2 ⟨hp, hx⟩
    have hst : ((s.zip b).take (i + 1)).foldl stU (zF, true) = stU (F, op) (p, x) := by rw [foldl_take_succ _ _ hz, hfold]
    rw [hst]
    have hP := h.sig.placed_iff hp
    have hkr := h.sig.kindRange (List.mem_of_getElem? hp)
    have upto : ∀ (j : Nat) (q : Param), j < i + 1 → s[j]? = some q → j < i ∨ (j = i ∧ q = p) := fun j q hj hq => by
      by_cases hji : j = i
      · subst hji; rw [hp] at hq; cases hq; exact .inr ⟨rfl, rfl⟩
      · exact .inl (by omega)
    have xat : ∀ (j : Nat) (y : Slot), j = i → b[j]? = some y → y = x := fun j y hj hy => by subst hj; rw [hx] at hy; cases hy; rfl
    have before : ∀ (j : Nat) (q : Param), j < i → s[j]? = some q → q.kind ≤ p.kind := fun j q hj hq => h.sig.sorted (i - j) j q p hq (by rw [show j + (i - j) = i by omega]; exact hp)
    have notin : ∀ q ∈ X, q.name ≠ p.name := fun q hq he => by
      obtain ⟨j, r, y, hj, hr, _, _, _, rfl⟩ := (I.mem q).1 hq
      have := name_inj h.sig hr hp he
      omega
    have memStay : (x.given = true → ¬ (p.kind = 3 ∨ (p.kind = 1 ∧ V.length < i))) → ∀ (V' : List Int), V.length ≤ V'.length → (∀ j q, j < i → s[j]? = some q → q.kind = 1 → V.length < j → V'.length < j) → ∀ q : Pair, q ∈ X ↔ ∃ (j : Nat) (p : Param) (x : Slot), j < i + 1 ∧ s[j]? = some p ∧ b[j]? = some x ∧ x.given = true ∧ (p.kind = 3 ∨ (p.kind = 1 ∧ V'.length < j)) ∧ q = ⟨p.name, hd0 x.list⟩ := fun hno V' hV hV' q => by
      rw [I.mem q]
      constructor
      · rintro ⟨j, r, y, hj, hr, hy, hg, hk, rfl⟩
        refine ⟨j, r, y, by omega, hr, hy, hg, ?_, rfl⟩
        rcases hk with hk | ⟨hk, hl⟩
        · exact .inl hk
        · exact .inr ⟨hk, hV' j r hj hr hk hl⟩
      · rintro ⟨j, r, y, hj, hr, hy, hg, hk, rfl⟩
        rcases upto j r hj hr with hji | ⟨rfl, rfl⟩
        · refine ⟨j, r, y, hji, hr, hy, hg, ?_, rfl⟩
          rcases hk with hk | ⟨hk, hl⟩
          · exact .inl hk
          · exact .inr ⟨hk, by omega⟩
        · exfalso
          have := xat j y rfl hy
          subst this
          refine hno hg ?_
          rcases hk with hk | ⟨hk, hl⟩
          · exact .inl hk
          · exact .inr ⟨hk, by omega⟩
    by_cases hk2 : p.kind = 2
    · have hR : R = [] := I.rest0 fun j q hj hq hk => by
        have := h.sig.one hq hp (by omega) (by simp [singleQ, placedQ, hk2]); omega
      have hnp : ¬ i < placesQ s := fun h0 => by have := hP.2 h0; rw [placed_kind] at this; omega
      have hs' : stU (F, op) (p, x) = (⟨F.places ++ x.list, F.named⟩, op) := by simp [stU, hk2]
      rw [hs']
      refine ⟨_, op, V, x.list, X, Y, rfl, ⟨by rw [I.places, hR, List.append_nil], I.named, by have := I.vlen; omega, I.vals, fun h0 => by rw [I.opn h0]; omega, fun h0 => ?_, fun j q y hj hq hy hk => ?_, fun h0 => absurd hk2 (h0 i p (by omega) hp), fun j q y hj hq hy hk => ?_, fun h0 => I.map0 fun j q hj hq => h0 j q (by omega) hq, memStay (fun _ h0 => by omega) V (Nat.le_refl _) (fun j q _ _ _ hl => hl), I.nodup⟩⟩
      · obtain ⟨a1, a2, a3⟩ := I.shut h0
        exact ⟨a1, by omega, a3⟩
      · rcases upto j q hj hq with hji | ⟨rfl, rfl⟩
        · have := h.sig.one hq hp (by omega) (by simp [singleQ, placedQ, hk2]); omega
        · rw [xat j y rfl hy]
      · rcases upto j q hj hq with hji | ⟨rfl, rfl⟩
        · exact I.map j q y hji hq hy hk
        · omega
    by_cases hk4 : p.kind = 4
    · have hY : Y = [] := I.map0 fun j q hj hq hk => by
        have := h.sig.one hq hp (by omega) (by simp [singleQ, placedQ, hk4]); omega
      have hnp : ¬ i < placesQ s := fun h0 => by have := hP.2 h0; rw [placed_kind] at this; omega
      have hs' : stU (F, op) (p, x) = (⟨F.places, F.named ++ x.pairs⟩, op) := by simp [stU, hk4]
      rw [hs']
      refine ⟨_, op, V, R, X, x.pairs, rfl, ⟨I.places, by rw [I.named, hY, List.append_nil], by have := I.vlen; omega, I.vals, fun h0 => by rw [I.opn h0]; omega, fun h0 => ?_, fun j q y hj hq hy hk => ?_, fun h0 => I.rest0 fun j q hj hq => h0 j q (by omega) hq, fun j q y hj hq hy hk => ?_, fun h0 => absurd hk4 (h0 i p (by omega) hp), memStay (fun _ h0 => by omega) V (Nat.le_refl _) (fun j q _ _ _ hl => hl), I.nodup⟩⟩
      · obtain ⟨a1, a2, a3⟩ := I.shut h0
        exact ⟨a1, by omega, a3⟩
      · rcases upto j q hj hq with hji | ⟨rfl, rfl⟩
        · exact I.rest j q y hji hq hy hk
        · omega
      · rcases upto j q hj hq with hji | ⟨rfl, rfl⟩
        · have := h.sig.one hq hp (by omega) (by simp [singleQ, placedQ, hk4]); omega
        · rw [xat j y rfl hy]
    have restStay : ∀ (j : Nat) (q : Param) (y : Slot), j < i + 1 → s[j]? = some q → b[j]? = some y → q.kind = 2 → R = y.list := fun j q y hj hq hy hk => by
      rcases upto j q hj hq with hji | ⟨rfl, rfl⟩
      · exact I.rest j q y hji hq hy hk
      · exact absurd hk hk2
    have rest0Stay : (∀ (j : Nat) (q : Param), j < i + 1 → s[j]? = some q → q.kind ≠ 2) → R = [] := fun h0 => I.rest0 fun j q hj hq => h0 j q (by omega) hq
    have mapStay : ∀ (j : Nat) (q : Param) (y : Slot), j < i + 1 → s[j]? = some q → b[j]? = some y → q.kind = 4 → Y = y.pairs := fun j q y hj hq hy hk => by
      rcases upto j q hj hq with hji | ⟨rfl, rfl⟩
      · exact I.map j q y hji hq hy hk
      · exact absurd hk hk4
    have map0Stay : (∀ (j : Nat) (q : Param), j < i + 1 → s[j]? = some q → q.kind ≠ 4) → Y = [] := fun h0 => I.map0 fun j q hj hq => h0 j q (by omega) hq
    have hsg : singleQ p = true := single_kind.2 (by omega)
    cases hg : x.given with
    | false =>
      have hs' : stU (F, op) (p, x) = (F, op && !placedQ p) := by simp [stU, hk2, hk4, hg]
      rw [hs']
      refine ⟨_, _, V, R, X, Y, rfl, ⟨I.places, I.named, by have := I.vlen; omega, I.vals, fun h0 => ?_, fun h0 => ?_, restStay, rest0Stay, mapStay, map0Stay, memStay (fun h0 => by rw [hg] at h0; cases h0) V (Nat.le_refl _) (fun j q _ _ _ hl => hl), I.nodup⟩⟩
      · simp only [Bool.and_eq_true, Bool.not_eq_true'] at h0
        have hnp : ¬ i < placesQ s := fun h1 => by rw [hP.2 h1] at h0; cases h0.2
        rw [I.opn h0.1]; omega
      · cases ho : op with
        | false =>
          obtain ⟨a1, a2, a3⟩ := I.shut ho
          exact ⟨a1, by omega, a3⟩
        | true =>
          rw [ho] at h0
          simp only [Bool.true_and, Bool.not_eq_false'] at h0
          have hip := hP.1 h0
          have hv := I.opn ho
          have hv' : V.length = i := by omega
          refine ⟨by omega, by omega, fun y hy => ?_⟩
          rw [hv'] at hy
          rw [xat i y rfl hy]; exact hg
    | true =>
      by_cases hpo : (placedQ p && op) = true
      · have hs' : stU (F, op) (p, x) = (⟨F.places ++ [hd0 x.list], F.named⟩, op) := by simp [stU, hk2, hk4, hg, hpo]
        rw [hs']
        simp only [Bool.and_eq_true] at hpo
        have hip := hP.1 hpo.1
        have hv := I.opn hpo.2
        have hv' : V.length = i := by omega
        have hR : R = [] := I.rest0 fun j q hj hq hk => by
          have := before j q hj hq
          have h9 := hpo.1
          rw [placed_kind] at h9; omega
        refine ⟨_, op, V ++ [hd0 x.list], R, X, Y, rfl, ⟨by rw [I.places, hR]; simp, I.named, by simp; omega, fun j y hj hy => ?_, fun _ => by simp; omega, fun h0 => (by rw [hpo.2] at h0; cases h0), restStay, rest0Stay, mapStay, map0Stay, ?_, I.nodup⟩⟩
        · simp only [List.length_append, List.length_cons, List.length_nil] at hj
          by_cases hjv : j < V.length
          · obtain ⟨a1, a2⟩ := I.vals j y hjv hy
            exact ⟨a1, by rw [List.getElem?_append_left hjv]; exact a2⟩
          · have hji : j = i := by omega
            have := xat j y hji hy
            subst this
            exact ⟨hg, by rw [List.getElem?_append_right (by omega)]; simp [hji, hv']⟩
        · refine memStay (fun _ h0 => ?_) (V ++ [hd0 x.list]) (by simp) (fun j q hj _ _ hl => by omega)
          have h9 := hpo.1
          rw [placed_kind] at h9
          omega
      · have hs' : stU (F, op) (p, x) = (⟨F.places, F.named ++ [⟨p.name, hd0 x.list⟩]⟩, op) := by simp [stU, hk2, hk4, hg, hpo]
        rw [hs']
        have hY : Y = [] := I.map0 fun j q hj hq hk => by
          have := before j q hj hq; omega
        have hkk : p.kind = 3 ∨ (p.kind = 1 ∧ V.length < i) := by
          by_cases hk3 : p.kind = 3
          · exact .inl hk3
          · have hpl : placedQ p = true := by rw [placed_kind]; rw [single_kind] at hsg; omega
            have ho : op = false := by
              cases ho : op with
              | false => rfl
              | true => rw [hpl, ho] at hpo; exact absurd rfl hpo
            obtain ⟨a1, a2, a3⟩ := I.shut ho
            refine .inr ⟨?_, a2⟩
            refine Classical.byContradiction fun hk1 => ?_
            have hk0 : p.kind = 0 := by rw [placed_kind] at hpl; omega
            obtain ⟨q, hq⟩ := at_some (xs := s) (i := V.length) (by omega)
            have hgq := h.before hp hq hk0 a2 (by rw [hxe]; exact hg)
            have := a3 _ (h.get hq)
            rw [hgq] at this; cases this
        refine ⟨_, op, V, R, X ++ [⟨p.name, hd0 x.list⟩], Y, rfl, ⟨I.places, by rw [I.named, hY]; simp, by have := I.vlen; omega, I.vals, fun h0 => ?_, fun h0 => ?_, restStay, rest0Stay, mapStay, map0Stay, fun q => ?_, ?_⟩⟩
        · have hnp : ¬ i < placesQ s := fun h1 => by rw [hP.2 h1, h0] at hpo; exact hpo rfl
          rw [I.opn h0]; omega
        · obtain ⟨a1, a2, a3⟩ := I.shut h0
          exact ⟨a1, by omega, a3⟩
        · rw [List.mem_append, List.mem_singleton, I.mem q]
          constructor
          · rintro (⟨j, r, y, hj, hr, hy, hgy, hk, rfl⟩ | rfl)
            · exact ⟨j, r, y, by omega, hr, hy, hgy, hk, rfl⟩
            · exact ⟨i, p, x, by omega, hp, hx, hg, hkk, rfl⟩
          · rintro ⟨j, r, y, hj, hr, hy, hgy, hk, rfl⟩
            rcases upto j r hj hr with hji | ⟨rfl, rfl⟩
            · exact .inl ⟨j, r, y, hji, hr, hy, hgy, hk, rfl⟩
            · right; rw [xat j y rfl hy]
        · unfold namesOf
          rw [List.map_append, List.map_cons, List.map_nil]
          refine List.nodup_append.2 ⟨I.nodup, by simp, fun a ha c hc => ?_⟩
          simp only [List.mem_singleton] at hc
          obtain ⟨q, hq, rfl⟩ := List.mem_map.1 ha
          rw [hc]
          exact notin q hq

end

theorem find_uniq {qs : List Pair} {q : Pair} (hnd : (namesOf qs).Nodup) (hq : q ∈ qs) : qs.find? (nameIs q.name) = some q := by
  cases h : qs.find? (nameIs q.name) with
  | none =>
    rw [List.find?_eq_none] at h
    exact absurd (by simp [nameIs]) (h q hq)
  | some r =>
    have h1 := List.mem_of_find?_eq_some h
    have h2 := List.find?_some h
    simp only [nameIs, beq_iff_eq] at h2
    obtain ⟨i, hi⟩ := List.getElem?_of_mem h1
    obtain ⟨j, hj⟩ := List.getElem?_of_mem hq
    have hij : i = j := by
      refine (List.getElem?_inj (l := namesOf qs) (by have := lt_of_some hi; simpa [namesOf] using this) hnd).1 ?_
      unfold namesOf
      rw [List.getElem?_map, List.getElem?_map, hi, hj]
      simp [h2]
    subst hij
    rw [hi] at hj
    exact hj

section

variable {s : Sig} {f g : Flat}

end

end Go.Proofs.YtalplgabhichfaaGreat
