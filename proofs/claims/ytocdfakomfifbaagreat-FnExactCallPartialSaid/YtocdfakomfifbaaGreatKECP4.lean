/- Part 4 of the proof: an abstract machine over the model; contracts of the functions that the law reaches. -/
import Derived.Test.YtocdfakomfifbaaGreatKECP3
set_option linter.unusedVariables false
set_option linter.unusedSimpArgs false
namespace Go.Proofs.YtocdfakomfifbaaGreat
open Go
set_option maxRecDepth 100000
set_option maxHeartbeats 1000000

theorem take_snoc' {α : Type} {xs : List α} {i : Nat} {x : α} (h : xs[i]? = some x) : xs.take i ++ [x] = xs.take (i + 1) := take_snoc h

theorem growI_ct (n : Nat) (hn : n ≤ 4194304) : ACalls pk 142 [.one nilSl, .one (.int .i64 n)] [] (fun r o => ∃ rows kc, r = .one (.os 0 0 0 kc) ∧ o = [some ⟨1, rows, true, false, false⟩] ∧ (n = 0 → rows = [] ∧ kc = 0)) := by
  have hw : IntKind.i64.wrap ((n : Int) - IntKind.i64.wrap (0 - 0)) = n := by rw [show IntKind.i64.wrap (0 - 0) = 0 from rfl, wrap64] <;> omega
  refine acalls_of_body Tryz.func142 rfl (by kernel_rfl) rfl ?_
  refine rn rfl ?_
  refine goal_cond rfl (fun h => ?_) (fun h => ?_) <;> (try simp only [gt_iff_lt, ge_iff_le, bne_iff_ne, ne_eq, bne_eq_false_iff_eq, beq_iff_eq, beq_eq_false_iff_ne, Bool.not_eq_true', Bool.not_eq_false', decide_eq_true_eq, decide_eq_false_iff_not, List.length_map] at h)
  · omega
  · refine rn rfl ?_
    refine goal_did rfl rfl (dA_capNil rfl rfl rfl rfl rfl) ?_
    refine rn rfl ?_
    rw [hw]
    refine goal_cond rfl (fun h2 => ?_) (fun h2 => ?_) <;> (try simp only [gt_iff_lt, ge_iff_le, bne_iff_ne, ne_eq, bne_eq_false_iff_eq, beq_iff_eq, beq_eq_false_iff_ne, Bool.not_eq_true', Bool.not_eq_false', decide_eq_true_eq, decide_eq_false_iff_not, List.length_map] at h2)
    · refine rn rfl ?_
      refine goal_did rfl rfl (dA_capNil rfl rfl rfl rfl rfl) ?_
      refine rn rfl ?_
      refine goal_did rfl rfl (dA_sliceNil rfl rfl rfl rfl rfl rfl rfl) ?_
      refine rn rfl ?_
      refine goal_did rfl rfl (dA_growMake n (List.replicate n (eI (0 : Int))) rfl rfl rfl (by omega) rfl rfl rfl rfl rfl rfl rfl rfl (by show n * 8 ≤ _; omega) (by omega) rfl) ?_
      refine rn rfl ?_
      refine goal_did rfl rfl (dA_sliceOwn 0 0 n 0 0 n rfl rfl rfl rfl rfl rfl rfl Bnd.none_ (Bnd.some_ rfl rfl) (.inl ⟨rfl, rfl⟩) (by omega) (by omega) (by omega) (by simp) rfl rfl rfl rfl) ?_
      refine rn rfl ?_
      exact fin_is [0] rfl ⟨_, _, rfl, rfl, fun h0 => by omega⟩
    · refine rn rfl ?_
      exact fin_adopt 4 0 1 [0] rfl ⟨_, _, rfl, rfl, fun _ => ⟨rfl, rfl⟩⟩

theorem concatI_ct (xss : List (List Int)) (hn : xss.length ≤ 1000) (hl : xss.flatten.length ≤ 4194304) :
    ACalls pk 113 [.one (.fs (xss.map fun xs => [.fs (xs.map eI)]))] [] (fun r o => r = .one (.os 0 0 xss.flatten.length xss.flatten.length) ∧ o = [ownI xss.flatten]) := by
  have hpre : ∀ i, (xss.take i).flatten.length ≤ xss.flatten.length := fun i => by
    conv => rhs; rw [← List.take_append_drop i xss, List.flatten_append, List.length_append]
    omega
  have hsucc : ∀ (i : Nat) (xs : List Int), xss[i]? = some xs → (xss.take (i + 1)).flatten = (xss.take i).flatten ++ xs := fun i xs h => by
    rw [← take_snoc' h, List.flatten_append]; simp
  refine acalls_of_body Tryz.func113 rfl (by kernel_rfl) rfl ?_
  refine rn rfl ?_
  refine goal_loop_keep (fun m σ => ∃ (n L q : Int) (i : Nat), n = i ∧ L = xss.length ∧ i ≤ xss.length ∧ m = xss.length - i ∧ q = ((xss.take i).flatten.length : Nat) ∧
      σ = ⟨[(11, .one (.int .i64 n)), (10, .one (.int .i64 L)), (9, .one (.fs (xss.map fun xs => [.fs (xs.map eI)]))), (3, .one (.int .i64 q)), (0, .one (.fs (xss.map fun xs => [.fs (xs.map eI)])))], [], []⟩) xss.length [11, 10, 9, 3, 0] [] rfl
    ⟨_, _, _, 0, rfl, by simp, by omega, by omega, rfl, rfl⟩ ?_
  rintro m σ ⟨n, L, q, i, rfl, rfl, hi, rfl, rfl, rfl⟩
  refine rn rfl ?_
  refine goal_cond rfl (fun h => ?_) (fun h => ?_) <;> (try simp only [gt_iff_lt, ge_iff_le, bne_iff_ne, ne_eq, bne_eq_false_iff_eq, beq_iff_eq, beq_eq_false_iff_ne, Bool.not_eq_true', Bool.not_eq_false', decide_eq_true_eq, decide_eq_false_iff_not, List.length_map] at h)
  · obtain ⟨xs, hxs⟩ := at_some (xs := xss) (i := i) (by omega)
    have h1 := hpre (i + 1)
    have h2 := hsucc i xs hxs
    rw [h2, List.length_append] at h1
    have hw : IntKind.i64.wrap (((xss.take i).flatten.length : Nat) + (xs.length : Int)) = (((xss.take i).flatten ++ xs).length : Nat) := by rw [List.length_append, wrap64] <;> omega
    refine rn rfl ?_
    refine goal_did rfl rfl (dA_index [.fs (xs.map eI)] rfl rfl rfl rfl rfl rfl rfl (by omega) (by simp; omega) (map_at (enc := fun xs : List Int => [C.fs (xs.map eI)]) (by simpa using hxs)) rfl) ?_
    refine rn rfl ?_
    refine goal_cond rfl (fun h0 => ?_) (fun _ => ?_)
    · simp only [List.length_map, decide_eq_true_eq] at h0; rw [hw] at h0; omega
    · refine rn rfl ?_
      refine round_keep (xss.length - (i + 1)) [11, 10, 9, 3, 0] [] (by omega) rfl ⟨_, _, _, i + 1, wrap64 (by omega) (by omega), rfl, by omega, rfl, ?_, rfl⟩
      rw [List.length_map, hw, h2]
  · rw [show i = xss.length by omega, List.take_length]
    refine rn rfl ?_
    refine round_ext ?_
    refine rn rfl ?_
    refine goal_step (step_callRaw rfl rfl rfl rfl rfl rfl (growI_ct xss.flatten.length hl)) ?_
    rintro σ2 ⟨r, o', ⟨rows0, kc0, rfl, rfl, hz⟩, hσ⟩
    obtain rfl := Option.some.inj hσ
    clear hσ
    refine rn rfl ?_
    refine goal_loop_keep (fun m σ => ∃ (n L : Int) (i l kc : Nat) (rows : List (List C)), n = i ∧ L = xss.length ∧ i ≤ xss.length ∧ m = xss.length - i ∧ l = (xss.take i).flatten.length ∧ ((rows = (xss.take i).flatten.map eI ∧ kc = l) ∨ (i = 0 ∧ rows = rows0 ∧ kc = kc0)) ∧
        σ = ⟨[(27, .one (.int .i64 n)), (26, .one (.int .i64 L)), (25, .one (.fs (xss.map fun xs => [.fs (xs.map eI)]))), (6, .one (.os 0 0 l kc))], [some ⟨1, rows, true, false, false⟩], []⟩) xss.length [27, 26, 25, 6] [0] rfl
      ⟨_, ((xss.map fun xs => [C.fs (xs.map eI)]).length : Int), 0, 0, kc0, rows0, rfl, by simp, by omega, by omega, rfl, .inr ⟨rfl, rfl, rfl⟩, rfl⟩ ?_
    rintro m σ ⟨n, L, i, l, kc, rows, rfl, rfl, hi, rfl, rfl, hrows, rfl⟩
    have hold : (xss.take i).flatten.map eI = rows.take (xss.take i).flatten.length := by
      rcases hrows with ⟨rfl, _⟩ | ⟨rfl, _, _⟩
      · exact (List.take_of_length_le (by rw [List.length_map]; exact Nat.le_refl _)).symm
      · simp
    have hle : (xss.take i).flatten.length ≤ rows.length := by
      have := congrArg List.length hold
      simp only [List.length_map, List.length_take] at this; omega
    refine rn rfl ?_
    refine goal_cond rfl (fun h => ?_) (fun h => ?_) <;> (try simp only [gt_iff_lt, ge_iff_le, bne_iff_ne, ne_eq, bne_eq_false_iff_eq, beq_iff_eq, beq_eq_false_iff_ne, Bool.not_eq_true', Bool.not_eq_false', decide_eq_true_eq, decide_eq_false_iff_not, List.length_map] at h)
    · obtain ⟨xs, hxs⟩ := at_some (xs := xss) (i := i) (by omega)
      have h1 := hpre (i + 1)
      have h2 := hsucc i xs hxs
      rw [h2, List.length_append] at h1
      refine rn rfl ?_
      refine goal_did rfl rfl (dA_index [.fs (xs.map eI)] rfl rfl rfl rfl rfl rfl rfl (by omega) (by simp; omega) (map_at (enc := fun xs : List Int => [C.fs (xs.map eI)]) (by simpa using hxs)) rfl) ?_
      refine rn rfl ?_
      refine goal_did rfl rfl (dA_append (old := (xss.take i).flatten.map eI) (rows := xs.map eI) (((xss.take i).flatten ++ xs).map eI) (((xss.take i).flatten ++ xs).length) true (Dst.own rfl rfl rfl rfl rfl hle hold) (Src.fs rfl) rfl rfl rfl rfl rfl rfl rfl rfl (rows_len eI_len _) (rows_len eI_len _) (by simp only [List.length_map]; show _ * 8 ≤ _; omega) (by simp only [List.length_map]; omega) (by rw [List.map_append]) (by rw [List.length_map]) (fun _ => noOwnR_map _ eI_noOwn _)) ?_
      refine rn rfl ?_
      refine round_keep (xss.length - (i + 1)) [27, 26, 25, 6] [1] (by omega) rfl ⟨_, _, i + 1, ((xss.take i).flatten ++ xs).length, ((xss.take i).flatten ++ xs).length, ((xss.take i).flatten ++ xs).map eI, wrap64 (by omega) (by omega), rfl, by omega, rfl, by rw [h2], .inl ⟨by rw [h2], rfl⟩, rfl⟩
    · rw [show i = xss.length by omega, List.take_length] at hrows hold ⊢
      refine rn rfl ?_
      refine round_ext ?_
      have hfin : rows = xss.flatten.map eI ∧ kc = xss.flatten.length := by
        rcases hrows with hr | ⟨h0, hr, hk⟩
        · exact hr
        · have hx : xss = [] := List.eq_nil_of_length_eq_zero (by omega)
          subst hx
          obtain ⟨q1, q2⟩ := hz rfl
          exact ⟨by rw [hr, q1]; rfl, by rw [hk, q2]; rfl⟩
      obtain ⟨rfl, rfl⟩ := hfin
      exact rn rfl (fin_is [0] rfl ⟨rfl, rfl⟩)

theorem spPair_eq (ps : List Pair) (p : Pair) : spPair ps p = putP ps p.name p.value := by
  unfold spPair putP
  split
  · rename_i h
    obtain ⟨_, hlt⟩ := pairIx_some h
    obtain ⟨q, hq⟩ := at_some hlt
    have hqn : q.name = p.name := by
      have := List.findIdx_getElem (w := hlt)
      rw [List.getElem?_eq_getElem hlt] at hq
      simp only [Option.some.injEq] at hq
      rw [hq] at this
      simpa [nameIs] using this
    rw [modify_set _ hq, hqn]
  · rfl

def overN (ps qs : List Pair) : List Pair := qs.foldl (fun ps p => putP ps p.name p.value) ps

def overQ (f g : Flat) : Flat := ⟨f.places ++ g.places, overN f.named g.named⟩

def OverF (f g : Flat) : Flat × Bool := if okFlat f && okFlat g then checkF (overQ f g) true else (zF, false)

theorem overN_len : ∀ (qs ps : List Pair), (overN ps qs).length ≤ ps.length + qs.length
  | [], ps => by simp [overN]
  | q :: qs, ps => by
    have h1 := overN_len qs (putP ps q.name q.value)
    have h2 := putP_length ps q.name q.value
    simp only [overN, List.foldl_cons, List.length_cons] at h1 ⊢
    omega

theorem overN_mem : ∀ {qs ps : List Pair} {p : Pair}, p ∈ overN ps qs → (∃ q ∈ ps, p.name = q.name) ∨ ∃ q ∈ qs, p.name = q.name
  | [], ps, p, h => .inl ⟨p, h, rfl⟩
  | q :: qs, ps, p, h => by
    rcases overN_mem (qs := qs) (ps := putP ps q.name q.value) h with ⟨r, hr, hn⟩ | ⟨r, hr, hn⟩
    · rcases putP_mem hr with h1 | ⟨r', hr', h1⟩
      · exact .inr ⟨q, by simp, by rw [hn, h1]⟩
      · exact .inl ⟨r', hr', by rw [hn, h1]⟩
    · exact .inr ⟨r, by simp [hr], hn⟩

theorem LenF.over {f g : Flat} (hf : LenF f) (hg : LenF g) : (overQ f g).places.length ≤ 16777216 ∧ (overQ f g).named.length ≤ 16777216 ∧ ∀ p ∈ (overQ f g).named, p.name.length ≤ 9223372036854775807 := by
  refine ⟨by have := hf.places; have := hg.places; simp [overQ]; omega, by have h := overN_len g.named f.named; have := hf.named; have := hg.named; simp only [overQ]; omega, fun p hp => ?_⟩
  rcases overN_mem hp with ⟨q, hq, hn⟩ | ⟨q, hq, hn⟩
  · rw [hn]; exact hf.names q hq
  · rw [hn]; exact hg.names q hq

theorem tellFl (f : Flat) : T.agg [.fs (List.take f.places.length (List.drop 0 (f.places.map eI))), .fs (List.take f.named.length (List.drop 0 (f.named.map eP)))] = .agg (eF f) := by
  rw [takeAll eI _ _ rfl, takeAll eP _ _ rfl]; rfl

theorem put_d (f : Flat) (n : Str) (v : Int) (h1 : f.places.length ≤ 1048576) (h2 : f.named.length ≤ 1048576) :
    ACalls pk 114 [.agg (eF f), .one (.str n), .one (.int .i64 v)] [] (fun r o => r = .agg (eF (putF f n v)) ∧ o = []) :=
  (put_ct f n v h1 h2).told [] (by rintro r o ⟨rfl, rfl⟩; exact ⟨_, _, rfl, tellFl _, rfl⟩)

theorem concatI_d (xss : List (List Int)) (hn : xss.length ≤ 1000) (hl : xss.flatten.length ≤ 4194304) :
    ACalls pk 113 [.one (.fs (xss.map fun xs => [.fs (xs.map eI)]))] [] (fun r o => r = .one (.fs (xss.flatten.map eI)) ∧ o = []) :=
  (concatI_ct xss hn hl).told [] (by rintro r o ⟨rfl, rfl⟩; exact ⟨_, _, rfl, congrArg (fun x => T.one (C.fs x)) (takeAll eI _ _ rfl), rfl⟩)

theorem iover_ct (f g : Flat) (hf : LenF f) (hg : LenF g) : ACalls pk 82 [.agg (eF f), .agg (eF g)] [] (fun r o => r = .tup [rF (OverF f g).1, .one (.bool (OverF f g).2)] ∧ o = oF (OverF f g).1) := by
  have a1 := hf.places
  have a2 := hf.named
  have b1 := hg.places
  have b2 := hg.named
  refine acalls_of_body Tryz.func82 rfl (by kernel_rfl) rfl ?_
  refine rn rfl ?_
  refine goal_step (step_call [] rfl rfl rfl rfl rfl rfl (ivalidFlat_ct f (by omega) (by omega) hf.names)) ?_
  rintro σ2 ⟨r, o', ⟨rfl, rfl⟩, hσ⟩
  obtain rfl := Option.some.inj hσ
  clear hσ
  refine rn rfl ?_
  refine goal_guard rfl rfl rfl (fun h => ?_) (fun h => ?_) <;> (try simp only [gt_iff_lt, ge_iff_le, bne_iff_ne, ne_eq, bne_eq_false_iff_eq, beq_iff_eq, beq_eq_false_iff_ne, Bool.not_eq_true', Bool.not_eq_false', decide_eq_true_eq, decide_eq_false_iff_not, List.length_map] at h)
  · refine rn rfl ?_
    refine fin_weak (Weak.adoptO 2 0 1) (fin_weak (Weak.adoptO 2 1 2) (fin_is [3, 4] rfl ⟨?_, ?_⟩))
    · simp [OverF, h]; rfl
    · simp [OverF, h]; rfl
  refine rn rfl ?_
  refine goal_step (step_call [] rfl rfl rfl rfl rfl rfl (ivalidFlat_ct g (by omega) (by omega) hg.names)) ?_
  rintro σ2 ⟨r, o', ⟨rfl, rfl⟩, hσ⟩
  obtain rfl := Option.some.inj hσ
  clear hσ
  refine rn rfl ?_
  refine goal_cond rfl (fun h2 => ?_) (fun h2 => ?_) <;> (try simp only [gt_iff_lt, ge_iff_le, bne_iff_ne, ne_eq, bne_eq_false_iff_eq, beq_iff_eq, beq_eq_false_iff_ne, Bool.not_eq_true', Bool.not_eq_false', decide_eq_true_eq, decide_eq_false_iff_not, List.length_map] at h2)
  · refine rn rfl ?_
    refine fin_weak (Weak.adoptO 2 0 1) (fin_weak (Weak.adoptO 2 1 2) (fin_is [3, 4] rfl ⟨?_, ?_⟩))
    · simp [OverF, h2]; rfl
    · simp [OverF, h2]; rfl
  have hF := okFlat_iff.1 h
  have hG := okFlat_iff.1 h2
  have f1 := hF.named
  have g1 := hG.named
  have f2 := hF.places
  have g2 := hG.places
  refine rt1 3 rfl ?_
  refine goal_cutR (fun σ => σ = ⟨[(6, .one (.op 3 0 0)), (4, .one (.op 2 0 0)), (3, .one (.op 1 0 0)), (2, .one (.op 0 0 0))],
      [some ⟨2, [eF f], false, false, true⟩, some ⟨2, [eF g], false, false, true⟩, some ⟨2, [[.fs [], .fs []]], false, false, true⟩, some ⟨2, [eF ⟨f.places ++ g.places, f.named⟩], false, false, true⟩], []⟩) ?_ ?_
  · have hc := concatI_d [f.places, g.places] (by simp) (by simp; omega)
    have hfl : [f.places, g.places].flatten = f.places ++ g.places := by simp
    rw [hfl] at hc
    refine goal_draw' [0, 1] 11 rfl ?_
    refine drn [0, 1, 2, 3, 6, 7] (by kernel_rfl) (by kernel_rfl) rfl rfl ?_
    refine AH_two (i := 4) (j := 9) (by kernel_rfl) (step_did rfl rfl (dA_step rfl)) (mdOk rfl) (step_did rfl rfl (dA_step rfl)) (mdOk rfl) ?_ ?_
    · rintro _ rfl
      refine AH_two (i := 5) (j := 9) (by kernel_rfl) (step_call [] rfl rfl rfl rfl rfl rfl (hc)) (by simp) (step_did rfl rfl (dA_step rfl)) (mdOk rfl) ?_ ?_
      · rintro σ2 ⟨r, o', ⟨rfl, rfl⟩, hσ⟩
        obtain rfl := Option.some.inj hσ
        clear hσ
        refine drn [8] (by kernel_rfl) (by kernel_rfl) rfl rfl ?_
        refine AH_oneDid 9 rfl (by kernel_rfl) rfl (dA_step rfl) (mdOk rfl) ?_
        refine AH_oneDid 10 rfl (by kernel_rfl) rfl (dA_step rfl) (mdOk rfl) ?_
        refine AH_end (by kernel_rfl) ?_
        refine rn rfl ?_
        exact cut_nrm [6, 4, 3, 2] [0, 1, 2, 4] rfl rfl
      · rintro _ rfl
        refine AH_one (i := 5) (by kernel_rfl) (step_call [] rfl rfl rfl rfl rfl rfl (hc)) (by simp) ?_
        rintro σ2 ⟨r, o', ⟨rfl, rfl⟩, hσ⟩
        obtain rfl := Option.some.inj hσ
        clear hσ
        refine drn [8] (by kernel_rfl) (by kernel_rfl) rfl rfl ?_
        refine AH_oneDid 10 rfl (by kernel_rfl) rfl (dA_step rfl) (mdOk rfl) ?_
        refine AH_end (by kernel_rfl) ?_
        refine rn rfl ?_
        exact cut_nrm [6, 4, 3, 2] [0, 1, 2, 4] rfl rfl
    · rintro _ rfl
      refine AH_oneDid 4 rfl (by kernel_rfl) rfl (dA_step rfl) (mdOk rfl) ?_
      refine AH_one (i := 5) (by kernel_rfl) (step_call [] rfl rfl rfl rfl rfl rfl (hc)) (by simp) ?_
      rintro σ2 ⟨r, o', ⟨rfl, rfl⟩, hσ⟩
      obtain rfl := Option.some.inj hσ
      clear hσ
      refine drn [8] (by kernel_rfl) (by kernel_rfl) rfl rfl ?_
      refine AH_oneDid 10 rfl (by kernel_rfl) rfl (dA_step rfl) (mdOk rfl) ?_
      refine AH_end (by kernel_rfl) ?_
      refine rn rfl ?_
      exact cut_nrm [6, 4, 3, 2] [0, 1, 2, 3] rfl rfl
  rintro _ rfl
  refine rn rfl ?_
  refine goal_loop_keep (fun m σ => ∃ (n L : Int) (i : Nat) (ps : List Pair), n = i ∧ L = g.named.length ∧ i ≤ g.named.length ∧ m = g.named.length - i ∧ ps = overN f.named (g.named.take i) ∧
      σ = ⟨[(30, .one (.int .i64 n)), (29, .one (.int .i64 L)), (28, .one (.fs (g.named.map eP))), (6, .one (.op 3 0 0)), (4, .one (.op 2 0 0)), (3, .one (.op 1 0 0)), (2, .one (.op 0 0 0))],
        [some ⟨2, [eF f], false, false, true⟩, some ⟨2, [eF g], false, false, true⟩, some ⟨2, [[.fs [], .fs []]], false, false, true⟩, some ⟨2, [eF ⟨f.places ++ g.places, ps⟩], false, false, true⟩], []⟩) g.named.length
    [30, 29, 28, 6, 4, 3, 2] [0, 1, 2, 3] rfl ⟨_, ((g.named.map eP).length : Int), 0, f.named, rfl, by simp, by omega, by omega, rfl, ?_⟩ ?_
  · rfl
  rintro m σ ⟨n, L, i, ps, rfl, rfl, hi, rfl, rfl, rfl⟩
  have hol := overN_len (g.named.take i) f.named
  rw [List.length_take] at hol
  refine rn rfl ?_
  refine goal_cond rfl (fun h => ?_) (fun h => ?_) <;> (try simp only [gt_iff_lt, ge_iff_le, bne_iff_ne, ne_eq, bne_eq_false_iff_eq, beq_iff_eq, beq_eq_false_iff_ne, Bool.not_eq_true', Bool.not_eq_false', decide_eq_true_eq, decide_eq_false_iff_not, List.length_map] at h)
  · obtain ⟨q, hq⟩ := at_some (xs := g.named) (i := i) (by omega)
    refine rn rfl ?_
    refine goal_did rfl rfl (dA_index (eP q) rfl rfl rfl rfl rfl rfl rfl (by omega) (by (try simp); omega) (map_at (by simpa using hq)) rfl) ?_
    refine rn rfl ?_
    refine goal_step (step_call [] rfl rfl rfl rfl rfl rfl (put_d ⟨f.places ++ g.places, overN f.named (g.named.take i)⟩ q.name q.value (by simp; omega) (by simp only; omega))) ?_
    rintro σ2 ⟨r, o', ⟨rfl, rfl⟩, hσ⟩
    obtain rfl := Option.some.inj hσ
    clear hσ
    refine rn rfl ?_
    refine round_keep (g.named.length - (i + 1)) [30, 29, 28, 6, 4, 3, 2] [0, 1, 2, 3] (by omega) rfl ⟨_, _, i + 1, _, wrap64 (by omega) (by omega), rfl, by omega, rfl, rfl, ?_⟩
    rw [show overN f.named (g.named.take (i + 1)) = putP (overN f.named (g.named.take i)) q.name q.value by unfold overN; rw [foldl_take_succ _ _ hq]]
    rfl
  · rw [show i = g.named.length by omega, List.take_length]
    obtain ⟨l1, l2, l3⟩ := hf.over hg
    have ho : OverF f g = checkF (overQ f g) true := by unfold OverF; rw [if_pos (by simp [h, h2, okFlat_iff.2 hF, okFlat_iff.2 hG])]
    rw [ho]
    refine rn rfl ?_
    refine round_ext ?_
    refine rn rfl ?_
    refine goal_step (step_call [] rfl rfl rfl rfl rfl rfl (checked_ct (overQ f g) true l1 l2 l3)) ?_
    rintro σ2 ⟨r, o', ⟨rfl, rfl⟩, hσ⟩
    obtain rfl := Option.some.inj hσ
    clear hσ
    refine rn rfl ?_
    exact rn rfl (fin_is [4, 5] rfl ⟨rfl, rfl⟩)

theorem checkedFlat_ct (f : Flat) (h1 : f.places.length ≤ 16777216) (h2 : f.named.length ≤ 16777216) (hn : ∀ p ∈ f.named, p.name.length ≤ 9223372036854775807) :
    ACalls pk 77 [.agg (eF f)] [] (fun r o => r = .tup [.agg (eF (checkF f true).1), .one (.bool (checkF f true).2)] ∧ o = []) := by
  refine acalls_of_body Tryz.func77 rfl (by kernel_rfl) rfl ?_
  refine rn rfl ?_
  refine goal_step (step_call [] rfl rfl rfl rfl rfl rfl (svalidFlat_ct f h1 h2 hn)) ?_
  rintro σ2 ⟨r, o', ⟨rfl, rfl⟩, hσ⟩
  obtain rfl := Option.some.inj hσ
  clear hσ
  refine rn rfl ?_
  refine goal_cond rfl (fun h => ?_) (fun h => ?_) <;> (try simp only [gt_iff_lt, ge_iff_le, bne_iff_ne, ne_eq, bne_eq_false_iff_eq, beq_iff_eq, beq_eq_false_iff_ne, Bool.not_eq_true', Bool.not_eq_false', decide_eq_true_eq, decide_eq_false_iff_not, List.length_map] at h)
  · refine rn rfl (fin_is [] rfl ⟨?_, rfl⟩)
    simp [checkF, h]; rfl
  · refine rn rfl (fin_is [] rfl ⟨?_, rfl⟩)
    simp [checkF, h]; rfl

/-- The flat's own copy, its places own memory, its names told zs data. -/
theorem sover_ct (f g : Flat) (hf : LenF f) (hg : LenF g) (hfn : f.named.length ≤ 100) (hgn : g.named.length ≤ 100) : ACalls pk 78 [.agg (eF f), .agg (eF g)] [] (fun r o => r = .agg (eF (overQ f g)) ∧ o = []) := by
  have a1 := hf.places
  have a2 := hf.named
  have b1 := hg.places
  have b2 := hg.named
  refine acalls_of_body Tryz.func78 rfl (by kernel_rfl) rfl ?_
  refine rn rfl ?_
  refine goal_step (step_call [] rfl rfl rfl rfl rfl rfl (copyFlat_ct f (by omega) (by omega))) ?_
  rintro σ2 ⟨r, o', ⟨rfl, rfl⟩, hσ⟩
  obtain rfl := Option.some.inj hσ
  clear hσ
  refine rn rfl ?_
  refine goal_did rfl rfl (dA_append (old := (f.places).map eI) (rows := (g.places : List Int).map eI) (((f.places) ++ (g.places : List Int)).map eI) (f.places.length + g.places.length) true (Dst.own rfl rfl rfl rfl rfl (by first | (simp; done) | (simp; omega)) (whole (by first | (simp; done) | (simp; omega)))) (Src.fs rfl) rfl rfl rfl rfl rfl rfl rfl rfl (rows_len eI_len _) (rows_len eI_len _) (by (try simp only [List.length_map, List.length_append, List.length_cons, List.length_nil, List.length_take, List.length_drop]); show _ * 8 ≤ _; omega) (by first | (simp; done) | (simp; omega)) (by simp) (by first | (simp; done) | (simp; omega)) (fun _ => noOwnR_map _ eI_noOwn _)) ?_
  refine rn rfl ?_
  refine goal_keepE [6, 5, 4, 3, 2] [0, 1, 2, 5, 6] [4] rfl rfl rfl (cons_eq rfl (cons_eq rfl (cons_eq rfl (cons_eq (b := some ⟨2, [[.os 4 0 (f.places.length + g.places.length) (f.places.length + g.places.length), .fs (f.named.map eP)]], false, false, true⟩) ?_ (cons_eq rfl rfl))))) ?_
  · exact congrArg (fun c => some (AObj.mk 2 [[.os 4 0 (f.places.length + g.places.length) (f.places.length + g.places.length), c]] false false true)) (congrArg C.fs (takeAll eP _ _ rfl))
  refine goal_loop_keep (fun m σ => ∃ (n : Int) (i : Nat) (ps : List Pair), n = i ∧ i ≤ g.named.length ∧ m = g.named.length - i ∧ ps = overN f.named (g.named.take i) ∧
      σ = ⟨[(6, .one (.int .i64 n)), (5, .one (.op 3 0 0)), (4, .one (.op 2 0 0)), (3, .one (.op 1 0 0)), (2, .one (.op 0 0 0))],
        [some ⟨2, [eF f], false, false, true⟩, some ⟨2, [eF g], false, false, true⟩, some ⟨2, [[.fs [], .fs []]], false, false, true⟩, some ⟨2, [[.os 4 0 (f.places.length + g.places.length) (f.places.length + g.places.length), .fs (ps.map eP)]], false, false, true⟩, ownI (f.places ++ g.places)], []⟩) g.named.length
    [6, 5, 4, 3, 2] [0, 1, 2, 3, 4] rfl ⟨_, 0, f.named, rfl, by omega, by omega, rfl, ?_⟩ ?_
  · rfl
  rintro m σ ⟨n, i, ps, rfl, hi, rfl, rfl, rfl⟩
  have hol := overN_len (g.named.take i) f.named
  rw [List.length_take] at hol
  refine rn rfl ?_
  refine goal_cond rfl (fun h => ?_) (fun h => ?_) <;> (try simp only [gt_iff_lt, ge_iff_le, bne_iff_ne, ne_eq, bne_eq_false_iff_eq, beq_iff_eq, beq_eq_false_iff_ne, Bool.not_eq_true', Bool.not_eq_false', decide_eq_true_eq, decide_eq_false_iff_not, List.length_map] at h)
  · obtain ⟨q, hq⟩ := at_some (xs := g.named) (i := i) (by omega)
    have hst : spPair (overN f.named (g.named.take i)) q = overN f.named (g.named.take (i + 1)) := by
      rw [spPair_eq]; unfold overN; rw [foldl_take_succ _ _ hq]
    have hput := putPair_ct (overN f.named (g.named.take i)) q (by omega)
    rw [hst] at hput
    refine rn rfl ?_
    refine goal_drawL [0, 1, 3] [9] 10 rfl ?_
    refine drnL [0, 1, 2, 3, 4] (by kernel_rfl) (by kernel_rfl) rfl rfl ?_
    refine AHL_did 5 rfl (by kernel_rfl) (by kernel_rfl) (by kernel_rfl) (by kernel_rfl) rfl rfl (dA_index (eP q) rfl rfl rfl rfl rfl rfl rfl (by omega) (by (try simp); omega) (map_at (by simpa using hq)) rfl) ?_
    refine drnL [6] (by kernel_rfl) (by kernel_rfl) rfl rfl ?_
    refine AHL_one (i := 7) (by kernel_rfl) rfl (step_call [] rfl rfl rfl rfl rfl rfl (hput)) (by simp) ?_
    rintro σ2 ⟨r, o', ⟨rfl, rfl⟩, hσ⟩
    obtain rfl := Option.some.inj hσ
    clear hσ
    refine drnL [8] (by kernel_rfl) (by kernel_rfl) rfl rfl ?_
    refine AHL_lateDid 9 rfl (by kernel_rfl) rfl rfl (dA_step rfl) ?_
    refine AH_end (by kernel_rfl) ?_
    refine rn rfl ?_
    refine round_keepF (g.named.length - (i + 1)) [6, 5, 4, 3, 2] [0, 1, 2, 3, 4] [5] (by omega) rfl rfl ⟨_, i + 1, _, wrap64 (by omega) (by omega), by omega, rfl, rfl, keepS_eq rfl (cons_eq rfl (cons_eq rfl (cons_eq rfl (cons_eq ?_ (cons_eq rfl rfl)))))⟩
    exact congrArg (fun c => some (AObj.mk 2 [[.os 4 0 (f.places.length + g.places.length) (f.places.length + g.places.length), c]] false false true)) (congrArg C.fs (takeAll eP _ _ rfl))
  · rw [show i = g.named.length by omega, List.take_length]
    refine rn rfl ?_
    refine round_ext ?_
    refine rn rfl (fin_is [] rfl ⟨?_, rfl⟩)
    rw [takeAll eI _ _ (by simp)]; rfl

theorem bindQ_fst (s : Sig) (f : Flat) : (bindQ s f).1 = (boundQ s f).1 := rfl

theorem ibindD_ct (s : Sig) (f : Flat) (hs : OkS s) (hf : LenF f) : ACalls pk 84 [.agg (eG s), .agg (eF f)] [] (fun r o => r = .tup [.agg (eBi (boundQ s f).1), .one (.fs ((bindQ s f).2.map eB))] ∧ o = []) :=
  (ibind_ct s f hs hf.places hf.named).told [] (by
    rintro r o ⟨rfl, rfl⟩
    refine ⟨_, _, rfl, ?_, rfl⟩
    rw [bindQ_fst, takeAll eL _ _ (boundQ_len s f)]; rfl)

theorem gt_zero {α : Type} (xs : List α) : decide (((xs.length : Nat) : Int) > 0) = !decide (xs = []) := by
  cases xs with
  | nil => rfl
  | cons x xs => simp

/-- Slots of own memory. -/
def rL (b : Bnds) : T := .agg [.os 0 0 b.length b.length]

theorem iBind_ct (s : Sig) (f : Flat) (hs : LenS s) (hf : LenF f) : ACalls pk 52 [.agg (eG s), .agg (eF f)] [] (fun r o => r = .tup [rL (BindQ s f).1, .one (.bool (BindQ s f).2)] ∧ o = [ownL (BindQ s f).1]) := by
  refine acalls_of_body Tryz.func52 rfl (by kernel_rfl) rfl ?_
  refine rn rfl ?_
  refine goal_step (step_call [] rfl rfl rfl rfl rfl rfl (fit_ct s f hs hf)) ?_
  rintro σ2 ⟨r, o', ⟨rfl, rfl⟩, hσ⟩
  obtain rfl := Option.some.inj hσ
  clear hσ
  refine rn rfl ?_
  refine goal_cond rfl (fun h => ?_) (fun h => ?_) <;> (try simp only [gt_iff_lt, ge_iff_le, bne_iff_ne, ne_eq, bne_eq_false_iff_eq, beq_iff_eq, beq_eq_false_iff_ne, Bool.not_eq_true', Bool.not_eq_false', decide_eq_true_eq, decide_eq_false_iff_not, List.length_map] at h)
  · refine rn rfl ?_
    refine fin_weak (Weak.adoptO 2 0 3) (fin_is [3] rfl ⟨?_, ?_⟩)
    · simp [BindQ, h]; rfl
    · simp [BindQ, h]; rfl
  · have hfit := fitQ_iff.1 h
    refine rn rfl ?_
    refine goal_step (step_call [] rfl rfl rfl rfl rfl rfl (ibind_ct s f hfit.1 hf.places hf.named)) ?_
    rintro σ2 ⟨r, o', ⟨rfl, rfl⟩, hσ⟩
    obtain rfl := Option.some.inj hσ
    clear hσ
    refine rn rfl ?_
    rw [List.length_map, gt_zero]
    refine goal_cond rfl (fun h2 => ?_) (fun h2 => ?_) <;> simp only [Bool.not_eq_true', Bool.not_eq_false', decide_eq_true_eq, decide_eq_false_iff_not] at h2
    · refine rn rfl ?_
      refine fin_weak (Weak.adoptO 2 0 3) (fin_is [5] rfl ⟨?_, ?_⟩)
      · simp [BindQ, accQ, h2]; rfl
      · simp [BindQ, accQ, h2]; rfl
    · refine rn rfl ?_
      have hb : BindQ s f = ((boundQ s f).1, true) := by simp [BindQ, h, accQ, h2]
      refine fin_is [3] rfl ⟨?_, ?_⟩
      · rw [hb]; simp [rL, boundQ_len]
      · rw [hb]; rfl

theorem iBindD_ct (s : Sig) (f : Flat) (hs : LenS s) (hf : LenF f) : ACalls pk 52 [.agg (eG s), .agg (eF f)] [] (fun r o => r = .tup [.agg (eBi (BindQ s f).1), .one (.bool (BindQ s f).2)] ∧ o = []) :=
  (iBind_ct s f hs hf).told [] (by
    rintro r o ⟨rfl, rfl⟩
    refine ⟨_, _, rfl, ?_, rfl⟩
    rw [takeAll eL _ _ rfl]; rfl)

theorem indexB0_ct (xs : List Problem) (hb : xs.length ≤ 9223372036854775807) (pred : Problem → Bool) (f : FuncId)
    (hcl : ∀ p, ACalls pk f [.agg (eB p)] [] (fun r o => r = .one (.bool (pred p)) ∧ o = [])) :
    ACalls pk 147 [.one (.fs (xs.map eB)), .one (.fn f [])] [] (fun r o => r = .one (.int .i64 (idxI pred xs 0)) ∧ o = []) := by
  refine acalls_of_body Tryz.func147 rfl (by kernel_rfl) rfl ?_
  refine rn rfl ?_
  refine goal_loop_keep (fun m σ => ∃ (n L : Int) (i : Nat), n = i ∧ L = xs.length ∧ i ≤ xs.length ∧ m = xs.length - i ∧ idxI pred xs 0 = idxI pred (xs.drop i) i ∧
      σ = ⟨[(8, .one (.int .i64 n)), (7, .one (.int .i64 L)), (1, .one (.fn f [])), (0, .one (.fs (xs.map eB)))], [], []⟩) xs.length [8, 7, 1, 0] [] rfl
    ⟨_, _, 0, rfl, by simp, by omega, by omega, by simp, rfl⟩ ?_
  rintro m σ ⟨n, L, i, rfl, rfl, hi, rfl, hidx, rfl⟩
  refine rn rfl ?_
  refine goal_cond rfl (fun h => ?_) (fun h => ?_) <;> (try simp only [gt_iff_lt, ge_iff_le, bne_iff_ne, ne_eq, bne_eq_false_iff_eq, beq_iff_eq, beq_eq_false_iff_ne, Bool.not_eq_true', Bool.not_eq_false', decide_eq_true_eq, decide_eq_false_iff_not, List.length_map] at h)
  · obtain ⟨p, hp⟩ := at_some (xs := xs) (i := i) (by omega)
    refine rn rfl ?_
    refine goal_did rfl rfl (dA_index (eB p) rfl rfl rfl rfl rfl rfl rfl (by omega) (by (try simp); omega) (map_at (by simpa using hp)) rfl) ?_
    refine rn rfl ?_
    refine goal_step (step_call [] rfl rfl rfl rfl rfl rfl (hcl p)) ?_
    rintro σ2 ⟨r, o', ⟨rfl, rfl⟩, hσ⟩
    obtain rfl := Option.some.inj hσ
    clear hσ
    refine rn rfl ?_
    refine goal_cond rfl (fun h2 => ?_) (fun h2 => ?_)
    · refine rn rfl (round_ret (fin_is [] rfl ⟨?_, rfl⟩))
      rw [hidx, drop_at hp]; simp [idxI, h2]
    · refine rn rfl ?_
      refine round_keep (xs.length - (i + 1)) [8, 7, 1, 0] [] (by omega) rfl ⟨_, _, i + 1, wrap64 (by omega) (by omega), rfl, by omega, rfl, ?_, rfl⟩
      rw [hidx, drop_at hp]; simp [idxI, h2]
  · refine rn rfl (round_ext ?_)
    refine rn rfl (fin_is [] rfl ⟨?_, rfl⟩)
    rw [hidx, List.drop_eq_nil_of_le (by omega)]; rfl

theorem containsB0_ct (xs : List Problem) (hb : xs.length ≤ 9223372036854775807) (pred : Problem → Bool) (f : FuncId)
    (hcl : ∀ p, ACalls pk f [.agg (eB p)] [] (fun r o => r = .one (.bool (pred p)) ∧ o = [])) :
    ACalls pk 137 [.one (.fs (xs.map eB)), .one (.fn f [])] [] (fun r o => r = .one (.bool (xs.any pred)) ∧ o = []) := by
  refine acalls_of_body Tryz.func137 rfl (by kernel_rfl) rfl ?_
  refine rn rfl ?_
  refine goal_step (step_call [] rfl rfl rfl rfl rfl rfl (indexB0_ct xs hb pred f hcl)) ?_
  rintro σ2 ⟨r, o', ⟨rfl, rfl⟩, hσ⟩
  obtain rfl := Option.some.inj hσ
  clear hσ
  refine rn rfl ?_
  refine rn rfl (fin_is [] rfl ⟨?_, rfl⟩)
  congr 1; congr 1
  have := idxI_ge (pred := pred) (xs := xs) (i := 0)
  cases h : xs.any pred with
  | true => simp [this.2 h]
  | false => rw [idxI_none.2 h]; rfl

theorem bindPartC_ct (p : Problem) : ACalls pk 138 [.agg (eB p)] [] (fun r o => r = .one (.bool (p.kind != 3)) ∧ o = []) := by
  refine acalls_of_body Tryz.func138 rfl (by kernel_rfl) rfl ?_
  refine rn rfl ?_
  exact rn rfl (fin_is [] rfl ⟨rfl, rfl⟩)

theorem missing_kind {s : Sig} {b : Bnds} {p : Problem} (h : p ∈ missingQ s b) : p.kind = 3 := by
  obtain ⟨px, _, hx⟩ := List.mem_filterMap.1 h
  unfold lackQ at hx
  split at hx
  · cases hx; rfl
  · cases hx

theorem foldB_kind (s : Sig) : ∀ (qs : List Pair) (st : Bnds × List Problem), (∀ p ∈ st.2, p.kind ≠ 3) → ∀ p ∈ (qs.foldl (stepB s) st).2, p.kind ≠ 3
  | [], st, h => h
  | q :: qs, st, h => by
    rw [List.foldl_cons]
    refine foldB_kind s qs _ ?_
    intro p hp
    unfold stepB at hp
    split at hp
    · simp only [List.mem_append, List.mem_singleton] at hp
      rcases hp with hp | rfl
      · exact h p hp
      · simp
    · split at hp
      · split at hp
        · exact h p hp
        · split at hp
          · simp only [List.mem_append, List.mem_singleton] at hp
            rcases hp with hp | rfl
            · exact h p hp
            · simp
          · exact h p hp
      · exact h p hp

theorem bound_kind {s : Sig} {f : Flat} {p : Problem} (h : p ∈ (boundQ s f).2) : p.kind ≠ 3 := by
  refine foldB_kind s f.named _ ?_ p h
  intro p hp
  unfold manyQ at hp
  split at hp
  · simp at hp; subst hp; simp
  · simp at hp

theorem bind_any (s : Sig) (f : Flat) : (bindQ s f).2.any (fun p => p.kind != 3) = !decide ((boundQ s f).2 = []) := by
  have h1 : (missingQ s (boundQ s f).1).any (fun p => p.kind != 3) = false := by
    rw [List.any_eq_false]; intro p hp; simp [missing_kind hp]
  show ((boundQ s f).2 ++ missingQ s (boundQ s f).1).any _ = _
  rw [List.any_append, h1, Bool.or_false]
  cases hb : (boundQ s f).2 with
  | nil => rfl
  | cons p ps => simp [bound_kind (s := s) (f := f) (p := p) (by rw [hb]; simp)]

def PartB (s : Sig) (f : Flat) : Bnds × Bool := if partQ s f then ((boundQ s f).1, true) else ([], false)

theorem bindPart_ct (s : Sig) (f : Flat) (hs : LenS s) (hf : LenF f) : ACalls pk 111 [.agg (eG s), .agg (eF f)] [] (fun r o => r = .tup [.agg (eBi (PartB s f).1), .one (.bool (PartB s f).2)] ∧ o = []) := by
  have a2 := hf.named
  refine acalls_of_body Tryz.func111 rfl (by kernel_rfl) rfl ?_
  refine rn rfl ?_
  refine goal_step (step_call [] rfl rfl rfl rfl rfl rfl (fit_ct s f hs hf)) ?_
  rintro σ2 ⟨r, o', ⟨rfl, rfl⟩, hσ⟩
  obtain rfl := Option.some.inj hσ
  clear hσ
  refine rn rfl ?_
  refine goal_cond rfl (fun h => ?_) (fun h => ?_) <;> (try simp only [gt_iff_lt, ge_iff_le, bne_iff_ne, ne_eq, bne_eq_false_iff_eq, beq_iff_eq, beq_eq_false_iff_ne, Bool.not_eq_true', Bool.not_eq_false', decide_eq_true_eq, decide_eq_false_iff_not, List.length_map] at h)
  · refine rn rfl (fin_is [] rfl ⟨?_, rfl⟩)
    simp [PartB, partQ, h]; rfl
  · have hfit := fitQ_iff.1 h
    have hl := hfit.1.len
    have hw := foldB_wr s f.named (phase1 s f.places, manyQ s f.places)
    have hm := manyQ_len s f.places
    have hq := missingQ_len s (boundQ s f).1
    have hw' : (boundQ s f).2.length ≤ (manyQ s f.places).length + f.named.length := hw
    refine rn rfl ?_
    refine goal_step (step_call [] rfl rfl rfl rfl rfl rfl (ibindD_ct s f hfit.1 hf)) ?_
    rintro σ2 ⟨r, o', ⟨rfl, rfl⟩, hσ⟩
    obtain rfl := Option.some.inj hσ
    clear hσ
    refine rn rfl ?_
    refine goal_step (step_call [] rfl rfl rfl rfl rfl rfl (containsB0_ct (bindQ s f).2 (by simp [bindQ]; omega) (fun p => p.kind != 3) _ bindPartC_ct)) ?_
    rintro σ2 ⟨r, o', ⟨rfl, rfl⟩, hσ⟩
    obtain rfl := Option.some.inj hσ
    clear hσ
    refine rn rfl ?_
    rw [bind_any]
    refine goal_cond rfl (fun h2 => ?_) (fun h2 => ?_) <;> simp only [Bool.not_eq_true', Bool.not_eq_false', decide_eq_true_eq, decide_eq_false_iff_not] at h2
    · refine rn rfl (fin_is [] rfl ⟨?_, rfl⟩)
      simp [PartB, partQ, h2]; rfl
    · refine rn rfl (fin_is [] rfl ⟨?_, rfl⟩)
      simp [PartB, partQ, h, h2]; rfl

theorem ivalidPartial_ct (s : Sig) (f : Flat) (hs : LenS s) (hf : LenF f) : ACalls pk 81 [.agg (eG s ++ eF f)] [] (fun r o => r = .one (.bool (partQ s f)) ∧ o = []) := by
  refine acalls_of_body Tryz.func81 rfl (by kernel_rfl) rfl ?_
  refine rn rfl ?_
  refine goal_step (step_call [] rfl rfl rfl rfl rfl rfl (bindPart_ct s f hs hf)) ?_
  rintro σ2 ⟨r, o', ⟨rfl, rfl⟩, hσ⟩
  obtain rfl := Option.some.inj hσ
  clear hσ
  refine rn rfl ?_
  refine rn rfl (fin_is [] rfl ⟨?_, rfl⟩)
  unfold PartB; cases h : partQ s f <;> rfl

section
open Go Go.ChangeShapes
theorem agg_of_okWide {P : Program} {W : World} {r : Reach} {base : Nat} {t : TypeId} {v : Value} {fs : Array Field} (hu : P.underlying t = some (.struct fs)) (h : Value.okWide P W r base t v) : ∃ cs, v = .agg cs := by
  unfold Value.okWide at h
  rw [hu] at h
  obtain ⟨cs, h2, _⟩ := h
  exact ⟨cs, h2⟩
end

section
open Go Go.ChangeShapes
def PairOk (p : Pair) : Prop := p.name.length ≤ 9223372036854775807

theorem openPair : Opens pk.P 114 eP PairOk :=
  Opens.map (xo_struct (α := Str × Int × Unit) rfl rfl (fun _ => rfl) (opensF_cons (off' := 1) (xo_str rfl rfl) (fun _ => rfl) (by omega) (opensF_cons (off' := 2) (xo_int rfl rfl rfl) (fun _ => rfl) (by omega) opensF_nil)))
    (fun x => ⟨x.1, x.2.1⟩) (fun _ => rfl) (fun _ h => h.1)

theorem openFlat : Opens pk.P 52 eF Fits :=
  Opens.map (xo_struct (α := List Int × List Pair × Unit) rfl rfl (fun _ => rfl) (opensF_cons (off' := 1) (xo_slice (enc := eI) rfl rfl rfl rfl (fun _ => rfl) (xo_int rfl rfl rfl)) (fun _ => rfl) (by omega)
      (opensF_cons (off' := 2) (xo_slice rfl rfl rfl rfl (fun _ => rfl) openPair) (fun _ => rfl) (by omega) opensF_nil)))
    (fun x => ⟨x.1, x.2.1⟩) (fun _ => rfl) (fun _ h => ⟨h.1.1, h.2.1.1, h.2.1.2⟩)
end

section
open Go Go.ChangeShapes
structure FitsS (s : Sig) : Prop where
  len : s.length ≤ 9223372036854775807
  names : ∀ p ∈ s, p.name.length ≤ 9223372036854775807

structure Part where
  sig : Sig
  flat : Flat

def ePa (p : Part) : List C := eG p.sig ++ eF p.flat

structure FitsP (p : Part) : Prop where
  sig : FitsS p.sig
  flat : Fits p.flat

def ParamOk (p : Param) : Prop := p.name.length ≤ 9223372036854775807

theorem openParam : Opens pk.P 87 eQ ParamOk :=
  Opens.map (xo_struct (α := Str × Int × Bool × Int × Unit) rfl rfl (fun _ => rfl) (opensF_cons (off' := 1) (xo_str rfl rfl) (fun _ => rfl) (by omega) (opensF_cons (off' := 2) (xo_int rfl rfl rfl) (fun _ => rfl) (by omega)
    (opensF_cons (off' := 3) (xo_bool rfl rfl) (fun _ => rfl) (by omega) (opensF_cons (off' := 4) (xo_int rfl rfl rfl) (fun _ => rfl) (by omega) opensF_nil)))))
    (fun x => ⟨x.1, x.2.1, x.2.2.1, x.2.2.2.1⟩) (fun _ => rfl) (fun _ h => h.1)

theorem openSig : Opens pk.P 24 eG FitsS :=
  Opens.map (xo_struct (α := List Param × Unit) rfl rfl (fun _ => rfl) (opensF_cons (off' := 1) (xo_slice rfl rfl rfl rfl (fun _ => rfl) openParam) (fun _ => rfl) (by omega) opensF_nil))
    (fun x => x.1) (fun _ => rfl) (fun _ h => ⟨h.1.1, h.1.2⟩)

theorem openPartial : Opens pk.P 54 ePa FitsP :=
  Opens.map (xo_struct (α := Sig × Flat × Unit) rfl rfl (fun _ => rfl) (opensF_cons (off' := 1) openSig (fun _ => rfl) (by omega) (opensF_cons (off' := 3) openFlat (fun _ => rfl) (by omega) opensF_nil)))
    (fun x => ⟨x.1, x.2.1⟩) (fun x => by show _ = eG x.1 ++ (eF x.2.1 ++ []); rw [List.append_nil]; rfl) (fun _ h => ⟨h.1, h.2.1⟩)
end

theorem szParam_ct (p : Param) (k : Int) (hk : 0 ≤ k) (hk' : k ≤ 1048576) (hl : p.name.length ≤ 9223372036854775807) :
    ACalls pk 54 [.agg (eQ p), .one (.int .i64 k)] [] (fun r o => r = .one (.int .i64 (szLen p.name.length k)) ∧ o = []) := by
  refine acalls_of_body Tryz.func54 rfl (by kernel_rfl) rfl ?_
  refine rn rfl ?_
  have hw := wrap64 (n := k - p.name.length) (by omega) (by omega)
  refine goal_cond rfl (fun h => ?_) (fun h => ?_) <;> simp only [decide_eq_true_eq, decide_eq_false_iff_not, hw] at h
  · refine rn rfl (fin_is [] rfl ⟨?_, rfl⟩)
    simp only [szLen, h, if_true]
  · refine rn rfl (fin_is [] rfl ⟨?_, rfl⟩)
    simp only [szLen, h, if_false, hw]

def szAllQ : List Param → Int → Int
  | [], k => k
  | p :: ps, k => if szLen p.name.length k < 0 then -1 else szAllQ ps (szLen p.name.length k)

def szParamS (ps : List Param) (k : Int) : Int := if szLen ps.length k < 0 then -1 else szAllQ ps (szLen ps.length k)

theorem szParamS_ct (ps : List Param) (k : Int) (hk : 0 ≤ k) (hk' : k ≤ 1048576) (hl : ps.length ≤ 9223372036854775807) (hn : ∀ p ∈ ps, p.name.length ≤ 9223372036854775807) :
    ACalls pk 27 [.one (.fs (ps.map eQ)), .one (.int .i64 k)] [] (fun r o => r = .one (.int .i64 (szParamS ps k)) ∧ o = []) := by
  refine acalls_of_body Tryz.func27 rfl (by kernel_rfl) rfl ?_
  refine rn rfl ?_
  have hw := wrap64 (n := k - ps.length) (by omega) (by omega)
  refine goal_cond rfl (fun h => ?_) (fun h => ?_) <;> simp only [decide_eq_true_eq, decide_eq_false_iff_not, List.length_map, hw] at h
  · refine rn rfl (fin_is [] rfl ⟨?_, rfl⟩)
    simp [szParamS, szLen, h]
  · refine rn rfl ?_
    have hs : szLen ps.length k = k - ps.length := by simp only [szLen, h, if_false]
    refine goal_loop_keep (fun m σ => ∃ (n q : Int) (i : Nat), n = i ∧ i ≤ ps.length ∧ m = ps.length - i ∧ 0 ≤ q ∧ q ≤ 1048576 ∧ szParamS ps k = szAllQ (ps.drop i) q ∧
        σ = ⟨[(5, .one (.int .i64 n)), (1, .one (.int .i64 q)), (0, .one (.fs (ps.map eQ)))], [], []⟩) ps.length [5, 1, 0] [] rfl
      ⟨_, _, 0, rfl, by omega, by omega, ?_, ?_, ?_, rfl⟩ ?_
    · rw [List.length_map, hw]; omega
    · rw [List.length_map, hw]; omega
    · rw [List.length_map, hw, szParamS, if_neg (by omega), hs]; rfl
    rintro m σ ⟨n, q, i, rfl, hi, rfl, hq, hq', hidx, rfl⟩
    refine rn rfl ?_
    refine goal_cond rfl (fun h => ?_) (fun h => ?_) <;> simp only [decide_eq_true_eq, decide_eq_false_iff_not, List.length_map] at h
    · obtain ⟨p, hp⟩ := at_some (xs := ps) (i := i) (by omega)
      have hpm := hn p (List.mem_of_getElem? hp)
      refine rn rfl ?_
      refine goal_did rfl rfl (dA_index (eQ p) rfl rfl rfl rfl rfl rfl rfl (by omega) (by (try simp); omega) (map_at (by simpa using hp)) rfl) ?_
      refine rn rfl ?_
      refine goal_step (step_call [] rfl rfl rfl rfl rfl rfl (szParam_ct p q hq hq' hpm)) ?_
      rintro σ2 ⟨r, o', ⟨rfl, rfl⟩, hσ⟩
      obtain rfl := Option.some.inj hσ
      clear hσ
      refine rn rfl ?_
      refine rn rfl ?_
      refine goal_cond rfl (fun h2 => ?_) (fun h2 => ?_) <;> simp only [decide_eq_true_eq, decide_eq_false_iff_not] at h2
      · refine rn rfl ?_
        refine round_ret (fin_is [] rfl ⟨?_, rfl⟩)
        rw [hidx, drop_at hp]
        simp only [szAllQ, h2, if_true]
      · refine rn rfl ?_
        refine round_keep (ps.length - (i + 1)) [5, 1, 0] [] (by omega) rfl ⟨_, _, i + 1, ?_, by omega, rfl, by omega, ?_, ?_, rfl⟩
        · exact wrap64 (by omega) (by omega)
        · have := szLen_le p.name.length q hq; omega
        · rw [hidx, drop_at hp]
          simp only [szAllQ, h2, if_false]
    · refine rn rfl ?_
      refine round_ext ?_
      refine rn rfl (fin_is [] rfl ⟨?_, rfl⟩)
      rw [hidx, List.drop_eq_nil_of_le (by omega)]
      rfl

theorem szAllQ_le : ∀ (ps : List Param) (k : Int), 0 ≤ k → szAllQ ps k ≤ k ∧ (szAllQ ps k < 0 → szAllQ ps k = -1)
  | [], k, h => by simp only [szAllQ]; omega
  | p :: ps, k, h => by
    unfold szAllQ
    have h1 := szLen_le p.name.length k h
    split
    · omega
    · have := szAllQ_le ps (szLen p.name.length k) (by omega); omega

theorem szParamS_ok {s : Sig} {k : Int} (hk : 0 ≤ k) (h : ¬ szParamS s k < 0) : (s.length : Int) ≤ k ∧ szParamS s k ≤ k := by
  unfold szParamS at h ⊢
  split at h
  · omega
  · rename_i h1
    have e1 := szLen_ok h1
    have e2 := szLen_le s.length k hk
    have e3 := szAllQ_le s (szLen s.length k) (by omega)
    rw [if_neg h1]; omega

theorem szParamS_neg {s : Sig} {k : Int} (hk : 0 ≤ k) (h : szParamS s k < 0) : szParamS s k = -1 := by
  unfold szParamS at h ⊢
  split at h
  · rename_i h1; simp [h1]
  · rename_i h1
    have e3 := szAllQ_le s (szLen s.length k) (by omega)
    rw [if_neg h1]; exact e3.2 h

theorem szSig_ct (s : Sig) (k : Int) (hk : 0 ≤ k) (hk' : k ≤ 1048576) (hs : FitsS s) :
    ACalls pk 5 [.agg (eG s), .one (.int .i64 k)] [] (fun r o => r = .one (.int .i64 (szParamS s k)) ∧ o = []) := by
  refine acalls_of_body Tryz.func5 rfl (by kernel_rfl) rfl ?_
  refine rn rfl ?_
  refine goal_step (step_call [] rfl rfl rfl rfl rfl rfl (szParamS_ct s k hk hk' hs.len hs.names)) ?_
  rintro σ2 ⟨r, o', ⟨rfl, rfl⟩, hσ⟩
  obtain rfl := Option.some.inj hσ
  clear hσ
  refine rn rfl ?_
  refine rn rfl ?_
  refine goal_cond rfl (fun h => ?_) (fun h => ?_) <;> simp only [decide_eq_true_eq, decide_eq_false_iff_not] at h
  · refine rn rfl (fin_is [] rfl ⟨?_, rfl⟩)
    rw [szParamS_neg hk h]
  · exact rn rfl (fin_is [] rfl ⟨rfl, rfl⟩)

theorem toParam_ct (p : Param) : ACalls pk 63 [.agg (eQ p)] [] (fun r o => r = .agg (eQ p) ∧ o = []) := by
  refine acalls_of_body Tryz.func63 rfl (by kernel_rfl) rfl ?_
  refine rn rfl ?_
  exact rn rfl (fin_is [] rfl ⟨rfl, rfl⟩)

theorem toQS_ct (xs : List Param) (hl : xs.length ≤ 16777216) :
    ACalls pk 31 [.one (.fs (xs.map eQ))] [] (fun r o => r = .one (.os 0 0 xs.length xs.length) ∧ o = [ownQ xs]) := by
  refine acalls_of_body Tryz.func31 rfl (by kernel_rfl) rfl ?_
  refine rn rfl ?_
  refine goal_did rfl rfl (dA_make xs.length ((List.replicate xs.length zQ).map eQ) rfl rfl rfl (by simp) (by simp) rfl rfl rfl rfl rfl (by show 40 * xs.length ≤ _; omega) (by omega) (by rw [← rep_map]; rfl)) ?_
  refine rn rfl ?_
  refine goal_loop_keep (fun m σ => ∃ (n : Int) (i L : Nat) (ys : List Param), n = i ∧ L = xs.length ∧ i ≤ xs.length ∧ m = xs.length - i ∧ ys.length = xs.length ∧ ys.take i = xs.take i ∧
      σ = ⟨[(4, .one (.int .i64 n)), (3, .one (.os 0 0 L L)), (0, .one (.fs (xs.map eQ)))], [ownQ ys], []⟩) xs.length [4, 3, 0] [0] rfl
    ⟨_, 0, _, _, rfl, ?_, by omega, by omega, len_rep _ _, rfl, rfl⟩ ?_
  · simp
  rintro m σ ⟨n, i, L, ys, rfl, rfl, hi, rfl, hys, hpre, rfl⟩
  refine rn rfl ?_
  refine goal_cond rfl (fun h => ?_) (fun h => ?_) <;> (try simp only [gt_iff_lt, ge_iff_le, bne_iff_ne, ne_eq, bne_eq_false_iff_eq, beq_iff_eq, beq_eq_false_iff_ne, Bool.not_eq_true', Bool.not_eq_false', decide_eq_true_eq, decide_eq_false_iff_not, List.length_map] at h)
  · have hlt : i < xs.length := by omega
    obtain ⟨x, hx⟩ := at_some hlt
    obtain ⟨y, hy⟩ := at_some (xs := ys) (i := i) (by omega)
    refine rn rfl ?_
    refine goal_did rfl rfl (dA_index (eQ x) rfl rfl rfl rfl rfl rfl rfl (by omega) (by (try simp); omega) (map_at (by simpa using hx)) rfl) ?_
    refine rn rfl ?_
    refine goal_step (step_call [] rfl rfl rfl rfl rfl rfl (toParam_ct x)) ?_
    rintro σ2 ⟨r, o', ⟨rfl, rfl⟩, hσ⟩
    obtain rfl := Option.some.inj hσ
    clear hσ
    refine rn rfl ?_
    refine goal_did rfl rfl (dA_indexOwn rfl rfl rfl rfl rfl rfl rfl rfl rfl (by omega) (by omega)) ?_
    refine goal_did rfl rfl (dA_storeEl (eQ y) ((ys.set i x).map eQ) true rfl rfl rfl rfl rfl (map_at (by simpa using hy)) rfl rfl (by simp [eQ]) (by rw [map_set]; simp [patch, eQ]) (fun _ => noOwnR_map _ eQ_noOwn _)) ?_
    refine rn rfl ?_
    refine round_keep (xs.length - (i + 1)) [4, 3, 0] [0] (by omega) rfl ⟨_, i + 1, xs.length, ys.set i x, ?_, rfl, by omega, rfl, by simp [hys], take_set_step xs ys i x hx hys hpre, rfl⟩
    exact wrap64 (by omega) (by omega)
  · refine rn rfl ?_
    refine round_ext ?_
    refine rn rfl (fin_is [0] rfl ⟨?_, ?_⟩)
    · rfl
    · rw [show i = xs.length by omega, List.take_length, ← hys, List.take_length] at hpre
      rw [hpre]; rfl

def rG (s : Sig) : T := .agg [.os 0 0 s.length s.length]

def oG (s : Sig) : List (Option AObj) := [ownQ s]

theorem toSig_ct (s : Sig) (hs : s.length ≤ 16777216) : ACalls pk 8 [.agg (eG s)] [] (fun r o => r = rG s ∧ o = oG s) := by
  refine acalls_of_body Tryz.func8 rfl (by kernel_rfl) rfl ?_
  refine rn rfl ?_
  refine goal_step (step_call [] rfl rfl rfl rfl rfl rfl (toQS_ct s hs)) ?_
  rintro σ2 ⟨r, o', ⟨rfl, rfl⟩, hσ⟩
  obtain rfl := Option.some.inj hσ
  clear hσ
  refine rn rfl ?_
  exact rn rfl (fin_is [3] rfl ⟨rfl, rfl⟩)

theorem eqParam_ct (p q : Param) : ACalls pk 72 [.agg (eQ p), .agg (eQ q)] [] (fun r o => r = .one (.bool (decide (p = q))) ∧ o = []) := by
  obtain ⟨a, b, c, d⟩ := p
  obtain ⟨a', b', c', d'⟩ := q
  refine acalls_of_body Tryz.func72 rfl (by kernel_rfl) rfl ?_
  refine rn rfl ?_
  refine goal_cond rfl (fun h => ?_) (fun h => ?_)
  · simp at h
    refine rn rfl (fin_is [] rfl ⟨?_, rfl⟩)
    simp [h]
  · simp at h
    refine rn rfl ?_
    refine goal_cond rfl (fun h2 => ?_) (fun h2 => ?_) <;> simp only [bne_iff_ne, ne_eq, bne_eq_false_iff_eq] at h2
    · refine rn rfl (fin_is [] rfl ⟨?_, rfl⟩)
      simp [h2]
    · refine rn rfl ?_
      refine goal_cond rfl (fun h3 => ?_) (fun h3 => ?_)
      · refine rn rfl (fin_is [] rfl ⟨?_, rfl⟩)
        simp at h3; simp [h3]
      · refine rn rfl ?_
        refine goal_cond rfl (fun h4 => ?_) (fun h4 => ?_) <;> simp only [bne_iff_ne, ne_eq, bne_eq_false_iff_eq] at h4
        · refine rn rfl (fin_is [] rfl ⟨?_, rfl⟩)
          simp [h4]
        · refine rn rfl (fin_is [] rfl ⟨?_, rfl⟩)
          simp at h3; simp [h, h2, h3, h4]

theorem eqParamS_ct (xs ys : List Param) (hx : xs.length ≤ 9223372036854775807) :
    ACalls pk 37 [.one (.fs (xs.map eQ)), .one (.fs (ys.map eQ))] [] (fun r o => r = .one (.bool (decide (xs = ys))) ∧ o = []) := by
  refine acalls_of_body Tryz.func37 rfl (by kernel_rfl) rfl ?_
  refine rn rfl ?_
  refine goal_cond rfl (fun h => ?_) (fun h => ?_) <;> (try simp only [gt_iff_lt, ge_iff_le, bne_iff_ne, ne_eq, bne_eq_false_iff_eq, beq_iff_eq, beq_eq_false_iff_ne, Bool.not_eq_true', Bool.not_eq_false', decide_eq_true_eq, decide_eq_false_iff_not, List.length_map] at h)
  · refine rn rfl (fin_is [] rfl ⟨?_, rfl⟩)
    have : xs ≠ ys := fun h0 => h (by rw [h0])
    simp [this]
  · have hlen : xs.length = ys.length := by omega
    refine rn rfl ?_
    refine goal_loop_keep (fun m σ => ∃ (n : Int) (i : Nat), n = i ∧ i ≤ xs.length ∧ m = xs.length - i ∧ xs.take i = ys.take i ∧
        σ = ⟨[(5, .one (.int .i64 n)), (1, .one (.fs (ys.map eQ))), (0, .one (.fs (xs.map eQ)))], [], []⟩) xs.length [5, 1, 0] [] rfl
      ⟨_, 0, rfl, by omega, by omega, rfl, rfl⟩ ?_
    rintro m σ ⟨n, i, rfl, hi, rfl, hpre, rfl⟩
    refine rn rfl ?_
    refine goal_cond rfl (fun h => ?_) (fun h => ?_) <;> (try simp only [gt_iff_lt, ge_iff_le, bne_iff_ne, ne_eq, bne_eq_false_iff_eq, beq_iff_eq, beq_eq_false_iff_ne, Bool.not_eq_true', Bool.not_eq_false', decide_eq_true_eq, decide_eq_false_iff_not, List.length_map] at h)
    · obtain ⟨x, hxi⟩ := at_some (xs := xs) (i := i) (by omega)
      obtain ⟨y, hyi⟩ := at_some (xs := ys) (i := i) (by omega)
      refine rn rfl ?_
      refine goal_draw' [] 10 rfl ?_
      refine drn [0, 1, 4, 5] (by kernel_rfl) (by kernel_rfl) rfl rfl ?_
      refine AH_did 2 rfl (by kernel_rfl) (by kernel_rfl) (by kernel_rfl) rfl rfl (dA_index (eQ x) rfl rfl rfl rfl rfl rfl rfl (by omega) (by (try simp); omega) (map_at (by simpa using hxi)) rfl) ?_
      refine AH_did 6 rfl (by kernel_rfl) (by kernel_rfl) (by kernel_rfl) rfl rfl (dA_index (eQ y) rfl rfl rfl rfl rfl rfl rfl (by omega) (by (try simp); omega) (map_at (by simpa using hyi)) rfl) ?_
      refine drn [3, 7] (by kernel_rfl) (by kernel_rfl) rfl rfl ?_
      refine AH_one (i := 8) (by kernel_rfl) (step_call [] rfl rfl rfl rfl rfl rfl (eqParam_ct x y)) (by simp) ?_
      rintro σ2 ⟨r, o', ⟨rfl, rfl⟩, hσ⟩
      obtain rfl := Option.some.inj hσ
      clear hσ
      refine drn [9] (by kernel_rfl) (by kernel_rfl) rfl rfl ?_
      refine AH_end (by kernel_rfl) ?_
      refine rn rfl ?_
      have hstep := take_eq_step hpre hxi hyi
      refine goal_cond rfl (fun h2 => ?_) (fun h2 => ?_) <;> simp only [bne_iff_ne, ne_eq, bne_eq_false_iff_eq, Bool.not_eq_true', Bool.not_eq_false', decide_eq_true_eq, decide_eq_false_iff_not, beq_iff_eq, beq_eq_false_iff_ne] at h2
      · refine rn rfl ?_
        refine round_ret (fin_is [] rfl ⟨?_, rfl⟩)
        have : xs ≠ ys := fun h0 => h2 (hstep.1 (by rw [h0]))
        simp [this]
      · refine rn rfl ?_
        refine round_keep (xs.length - (i + 1)) [5, 1, 0] [] (by omega) rfl ⟨_, i + 1, ?_, by omega, rfl, hstep.2 h2, rfl⟩
        exact wrap64 (by omega) (by omega)
    · refine rn rfl ?_
      refine round_ext ?_
      refine rn rfl (fin_is [] rfl ⟨?_, rfl⟩)
      rw [show i = xs.length by omega, List.take_length, hlen, List.take_length] at hpre
      simp [hpre]

theorem eqSig_ct (s : Sig) (hs : s.length ≤ 16777216) : ACalls pk 12 [.agg (eG s), .agg (eG s)] [] (fun r o => r = .one (.bool true) ∧ o = []) := by
  refine acalls_of_body Tryz.func12 rfl (by kernel_rfl) rfl ?_
  refine rn rfl ?_
  refine goal_step (step_call [] rfl rfl rfl rfl rfl rfl (eqParamS_ct s s (by omega))) ?_
  rintro σ2 ⟨r, o', ⟨rfl, rfl⟩, hσ⟩
  obtain rfl := Option.some.inj hσ
  clear hσ
  refine rn rfl ?_
  refine goal_cond rfl (fun h2 => by simp at h2) (fun _ => ?_)
  exact rn rfl (fin_is [] rfl ⟨rfl, rfl⟩)

def seqQ1 (k : Int) : Param := ⟨markText k, k + 1, Int.tmod (k + 2) 3 == 0, k + 3⟩

def seqQ (k : Int) : Nat → List Param
  | 0 => []
  | n + 1 => seqQ1 k :: seqQ (k + 4) n

theorem seqQ_length : ∀ (n : Nat) (k : Int), (seqQ k n).length = n
  | 0, k => rfl
  | n + 1, k => by simp [seqQ, seqQ_length n]

theorem seqQ_at : ∀ (n : Nat) (k : Int) (i : Nat), i < n → (seqQ k n)[i]? = some (seqQ1 (k + 4 * i))
  | n + 1, k, 0, _ => by simp [seqQ]
  | n + 1, k, i + 1, h => by
    have e1 : k + 4 + 4 * (i : Int) = k + 4 * ((i + 1 : Nat) : Int) := by omega
    simp only [seqQ, List.getElem?_cons_succ, seqQ_at n (k + 4) i (by omega), e1]

theorem markParamS_ct (xs : List Param) (k : Int) (kc : Nat) (hl : xs.length ≤ 16777216) (hk : 0 ≤ k) (hk' : k ≤ 16777216) :
    ACalls pk 39 [.one (.os 0 0 xs.length kc), .one (.int .i64 k)] [ownQ xs] (fun r o => r = .one (.int .i64 (k + 4 * xs.length)) ∧ o = [ownQ (seqQ k xs.length)]) := by
  refine acalls_of_body Tryz.func39 rfl (by kernel_rfl) rfl ?_
  refine rn rfl ?_
  refine goal_loop_keep (fun m σ => ∃ (n q : Int) (i : Nat) (ys : List Param), n = i ∧ q = k + 4 * i ∧ i ≤ xs.length ∧ m = xs.length - i ∧ ys.length = xs.length ∧ ys.take i = (seqQ k xs.length).take i ∧
      σ = ⟨[(5, .one (.int .i64 n)), (1, .one (.int .i64 q)), (0, .one (.os 0 0 xs.length kc))], [ownQ ys], []⟩) xs.length [5, 1, 0] [] rfl
    ⟨_, _, 0, xs, rfl, by simp, by omega, by omega, rfl, rfl, rfl⟩ ?_
  rintro m σ ⟨n, q, i, ys, rfl, rfl, hi, rfl, hys, hpre, rfl⟩
  refine rn rfl ?_
  refine goal_cond rfl (fun h => ?_) (fun h => ?_) <;> (try simp only [gt_iff_lt, ge_iff_le, bne_iff_ne, ne_eq, bne_eq_false_iff_eq, beq_iff_eq, beq_eq_false_iff_ne, Bool.not_eq_true', Bool.not_eq_false', decide_eq_true_eq, decide_eq_false_iff_not, List.length_map] at h)
  · obtain ⟨⟨y1, y2, y3, y4⟩, hy⟩ := at_some (xs := ys) (i := i) (by omega)
    have hw1 : IntKind.i64.wrap (k + 4 * i + 1) = k + 4 * i + 1 := wrap64 (by omega) (by omega)
    have hw2 : IntKind.i64.wrap (k + 4 * i + 1 + 1) = k + 4 * i + 2 := by rw [wrap64 (by omega) (by omega)]; omega
    have hw3 : IntKind.i64.wrap (k + 4 * i + 2 + 1) = k + 4 * i + 3 := by rw [wrap64 (by omega) (by omega)]; omega
    have hw4 : IntKind.i64.wrap (k + 4 * i + 3 + 1) = k + 4 * i + 4 := by rw [wrap64 (by omega) (by omega)]; omega
    refine rn rfl ?_
    refine goal_step (step_call [] rfl rfl rfl rfl rfl rfl (markText_ct (k + 4 * i) (by omega))) ?_
    rintro σ2 ⟨r, o', ⟨rfl, rfl⟩, hσ⟩
    obtain rfl := Option.some.inj hσ
    clear hσ
    refine rn rfl ?_
    refine goal_did rfl rfl (dA_indexOwn rfl rfl rfl rfl rfl rfl rfl rfl rfl (by omega) (by omega)) ?_
    refine goal_did rfl rfl (dA_step rfl) ?_
    refine goal_did rfl rfl (dA_storeEl (eQ ⟨y1, y2, y3, y4⟩) ((ys.set i ⟨markText (k + 4 * i), y2, y3, y4⟩).map eQ) true rfl rfl rfl rfl rfl (map_at (by simpa using hy)) rfl rfl (by simp [eQ]) (by rw [map_set]; simp [patch, eQ]) (fun _ => noOwnR_map _ eQ_noOwn _)) ?_
    refine rn rfl ?_
    rw [hw1]
    refine goal_did rfl rfl (dA_indexOwn rfl rfl rfl rfl rfl rfl rfl rfl rfl (by omega) (by omega)) ?_
    refine goal_did rfl rfl (dA_step rfl) ?_
    refine goal_did rfl rfl (dA_storeEl (eQ ⟨markText (k + 4 * i), y2, y3, y4⟩) ((ys.set i ⟨markText (k + 4 * i), k + 4 * i + 1, y3, y4⟩).map eQ) true rfl rfl rfl rfl rfl (map_at (set_at (by simp) (by omega))) rfl rfl (by simp [eQ]) (by simp only [map_set, patch, eQ]; simp) (fun _ => noOwnR_map _ eQ_noOwn _)) ?_
    refine rn rfl ?_
    rw [hw2]
    refine goal_did rfl rfl (dA_indexOwn rfl rfl rfl rfl rfl rfl rfl rfl rfl (by omega) (by omega)) ?_
    refine goal_did rfl rfl (dA_step rfl) ?_
    refine goal_did rfl rfl (dA_storeEl (eQ ⟨markText (k + 4 * i), k + 4 * i + 1, y3, y4⟩) ((ys.set i ⟨markText (k + 4 * i), k + 4 * i + 1, Int.tmod (k + 4 * i + 2) 3 == 0, y4⟩).map eQ) true rfl rfl rfl rfl rfl (map_at (set_at (by simp) (by omega))) rfl rfl (by simp [eQ]) (by simp only [map_set, patch, eQ]; simp) (fun _ => noOwnR_map _ eQ_noOwn _)) ?_
    refine rn rfl ?_
    rw [hw3]
    refine goal_did rfl rfl (dA_indexOwn rfl rfl rfl rfl rfl rfl rfl rfl rfl (by omega) (by omega)) ?_
    refine goal_did rfl rfl (dA_step rfl) ?_
    refine goal_did rfl rfl (dA_storeEl (eQ ⟨markText (k + 4 * i), k + 4 * i + 1, Int.tmod (k + 4 * i + 2) 3 == 0, y4⟩) ((ys.set i (seqQ1 (k + 4 * i))).map eQ) true rfl rfl rfl rfl rfl (map_at (set_at (by simp) (by omega))) rfl rfl (by simp [eQ]) (by simp only [map_set, patch, eQ, seqQ1]; simp) (fun _ => noOwnR_map _ eQ_noOwn _)) ?_
    refine rn rfl ?_
    refine round_keep (xs.length - (i + 1)) [5, 1, 0] [] (by omega) rfl ⟨_, _, i + 1, ys.set i _, wrap64 (by omega) (by omega), ?_, by omega, rfl, by simp [hys], take_set_step _ ys i _ (seqQ_at _ _ _ (by omega)) (by rw [seqQ_length]; exact hys) hpre, rfl⟩
    rw [hw4]; omega
  · refine rn rfl ?_
    refine round_ext ?_
    refine rn rfl (fin_is [] rfl ⟨?_, ?_⟩)
    · rw [show i = xs.length by omega]
    · rw [show i = xs.length by omega] at hpre
      have h1 : ys = seqQ k xs.length := by
        have := hpre
        rwa [← hys, List.take_length, hys, List.take_of_length_le (by rw [seqQ_length]; exact Nat.le_refl _)] at this
      rw [← h1]; rfl

theorem markSig_ct (xs : List Param) (k : Int) (kc : Nat) (hl : xs.length ≤ 16777216) (hk : 0 ≤ k) (hk' : k ≤ 16777216) :
    ACalls pk 14 [.agg [.os 0 0 xs.length kc], .one (.int .i64 k)] [ownQ xs] (fun r o => r = .one (.int .i64 (k + 4 * xs.length)) ∧ o = [ownQ (seqQ k xs.length)]) := by
  refine acalls_of_body Tryz.func14 rfl (by kernel_rfl) rfl ?_
  refine rn rfl ?_
  refine goal_step (step_call [0] rfl rfl rfl rfl rfl rfl (markParamS_ct xs k kc hl hk hk')) ?_
  rintro σ2 ⟨r, o', ⟨rfl, rfl⟩, hσ⟩
  obtain rfl := Option.some.inj hσ
  clear hσ
  refine rn rfl ?_
  exact rn rfl (fin_is [] rfl ⟨rfl, rfl⟩)

def szPart (p : Part) (k : Int) : Int := if szParamS p.sig k < 0 then -1 else szFlat p.flat (szParamS p.sig k)

theorem szFlat_neg {f : Flat} {k : Int} (h : szFlat f k < 0) : szFlat f k = -1 := by
  unfold szFlat at h ⊢
  split at h
  · rename_i h1; simp [h1]
  · rename_i h1
    split at h
    · rename_i h2; simp [h1, h2]
    · omega

theorem szPart_ct (p : Part) (k : Int) (hk : 0 ≤ k) (hk' : k ≤ 1048576) (hp : FitsP p) :
    ACalls pk 18 [.agg (ePa p), .one (.int .i64 k)] [] (fun r o => r = .one (.int .i64 (szPart p k)) ∧ o = []) := by
  refine acalls_of_body Tryz.func18 rfl (by kernel_rfl) rfl ?_
  refine rn rfl ?_
  refine goal_step (step_call [] rfl rfl rfl rfl rfl rfl (szSig_ct p.sig k hk hk' hp.sig)) ?_
  rintro σ2 ⟨r, o', ⟨rfl, rfl⟩, hσ⟩
  obtain rfl := Option.some.inj hσ
  clear hσ
  refine rn rfl ?_
  refine rn rfl ?_
  refine goal_cond rfl (fun h => ?_) (fun h => ?_) <;> simp only [decide_eq_true_eq, decide_eq_false_iff_not] at h
  · refine rn rfl (fin_is [] rfl ⟨?_, rfl⟩)
    simp [szPart, h]
  · have h1 := szParamS_ok hk h
    refine rn rfl ?_
    refine goal_step (step_call [] rfl rfl rfl rfl rfl rfl (szFlat_ct p.flat (szParamS p.sig k) (by omega) (by omega) hp.flat)) ?_
    rintro σ2 ⟨r, o', ⟨rfl, rfl⟩, hσ⟩
    obtain rfl := Option.some.inj hσ
    clear hσ
    refine rn rfl ?_
    refine rn rfl ?_
    refine goal_cond rfl (fun h2 => ?_) (fun h2 => ?_) <;> simp only [decide_eq_true_eq, decide_eq_false_iff_not] at h2
    · refine rn rfl (fin_is [] rfl ⟨?_, rfl⟩)
      have := szFlat_neg h2
      simp [szPart, h, this]
    · refine rn rfl (fin_is [] rfl ⟨?_, rfl⟩)
      simp [szPart, h]

theorem fits_of_szF {f : Flat} {k : Int} (hk0 : 0 ≤ k) (hk : k ≤ 1048576) (h : ¬ szFlat f k < 0) : f.places.length ≤ 1048576 ∧ f.named.length ≤ 1048576 ∧ szFlat f k ≤ k := by
  unfold szFlat at h ⊢
  split at h
  · omega
  · rename_i h1
    split at h
    · omega
    · rename_i h2
      have hk1 := szLen_le f.places.length k hk0
      have e1 := szLen_ok h1
      rw [if_neg h1, if_neg h2]
      unfold szPairS at h2 ⊢
      split at h2
      · omega
      · rename_i h3
        have e2 := szLen_ok h3
        have e3 := szLen_le f.named.length (szLen f.places.length k) (by omega)
        have e4 : ∀ (ps : List Pair) (k : Int), 0 ≤ k → szAll ps k ≤ k := by
          intro ps
          induction ps with
          | nil => intro k h; simp only [szAll]; omega
          | cons p ps ih =>
            intro k h
            unfold szAll
            have h1 := szLen_le p.name.length k h
            split
            · omega
            · have := ih (szLen p.name.length k) (by omega); omega
        have e5 := e4 f.named (szLen f.named.length (szLen f.places.length k)) (by omega)
        rw [if_neg h3]
        omega

theorem szPart_ok {p : Part} {k : Int} (hk0 : 0 ≤ k) (hk : k ≤ 1048576) (h : ¬ szPart p k < 0) : p.sig.length ≤ 1048576 ∧ p.flat.places.length ≤ 1048576 ∧ p.flat.named.length ≤ 1048576 ∧ szPart p k ≤ k := by
  unfold szPart at h ⊢
  split at h
  · omega
  · rename_i h1
    have e1 := szParamS_ok hk0 h1
    have e2 := fits_of_szF (by omega) (by omega) h
    rw [if_neg h1]
    omega

def rPa (p : Part) : T := .agg [.os 0 0 p.sig.length p.sig.length, .os 1 0 p.flat.places.length p.flat.places.length, .os 2 0 p.flat.named.length p.flat.named.length]

def oPa (p : Part) : List (Option AObj) := [ownQ p.sig, ownI p.flat.places, ownP p.flat.named]

theorem toPart_ct (p : Part) (h0 : p.sig.length ≤ 16777216) (h1 : p.flat.places.length ≤ 16777216) (h2 : p.flat.named.length ≤ 16777216) :
    ACalls pk 21 [.agg (ePa p)] [] (fun r o => r = rPa p ∧ o = oPa p) := by
  refine acalls_of_body Tryz.func21 rfl (by kernel_rfl) rfl ?_
  refine rn rfl ?_
  refine goal_step (step_call [] rfl rfl rfl rfl rfl rfl (toSig_ct p.sig h0)) ?_
  rintro σ2 ⟨r, o', ⟨rfl, rfl⟩, hσ⟩
  obtain rfl := Option.some.inj hσ
  clear hσ
  refine rn rfl ?_
  refine rn rfl ?_
  refine goal_step (step_call [] rfl rfl rfl rfl rfl rfl (toFlat_ct p.flat h1 h2)) ?_
  rintro σ2 ⟨r, o', ⟨rfl, rfl⟩, hσ⟩
  obtain rfl := Option.some.inj hσ
  clear hσ
  refine rn rfl ?_
  exact rn rfl (fin_is [3, 4, 5] rfl ⟨rfl, rfl⟩)

theorem asPa (p : Part) : T.agg [C.fs (List.take p.sig.length (List.drop 0 (p.sig.map eQ))), C.fs (List.take p.flat.places.length (List.drop 0 (p.flat.places.map eI))), C.fs (List.take p.flat.named.length (List.drop 0 (p.flat.named.map eP)))] = T.agg (ePa p) := by
  rw [takeAll eQ _ _ rfl, takeAll eI _ _ rfl, takeAll eP _ _ rfl]; rfl

theorem asFl (f : Flat) : T.agg [C.fs (List.take f.places.length (List.drop 0 (f.places.map eI))), C.fs (List.take f.named.length (List.drop 0 (f.named.map eP)))] = T.agg (eF f) := by
  rw [takeAll eI _ _ rfl, takeAll eP _ _ rfl]; rfl

theorem toPartD_ct (p : Part) (h0 : p.sig.length ≤ 16777216) (h1 : p.flat.places.length ≤ 16777216) (h2 : p.flat.named.length ≤ 16777216) :
    ACalls pk 21 [.agg (ePa p)] [] (fun r o => r = .agg (ePa p) ∧ o = []) :=
  (toPart_ct p h0 h1 h2).told [] (by rintro r o ⟨rfl, rfl⟩; exact ⟨_, _, rfl, asPa p, rfl⟩)

theorem toFlatD_ct (f : Flat) (h1 : f.places.length ≤ 16777216) (h2 : f.named.length ≤ 16777216) : ACalls pk 22 [.agg (eF f)] [] (fun r o => r = .agg (eF f) ∧ o = []) :=
  (toFlat_ct f h1 h2).told [] (by rintro r o ⟨rfl, rfl⟩; exact ⟨_, _, rfl, asFl f, rfl⟩)

theorem eqPart_ct (p : Part) (h0 : p.sig.length ≤ 16777216) (h1 : p.flat.places.length ≤ 16777216) (h2 : p.flat.named.length ≤ 16777216) : ACalls pk 24 [.agg (ePa p), .agg (ePa p)] [] (fun r o => r = .one (.bool true) ∧ o = []) := by
  refine acalls_of_body Tryz.func24 rfl (by kernel_rfl) rfl ?_
  refine rn rfl ?_
  refine goal_step (step_call [] rfl rfl rfl rfl rfl rfl (eqSig_ct p.sig h0)) ?_
  rintro σ2 ⟨r, o', ⟨rfl, rfl⟩, hσ⟩
  obtain rfl := Option.some.inj hσ
  clear hσ
  refine rn rfl ?_
  refine goal_cond rfl (fun h => by simp at h) (fun _ => ?_)
  refine rn rfl ?_
  refine goal_step (step_call [] rfl rfl rfl rfl rfl rfl (eqFlat_ct p.flat p.flat (by omega) (by omega))) ?_
  rintro σ2 ⟨r, o', ⟨rfl, rfl⟩, hσ⟩
  obtain rfl := Option.some.inj hσ
  clear hσ
  refine rn rfl ?_
  refine goal_cond rfl (fun h => by simp at h) (fun _ => ?_)
  exact rn rfl (fin_is [] rfl ⟨rfl, rfl⟩)

def seqFK (k : Int) (a b : Nat) : Flat := ⟨seqI k a, seqP (k + a) b⟩

theorem markFlatK_ct (f : Flat) (k : Int) (kc kd : Nat) (h1 : f.places.length ≤ 16777216) (h2 : f.named.length ≤ 16777216) (hk : 0 ≤ k) (hk' : k ≤ 8388608) :
    ACalls pk 16 [.agg [.os 0 0 f.places.length kc, .os 1 0 f.named.length kd], .one (.int .i64 k)] (oF f)
      (fun r o => r = .one (.int .i64 (k + f.places.length + 2 * f.named.length)) ∧ o = oF (seqFK k f.places.length f.named.length)) := by
  refine acalls_of_body Tryz.func16 rfl (by kernel_rfl) rfl ?_
  refine rn rfl ?_
  refine goal_step (step_call [0] rfl rfl rfl rfl rfl rfl (markIntS_ct f.places k kc h1 (by omega) (by omega))) ?_
  rintro σ2 ⟨r, o', ⟨rfl, rfl⟩, hσ⟩
  obtain rfl := Option.some.inj hσ
  clear hσ
  refine rn rfl ?_
  refine goal_step (step_call [1] rfl rfl rfl rfl rfl rfl (markPairS_ct f.named (k + f.places.length) kd h2 (by omega) (by omega))) ?_
  rintro σ2 ⟨r, o', ⟨rfl, rfl⟩, hσ⟩
  obtain rfl := Option.some.inj hσ
  clear hσ
  refine rn rfl ?_
  exact rn rfl (fin_is [] rfl ⟨rfl, rfl⟩)

theorem markPart_ct (p : Part) (k : Int) (h0 : p.sig.length ≤ 1048576) (h1 : p.flat.places.length ≤ 1048576) (h2 : p.flat.named.length ≤ 1048576) (hk : 0 ≤ k) (hk' : k ≤ 1048576) :
    ACalls pk 25 [rPa p, .one (.int .i64 k)] (oPa p) (fun r o => r = .one (.int .i64 (k + 4 * p.sig.length + p.flat.places.length + 2 * p.flat.named.length)) ∧
      o = ownQ (seqQ k p.sig.length) :: oF (seqFK (k + 4 * p.sig.length) p.flat.places.length p.flat.named.length)) := by
  refine acalls_of_body Tryz.func25 rfl (by kernel_rfl) rfl ?_
  refine rn rfl ?_
  refine goal_step (step_call [0] rfl rfl rfl rfl rfl rfl (markSig_ct p.sig k _ (by omega) (by omega) (by omega))) ?_
  rintro σ2 ⟨r, o', ⟨rfl, rfl⟩, hσ⟩
  obtain rfl := Option.some.inj hσ
  clear hσ
  refine rn rfl ?_
  refine rn rfl ?_
  refine goal_step (step_call [1, 2] rfl rfl rfl rfl rfl rfl (markFlatK_ct p.flat _ _ _ (by omega) (by omega) (by omega) (by omega))) ?_
  rintro σ2 ⟨r, o', ⟨rfl, rfl⟩, hσ⟩
  obtain rfl := Option.some.inj hσ
  clear hσ
  refine rn rfl ?_
  exact rn rfl (fin_is [] rfl ⟨rfl, rfl⟩)

structure SmallS (s : Sig) : Prop where
  len : s.length ≤ 8
  names : ∀ p ∈ s, p.name.length ≤ 7

theorem OkS.small {s : Sig} (h : OkS s) : SmallS s := ⟨h.len, fun p hp => by have := h.nameLen hp; omega⟩

/-- A flat of a draw: not long, its names short. -/
structure MidF (f : Flat) (a b : Nat) : Prop where
  places : f.places.length ≤ a
  named : f.named.length ≤ b
  names : ∀ p ∈ f.named, p.name.length ≤ 7

/-- Given by its place. -/
def byPl (pl : List Int) (i : Nat) (p : Param) : Bool := placedQ p && decide (i < pl.length)

def giveQ (s : Sig) (pl : List Int) (qs : List Pair) (i : Nat) (p : Param) : Slot :=
  if p.kind = 4 then ⟨false, [], qs.filter fun q => takesQ s q.name == (i : Int)⟩
  else if namedQ p && !byPl pl i p then (match qs.find? (nameIs p.name) with
    | some q => ⟨true, [q.value], []⟩
    | none => zL)
  else place1 (placesQ s) pl i p

def wrongQ (s : Sig) (pl : List Int) (q : Pair) : Option Problem :=
  if takesQ s q.name < 0 then some ⟨1, q.name⟩ else
  match s[(takesQ s q.name).toNat]? with
  | some p => if p.kind = 4 then none else if byPl pl (takesQ s q.name).toNat p then some ⟨2, q.name⟩ else none
  | none => none

def closedQ (s : Sig) (pl : List Int) (qs : List Pair) : Bnds × List Problem := (s.mapIdx (giveQ s pl qs), manyQ s pl ++ qs.filterMap (wrongQ s pl))

theorem giveQ_nil {s : Sig} (pl : List Int) (i : Nat) (p : Param) : giveQ s pl [] i p = place1 (placesQ s) pl i p := by
  unfold giveQ
  by_cases h4 : p.kind = 4
  · rw [if_pos h4]
    have : placedQ p = false := by
      cases h : placedQ p with
      | false => rfl
      | true => rw [placed_kind] at h; omega
    unfold place1
    simp [this, h4, zL]
  · rw [if_neg h4]
    split
    · rename_i h
      simp only [Bool.and_eq_true, Bool.not_eq_true'] at h
      have hk := named_kind.1 h.1
      unfold place1
      unfold byPl at h
      rw [h.2]
      have : (p.kind == 2) = false := by simp; omega
      simp [this]
    · rfl

theorem closed_nil (s : Sig) (pl : List Int) : closedQ s pl [] = (phase1 s pl, manyQ s pl) := by
  simp only [closedQ, phase1, List.filterMap_nil, List.append_nil]
  congr 1
  apply List.ext_getElem?
  intro i
  rw [List.getElem?_mapIdx, List.getElem?_mapIdx]
  cases s[i]? with
  | none => rfl
  | some p => simp only [Option.map_some, giveQ_nil]

theorem takes_named {s : Sig} (hs : OkS s) {i : Nat} {p : Param} (hp : s[i]? = some p) (hn : namedQ p = true) : takesQ s p.name = (i : Int) := by
  have hq : ∀ j q, s[j]? = some q → q.name = p.name → j = i := fun j q hj hqn => by
    have hnd := hs.nodup
    rw [List.nodup_iff_pairwise_ne, List.pairwise_iff_getElem] at hnd
    have hi := lt_of_some hp
    have hjl := lt_of_some hj
    rw [List.getElem?_eq_getElem hi] at hp
    rw [List.getElem?_eq_getElem hjl] at hj
    simp only [Option.some.injEq] at hp hj
    rcases Nat.lt_trichotomy j i with h | h | h
    · exact absurd (by rw [List.getElem_map, List.getElem_map, hp, hj, hqn]) (hnd j i (by simpa using hjl) (by simpa using hi) h)
    · exact h
    · exact absurd (by rw [List.getElem_map, List.getElem_map, hp, hj, hqn]) (hnd i j (by simpa using hi) (by simpa using hjl) h)
  have hany : s.any (qIs p.name) = true := by rw [List.any_eq_true]; exact ⟨p, List.mem_of_getElem? hp, by simp [qIs]⟩
  obtain ⟨q, hf, hqi, hqn, hlt⟩ := idxI_find (idxI_ge (i := 0).2 hany)
  have hqn' : q.name = p.name := by simpa [qIs] using hqn
  have hix := hq _ q hqi hqn'
  have hpq : q = p := by rw [hix, hp] at hqi; exact (Option.some.inj hqi).symm
  have h0 := idxI_ge (i := 0).2 hany
  unfold takesQ
  rw [hf]
  simp only [hpq, hn, if_true]
  omega

theorem find_snoc {qs : List Pair} {q : Pair} {n : Str} : (qs ++ [q]).find? (nameIs n) = (match qs.find? (nameIs n) with
    | some x => some x
    | none => if q.name = n then some q else none) := by
  rw [List.find?_append]
  cases qs.find? (nameIs n) with
  | some x => rfl
  | none =>
    simp only [Option.none_or, List.find?_cons, List.find?_nil, nameIs]
    by_cases h : q.name = n
    · simp [h]
    · have : (q.name == n) = false := by simpa using h
      simp [h, this]

theorem find_none {qs : List Pair} {n : Str} (h : n ∉ namesOf qs) : qs.find? (nameIs n) = none := by
  rw [List.find?_eq_none]
  intro x hx hxn
  exact h (by simp only [nameIs, beq_iff_eq] at hxn; rw [← hxn]; exact List.mem_map_of_mem hx)

theorem closed_step {s : Sig} (hs : OkS s) {pl : List Int} {qs : List Pair} {q : Pair} (hq : q.name ∉ namesOf qs) : stepB s (closedQ s pl qs) q = closedQ s pl (qs ++ [q]) := by
  by_cases hneg : takesQ s q.name < 0
  · rw [stepB_neg hneg]
    simp only [closedQ, List.filterMap_append, List.filterMap_cons, List.filterMap_nil, wrongQ, hneg, if_true, List.append_assoc]
    congr 1
    apply List.ext_getElem?
    intro i
    simp only [List.getElem?_mapIdx]
    cases hp : s[i]? with
    | none => rfl
    | some p =>
      simp only [Option.map_some, Option.some.injEq, giveQ]
      split
      · have : (takesQ s q.name == (i : Int)) = false := by simp; omega
        simp [this]
      · split
        · rename_i h4 hn
          simp only [Bool.and_eq_true] at hn
          have ht := takes_named hs hp hn.1
          rw [find_snoc]
          have hne : q.name ≠ p.name := fun h0 => by rw [h0, ht] at hneg; omega
          rw [if_neg hne]
          cases qs.find? (nameIs p.name) <;> rfl
        · rfl
  · obtain ⟨p, hp, hlt, hk⟩ := takesQ_some hneg
    have hat : takesQ s q.name = ((takesQ s q.name).toNat : Nat) := by omega
    generalize hj : (takesQ s q.name).toNat = j at hp hat
    have hx : (closedQ s pl qs).1[j]? = some (giveQ s pl qs j p) := by simp [closedQ, hp]
    have hother : ∀ (i : Nat) (r : Param), s[i]? = some r → i ≠ j → giveQ s pl (qs ++ [q]) i r = giveQ s pl qs i r := fun i r hr hij => by
      simp only [giveQ]
      split
      · have : (takesQ s q.name == (i : Int)) = false := by rw [hat]; simp; omega
        simp [this]
      · split
        · rename_i h4 hn
          simp only [Bool.and_eq_true] at hn
          have ht := takes_named hs hr hn.1
          rw [find_snoc]
          have hne : q.name ≠ r.name := fun h0 => by rw [h0, ht] at hat; omega
          rw [if_neg hne]
          cases qs.find? (nameIs r.name) <;> rfl
        · rfl
    have hset : ∀ y : Slot, giveQ s pl (qs ++ [q]) j p = y → (closedQ s pl qs).1.set j y = (closedQ s pl (qs ++ [q])).1 := fun y hy => by
      apply List.ext_getElem?
      intro i
      simp only [closedQ, List.getElem?_set, List.getElem?_mapIdx, List.length_mapIdx]
      by_cases hij : j = i
      · subst hij; rw [if_pos rfl, if_pos (lt_of_some hp), hp]; simp [hy]
      · rw [if_neg hij]
        cases hr : s[i]? with
        | none => rfl
        | some r => simp [hother i r hr (fun h => hij h.symm)]
    have hwr : ∀ w : Option Problem, wrongQ s pl q = w → (closedQ s pl (qs ++ [q])).2 = (closedQ s pl qs).2 ++ w.toList := fun w hw => by
      simp only [closedQ, List.filterMap_append, List.append_assoc]
      congr 1
      congr 1
      cases w <;> simp [List.filterMap_cons, hw]
    by_cases h4 : p.kind = 4
    · rw [stepB_map hat hp hx h4]
      have hw : wrongQ s pl q = none := by simp [wrongQ, hneg, hj, hp, h4]
      have h1 := hwr none hw
      refine Prod.ext (hset _ ?_) (by rw [h1]; simp)
      simp [giveQ, h4, hat]
    · have hn : namedQ p = true ∧ p.name = q.name := by
        rcases hk with h | h
        · exact h
        · exact absurd h h4
      have hnf : qs.find? (nameIs p.name) = none := by rw [hn.2]; exact find_none hq
      by_cases hb : byPl pl j p = true
      · have hg : (giveQ s pl qs j p).given = true := by
          unfold byPl at hb
          simp only [giveQ, h4, if_false, hn.1, byPl, hb, Bool.not_true, Bool.and_false, Bool.false_eq_true, place1, if_true]
        rw [stepB_twice hat hp hx h4 hg]
        have hw : wrongQ s pl q = some ⟨2, q.name⟩ := by simp [wrongQ, hneg, hj, hp, h4, hb]
        have h1 := hwr _ hw
        refine Prod.ext ?_ (by rw [h1]; rfl)
        have h2 := hset (giveQ s pl qs j p) (by simp only [giveQ, h4, if_false, hn.1, hb, Bool.not_true, Bool.and_false, Bool.false_eq_true])
        rw [set_same hx] at h2
        exact h2
      · have hb' : byPl pl j p = false := by simpa using hb
        have hg : (giveQ s pl qs j p).given = false := by
          simp only [giveQ, h4, if_false, hn.1, hb', Bool.not_false, Bool.and_self, if_true, hnf, zL]
        rw [stepB_set hat hp hx h4 hg]
        have hw : wrongQ s pl q = none := by simp [wrongQ, hneg, hj, hp, h4, hb']
        have h1 := hwr none hw
        refine Prod.ext (hset _ ?_) (by rw [h1]; simp)
        rw [hn.2] at hnf
        simp only [giveQ, h4, if_false, hn.1, hb', Bool.not_false, Bool.and_self, if_true, find_snoc, hnf, hn.2]

theorem closed_fold {s : Sig} (hs : OkS s) {pl : List Int} : ∀ (rs qs : List Pair), (namesOf (qs ++ rs)).Nodup → rs.foldl (stepB s) (closedQ s pl qs) = closedQ s pl (qs ++ rs)
  | [], qs, _ => by simp
  | r :: rs, qs, h => by
    have hr : r.name ∉ namesOf qs := by
      intro h0
      simp only [namesOf, List.map_append, List.map_cons] at h h0
      exact (List.nodup_append.1 h).2.2 _ h0 _ (List.mem_cons_self ..) rfl
    rw [List.foldl_cons, closed_step hs hr, closed_fold hs rs (qs ++ [r]) (by simpa using h)]
    simp

/-- What a call gives. -/
theorem bound_closed {s : Sig} (hs : OkS s) {f : Flat} (hf : (namesOf f.named).Nodup) : boundQ s f = closedQ s f.places f.named := by
  rw [boundQ, ← closed_nil, closed_fold hs f.named [] (by simpa using hf)]
  simp

def atP (f : Flat) (q : Param) : Bool := q.kind == 1 && f.named.any (nameIs q.name)

def atQ (s : Sig) (f : Flat) : Int := idxI (atP f) s 0

def giveP (f : Flat) (q : Param) : Param := if namedQ q then (match f.named.find? (nameIs q.name) with
  | some r => ⟨q.name, q.kind, true, r.value⟩
  | none => q) else q

def kindP (b : Bool) (q : Param) : Param := if q.kind == 1 && b then ⟨q.name, 3, q.hasD, q.dflt⟩ else q

def skipP (at' : Int) (f : Flat) (i : Nat) (q : Param) : Bool := (placedQ q && decide (i < f.places.length)) || (q.kind == 2 && decide (0 ≤ at'))

def partParam (at' : Int) (f : Flat) (i : Nat) (q : Param) : Option Param :=
  if skipP at' f i q then none else some (giveP f (kindP (decide (0 ≤ at') && decide (at' ≤ i)) q))

def psL (at' : Int) (f : Flat) (s : Sig) : Sig := s.zipIdx.filterMap fun x => partParam at' f x.2 x.1

theorem psL_succ {at' : Int} {f : Flat} {s : Sig} {i : Nat} {q : Param} (hq : s[i]? = some q) : psL at' f (s.take (i + 1)) = psL at' f (s.take i) ++ (partParam at' f i q).toList := by
  have hl : (s.take i).length = i := by have := lt_of_some hq; simp; omega
  unfold psL
  rw [← take_snoc hq, List.zipIdx_append, List.filterMap_append, hl]
  simp [List.filterMap_cons]
  cases partParam at' f i q <;> rfl

theorem partParam_name {at' : Int} {f : Flat} {i : Nat} {q r : Param} (h : partParam at' f i q = some r) : r.name = q.name := by
  unfold partParam at h
  split at h
  · cases h
  · simp only [Option.some.injEq] at h
    rw [← h]
    unfold giveP kindP
    split <;> split <;> (try split) <;> rfl

theorem idxI_le {α : Type} {pred : α → Bool} : ∀ {xs : List α} {k i : Nat} {x : α}, xs[i]? = some x → pred x = true → 0 ≤ idxI pred xs k ∧ idxI pred xs k ≤ ((k + i : Nat) : Int)
  | y :: xs, k, 0, x, hx, hp => by
    simp at hx; subst hx
    simp [idxI, hp]
  | y :: xs, k, i + 1, x, hx, hp => by
    simp only [List.getElem?_cons_succ] at hx
    have := idxI_le (k := k + 1) hx hp
    unfold idxI
    split
    · omega
    · omega

theorem part_np {s : Sig} {f : Flat} (h : partQ s f = true) {i : Nat} {x : Param} (hx : s[i]? = some x) (hp : placedQ x = true) (hi : i < f.places.length) (hn : namedQ x = true) : f.named.any (nameIs x.name) = false := by
  simp only [partQ, Bool.and_eq_true, decide_eq_true_eq] at h
  obtain ⟨h1, h2⟩ := h
  obtain ⟨hs, hf⟩ := fitQ_iff.1 h1
  have hnd : (namesOf f.named).Nodup := by
    have := okFlat_iff.2 hf
    simp [okFlat] at this; exact this.1.1.1.2
  rw [bound_closed hs hnd] at h2
  simp only [closedQ, List.append_eq_nil_iff, List.filterMap_eq_nil_iff] at h2
  cases ha : f.named.any (nameIs x.name) with
  | false => rfl
  | true =>
    rw [List.any_eq_true] at ha
    obtain ⟨q, hq, hqn⟩ := ha
    simp only [nameIs, beq_iff_eq] at hqn
    have hw := h2.2 q hq
    have ht := takes_named hs hx hn
    rw [← hqn] at ht
    have hk := placed_kind.1 hp
    have hb : byPl f.places i x = true := by simp [byPl, hp, hi]
    unfold wrongQ at hw
    rw [ht] at hw
    simp only [Int.toNat_natCast, hx] at hw
    rw [if_neg (by omega), if_neg (by omega), if_pos hb] at hw
    cases hw

theorem np_at {s : Sig} {f : Flat} (h : partQ s f = true) {i : Nat} {x : Param} (hx : s[i]? = some x) (hp : placedQ x = true) (hi : i < f.places.length) : atP f x = false := by
  unfold atP
  cases hk : x.kind == 1 with
  | false => rfl
  | true =>
    rw [part_np h hx hp hi (by simp at hk; simp [namedQ, hk])]; rfl

def psQ (s : Sig) (f : Flat) : Sig := psL (atQ s f) f s

def FullF (p : Part) (f : Flat) : Flat × Bool := if partQ p.sig p.flat then OverF p.flat f else (zF, false)

structure LenP (p : Part) : Prop where
  sig : LenS p.sig
  flat : LenF p.flat

theorem partQ_flat {s : Sig} {f : Flat} (h : partQ s f = true) : okFlat f = true := by
  simp only [partQ, Bool.and_eq_true] at h
  exact okFlat_iff.2 (fitQ_iff.1 h.1).2

theorem iover_o (f g : Flat) (hf : LenF f) (hg : LenF g) : ACalls pk 82 [.agg (eF f), .agg (eF g)] [] (fun r o => r = .tup [rF (OverF f g).1, .one (.bool (OverF f g).2)] ∧ o = oF (OverF f g).1) := iover_ct f g hf hg

theorem ifull_ct (p : Part) (f : Flat) (hp : LenP p) (hf : LenF f) : ACalls pk 51 [.agg (ePa p), .agg (eF f)] [] (fun r o => r = .tup [rF (FullF p f).1, .one (.bool (FullF p f).2)] ∧ o = oF (FullF p f).1) := by
  refine acalls_of_body Tryz.func51 rfl (by kernel_rfl) rfl ?_
  refine rn rfl ?_
  refine goal_step (step_call [] rfl rfl rfl rfl rfl rfl (ivalidPartial_ct p.sig p.flat hp.sig hp.flat)) ?_
  rintro σ2 ⟨r, o', ⟨rfl, rfl⟩, hσ⟩
  obtain rfl := Option.some.inj hσ
  clear hσ
  refine rn rfl ?_
  refine goal_cond rfl (fun h => ?_) (fun h => ?_) <;> (try simp only [gt_iff_lt, ge_iff_le, bne_iff_ne, ne_eq, bne_eq_false_iff_eq, beq_iff_eq, beq_eq_false_iff_ne, Bool.not_eq_true', Bool.not_eq_false', decide_eq_true_eq, decide_eq_false_iff_not, List.length_map] at h)
  · refine rn rfl ?_
    refine fin_weak (Weak.adoptO 2 0 1) (fin_weak (Weak.adoptO 2 1 2) (fin_is [3, 4] rfl ⟨?_, ?_⟩))
    · simp [FullF, h]; rfl
    · simp [FullF, h]; rfl
  · refine rn rfl ?_
    refine goal_step (step_call [] rfl rfl rfl rfl rfl rfl (iover_o p.flat f hp.flat hf)) ?_
    rintro σ2 ⟨r, o', ⟨rfl, rfl⟩, hσ⟩
    obtain rfl := Option.some.inj hσ
    clear hσ
    refine rn rfl ?_
    refine rn rfl (fin_is [3, 4] rfl ⟨?_, ?_⟩)
    · simp only [FullF, h, if_true]; rfl
    · simp only [FullF, h, if_true]; rfl

theorem ifullD_ct (p : Part) (f : Flat) (hp : LenP p) (hf : LenF f) : ACalls pk 51 [.agg (ePa p), .agg (eF f)] [] (fun r o => r = .tup [.agg (eF (FullF p f).1), .one (.bool (FullF p f).2)] ∧ o = []) :=
  (ifull_ct p f hp hf).told [] (by rintro r o ⟨rfl, rfl⟩; exact ⟨_, _, rfl, tellF _ _, rfl⟩)

theorem sfull_ct (p : Part) (f : Flat) (hp : LenP p) (hf : LenF f) : ACalls pk 47 [.agg (ePa p), .agg (eF f)] [] (fun r o => r = .tup [.agg (eF (FullF p f).1), .one (.bool (FullF p f).2)] ∧ o = []) := by
  have b1 := hf.places
  have b2 := hf.named
  refine acalls_of_body Tryz.func47 rfl (by kernel_rfl) rfl ?_
  refine rn rfl ?_
  refine goal_step (step_call [] rfl rfl rfl rfl rfl rfl (svalidPartial_ct p.sig p.flat hp.sig hp.flat)) ?_
  rintro σ2 ⟨r, o', ⟨rfl, rfl⟩, hσ⟩
  obtain rfl := Option.some.inj hσ
  clear hσ
  refine rn rfl ?_
  refine goal_guard rfl rfl rfl (fun h => ?_) (fun h => ?_) <;> (try simp only [gt_iff_lt, ge_iff_le, bne_iff_ne, ne_eq, bne_eq_false_iff_eq, beq_iff_eq, beq_eq_false_iff_ne, Bool.not_eq_true', Bool.not_eq_false', decide_eq_true_eq, decide_eq_false_iff_not, List.length_map] at h)
  · refine rn rfl (fin_is [] rfl ⟨?_, rfl⟩)
    simp [FullF, h]; rfl
  refine rn rfl ?_
  refine goal_step (step_call [] rfl rfl rfl rfl rfl rfl (svalidFlat_ct f (by omega) (by omega) hf.names)) ?_
  rintro σ2 ⟨r, o', ⟨rfl, rfl⟩, hσ⟩
  obtain rfl := Option.some.inj hσ
  clear hσ
  refine rn rfl ?_
  refine goal_cond rfl (fun h2 => ?_) (fun h2 => ?_) <;> (try simp only [gt_iff_lt, ge_iff_le, bne_iff_ne, ne_eq, bne_eq_false_iff_eq, beq_iff_eq, beq_eq_false_iff_ne, Bool.not_eq_true', Bool.not_eq_false', decide_eq_true_eq, decide_eq_false_iff_not, List.length_map] at h2)
  · refine rn rfl (fin_is [] rfl ⟨?_, rfl⟩)
    simp [FullF, h, OverF, h2]; rfl
  have hq := partQ_flat h
  have hF := okFlat_iff.1 hq
  have hG := okFlat_iff.1 h2
  have ho : FullF p f = checkF (overQ p.flat f) true := by unfold FullF; rw [if_pos h]; unfold OverF; rw [if_pos (by simp [hq, h2, okFlat_iff.2 hF, okFlat_iff.2 hG])]
  obtain ⟨l1, l2, l3⟩ := hp.flat.over hf
  rw [ho]
  refine rn rfl ?_
  refine goal_step (step_call [] rfl rfl rfl rfl rfl rfl (sover_ct p.flat f hp.flat hf (by have := hF.named; omega) (by have := hG.named; omega))) ?_
  rintro σ2 ⟨r, o', ⟨rfl, rfl⟩, hσ⟩
  obtain rfl := Option.some.inj hσ
  clear hσ
  refine rn rfl ?_
  refine goal_step (step_call [] rfl rfl rfl rfl rfl rfl (checkedFlat_ct (overQ p.flat f) l1 l2 l3)) ?_
  rintro σ2 ⟨r, o', ⟨rfl, rfl⟩, hσ⟩
  obtain rfl := Option.some.inj hσ
  clear hσ
  refine rn rfl ?_
  exact rn rfl (fin_is [] rfl ⟨rfl, rfl⟩)

theorem full_names {p : Part} {f : Flat} : LenF (FullF p f).1 := by
  unfold FullF OverF checkF
  split
  · split
    · split
      · rename_i h
        simp only [Bool.true_and] at h
        exact (okFlat_iff.1 h).len
      · exact ⟨by simp [zF], by simp [zF], by simp [zF]⟩
    · exact ⟨by simp [zF], by simp [zF], by simp [zF]⟩
  · exact ⟨by simp [zF], by simp [zF], by simp [zF]⟩

theorem acc_iff {s : Sig} {f : Flat} (hs : OkS s) (hf : OkF f) : accQ s f = true ↔
    (placesQ s < f.places.length → s.any (kIs 2) = true) ∧ (∀ q ∈ f.named, wrongQ s f.places q = none) ∧ missingQ s (s.mapIdx (giveQ s f.places f.named)) = [] := by
  have hb := bound_closed hs hf.nodup
  unfold accQ bindQ
  rw [hb]
  simp only [closedQ, decide_eq_true_eq, List.append_eq_nil_iff, List.filterMap_eq_nil_iff, and_assoc]
  have hm : manyQ s f.places = [] ↔ (placesQ s < f.places.length → s.any (kIs 2) = true) := by
    unfold manyQ
    split
    · rename_i h
      simp only [Bool.and_eq_true, decide_eq_true_eq, Bool.not_eq_true'] at h
      constructor
      · intro h0; cases h0
      · intro h0; rw [h0 h.1] at h; cases h.2
    · rename_i h
      simp only [true_iff]
      intro h0
      cases ha : s.any (kIs 2) with
      | true => rfl
      | false => exact absurd (by simp [h0, ha]) h
  rw [hm]

theorem give_given {s : Sig} {pl : List Int} {qs : List Pair} {i : Nat} {p : Param} (h : singleQ p = true) :
    (giveQ s pl qs i p).given = (byPl pl i p || (namedQ p && qs.any (nameIs p.name))) := by
  rw [single_kind] at h
  have hf : (qs.find? (nameIs p.name)).isSome = qs.any (nameIs p.name) := by
    cases ha : qs.any (nameIs p.name) with
    | true =>
      rw [List.find?_isSome]
      exact List.any_eq_true.1 ha
    | false =>
      cases hq : qs.find? (nameIs p.name) with
      | none => rfl
      | some q =>
        have h1 := List.mem_of_find?_eq_some hq
        have h2 := List.find?_some hq
        have : qs.any (nameIs p.name) = true := List.any_eq_true.2 ⟨q, h1, h2⟩
        rw [this] at ha; cases ha
  unfold giveQ
  rw [if_neg (by omega)]
  cases hb : byPl pl i p with
  | true =>
    simp only [Bool.not_true, Bool.and_false, Bool.true_or]
    unfold byPl at hb
    simp [place1, hb]
  | false =>
    cases hn : namedQ p with
    | true =>
      simp only [Bool.not_false, Bool.and_self, if_true, Bool.false_or, Bool.true_and]
      rw [← hf]
      cases qs.find? (nameIs p.name) <;> rfl
    | false =>
      simp only [Bool.false_and, Bool.false_or]
      unfold byPl at hb
      have h2 : (p.kind == 2) = false := by simp; omega
      simp [place1, hb, h2, zL]

/-- What is lacking, parameter by parameter. -/
theorem lack_iff {s : Sig} {pl : List Int} {qs : List Pair} : missingQ s (s.mapIdx (giveQ s pl qs)) = [] ↔
    ∀ (i : Nat) (p : Param), s[i]? = some p → singleQ p = true → p.hasD = true ∨ byPl pl i p = true ∨ (namedQ p = true ∧ qs.any (nameIs p.name) = true) := by
  unfold missingQ
  rw [List.filterMap_eq_nil_iff]
  constructor
  · intro h i p hp hsg
    have hz : (p, giveQ s pl qs i p) ∈ s.zip (s.mapIdx (giveQ s pl qs)) := List.mem_of_getElem? (i := i) (by
      rw [List.getElem?_zip_eq_some]; exact ⟨hp, by simp [List.getElem?_mapIdx, hp]⟩)
    have h1 := h _ hz
    unfold lackQ at h1
    simp only [give_given hsg, hsg, Bool.true_and] at h1
    split at h1
    · cases h1
    · rename_i h2
      cases hd : p.hasD with
      | true => exact .inl rfl
      | false =>
        right
        rw [hd] at h2
        simp only [Bool.not_false, Bool.true_and, Bool.not_eq_true', Bool.not_eq_false] at h2
        simpa using h2
  · intro h z hz
    obtain ⟨i, hi⟩ := List.getElem?_of_mem hz
    rw [List.getElem?_zip_eq_some] at hi
    obtain ⟨h1, h2⟩ := hi
    rw [List.getElem?_mapIdx, h1] at h2
    simp only [Option.map_some, Option.some.injEq] at h2
    unfold lackQ
    split
    · rename_i h3
      simp only [Bool.and_eq_true, Bool.not_eq_true'] at h3
      have h4 := h i z.1 h1 h3.1.1
      rw [← h2, give_given h3.1.1] at h3
      rcases h4 with h4 | h4 | ⟨h4, h5⟩
      · rw [h4] at h3; cases h3.1.2
      · rw [h4] at h3; cases h3.2
      · rw [h4, h5] at h3; simp at h3
    · rfl

/-- What is wrong with a name. -/
theorem wrong_iff {s : Sig} {pl : List Int} {q : Pair} : wrongQ s pl q = none ↔
    0 ≤ takesQ s q.name ∧ ∀ p, s[(takesQ s q.name).toNat]? = some p → p.kind ≠ 4 → byPl pl (takesQ s q.name).toNat p = false := by
  unfold wrongQ
  constructor
  · intro h
    split at h
    · cases h
    · rename_i h1
      refine ⟨by omega, fun p hp hk => ?_⟩
      rw [hp] at h
      simp only at h
      rw [if_neg hk] at h
      cases hb : byPl pl (takesQ s q.name).toNat p with
      | false => rfl
      | true => rw [if_pos hb] at h; cases h
  · rintro ⟨h1, h2⟩
    rw [if_neg (by omega)]
    cases hp : s[(takesQ s q.name).toNat]? with
    | none => rfl
    | some p =>
      simp only
      by_cases hk : p.kind = 4
      · rw [if_pos hk]
      · rw [if_neg hk, if_neg (by rw [h2 p hp hk]; simp)]

def CallF (p : Part) (f : Flat) : Bnds × Bool := if (FullF p f).2 then BindQ p.sig (FullF p f).1 else ([], false)

theorem icallPart_ct (p : Part) (f : Flat) (hp : LenP p) (hf : LenF f) : ACalls pk 23 [.agg (ePa p), .agg (eF f)] [] (fun r o => r = .tup [.agg (eBi (CallF p f).1), .one (.bool (CallF p f).2)] ∧ o = []) := by
  have lg := full_names (p := p) (f := f)
  have hE : CallF p f = if (FullF p f).2 then BindQ p.sig (FullF p f).1 else ([], false) := rfl
  have hI := ifullD_ct p f hp hf
  rw [hE]
  generalize (FullF p f).1 = G at *
  generalize (FullF p f).2 = b at *
  refine acalls_of_body Tryz.func23 rfl (by kernel_rfl) rfl ?_
  refine rn rfl ?_
  refine goal_step (step_call [] rfl rfl rfl rfl rfl rfl (hI)) ?_
  rintro σ2 ⟨r, o', ⟨rfl, rfl⟩, hσ⟩
  obtain rfl := Option.some.inj hσ
  clear hσ
  refine rn rfl ?_
  refine goal_cond rfl (fun h => ?_) (fun h => ?_) <;> (try simp only [gt_iff_lt, ge_iff_le, bne_iff_ne, ne_eq, bne_eq_false_iff_eq, beq_iff_eq, beq_eq_false_iff_ne, Bool.not_eq_true', Bool.not_eq_false', decide_eq_true_eq, decide_eq_false_iff_not, List.length_map] at h)
  · subst h
    exact rn rfl (fin_is [] rfl ⟨rfl, rfl⟩)
  · subst h
    refine rn rfl ?_
    refine goal_step (step_call [] rfl rfl rfl rfl rfl rfl (iBindD_ct p.sig G hp.sig lg)) ?_
    rintro σ2 ⟨r, o', ⟨rfl, rfl⟩, hσ⟩
    obtain rfl := Option.some.inj hσ
    clear hσ
    refine rn rfl ?_
    exact rn rfl (fin_is [] rfl ⟨rfl, rfl⟩)

theorem place1_small (np : Nat) (pl : List Int) (i : Nat) (p : Param) (h : pl.length ≤ 8) : (place1 np pl i p).list.length ≤ 8 ∧ (place1 np pl i p).pairs.length ≤ 8 := by
  unfold place1
  split
  · simp
  · split
    · simp; omega
    · simp [zL]

theorem bind_small (s : Sig) (f : Flat) : (BindQ s f).1.length ≤ 8 ∧ ∀ x ∈ (BindQ s f).1, x.list.length ≤ 8 ∧ x.pairs.length ≤ 8 := by
  unfold BindQ
  split
  · rename_i h
    simp only [Bool.and_eq_true] at h
    obtain ⟨hs, hf⟩ := fitQ_iff.1 h.1
    have h1 := hf.places
    have h2 := hf.named
    rw [bound_closed hs hf.nodup]
    refine ⟨by simp only [closedQ, List.length_mapIdx]; exact hs.len, fun x hx => ?_⟩
    simp only [closedQ, List.mem_mapIdx] at hx
    obtain ⟨i, hi, rfl⟩ := hx
    unfold giveQ
    split
    · have := List.length_filter_le (fun q : Pair => takesQ s q.name == (i : Int)) f.named
      simp; omega
    · split
      · split <;> simp [zL]
      · exact place1_small _ _ _ _ h1
  · simp

theorem name_inj {s : Sig} (hs : OkS s) {i j : Nat} {p q : Param} (hp : s[i]? = some p) (hq : s[j]? = some q) (h : p.name = q.name) : i = j := by
  refine (List.getElem?_inj (l := s.map Param.name) (by have := lt_of_some hp; simpa using this) hs.nodup).1 ?_
  rw [List.getElem?_map, List.getElem?_map, hp, hq]
  simp [h]

theorem any_names {qs : List Pair} {n : Str} : qs.any (nameIs n) = true ↔ n ∈ namesOf qs := by
  simp [namesOf, nameIs]

/-- Where a name goes. -/
def goesQ (s : Sig) (n : Str) : Prop := (∃ (i : Nat) (p : Param), s[i]? = some p ∧ namedQ p = true ∧ p.name = n) ∨ ∃ p ∈ s, p.kind = 4

theorem takes_goes {s : Sig} (hs : OkS s) {n : Str} : 0 ≤ takesQ s n ↔ goesQ s n := by
  constructor
  · intro h
    obtain ⟨p, hp, _, hk⟩ := takesQ_some (show ¬ takesQ s n < 0 by omega)
    rcases hk with ⟨h1, h2⟩ | h1
    · exact .inl ⟨_, p, hp, h1, h2⟩
    · exact .inr ⟨p, List.mem_of_getElem? hp, h1⟩
  · intro h
    by_cases hA : ∃ (i : Nat) (p : Param), s[i]? = some p ∧ namedQ p = true ∧ p.name = n
    · obtain ⟨i, p, hp, hn, rfl⟩ := hA
      rw [takes_named hs hp hn]; omega
    · rcases h with h | ⟨p, hp, hk⟩
      · exact absurd h hA
      · have h4 : takesQ s n = idxI (kIs 4) s 0 := by
          cases hf : s.find? (qIs n) with
          | none => simp [takesQ, hf]
          | some q =>
            cases hn : namedQ q with
            | false => simp [takesQ, hf, hn]
            | true =>
              have h1 := List.mem_of_find?_eq_some hf
              have h2 := List.find?_some hf
              obtain ⟨i, hi⟩ := List.getElem?_of_mem h1
              exact absurd ⟨i, q, hi, hn, by simpa [qIs] using h2⟩ hA
        rw [h4]
        exact idxI_ge.2 (List.any_eq_true.2 ⟨p, hp, by simpa [kIs] using hk⟩)

theorem wrong_iff2 {s : Sig} (hs : OkS s) {pl : List Int} {q : Pair} : wrongQ s pl q = none ↔
    goesQ s q.name ∧ ∀ (i : Nat) (p : Param), s[i]? = some p → namedQ p = true → p.name = q.name → byPl pl i p = false := by
  rw [wrong_iff, takes_goes hs]
  constructor
  · rintro ⟨h1, h2⟩
    refine ⟨h1, fun i p hp hn he => ?_⟩
    have ht := takes_named hs hp hn
    rw [he] at ht
    have := h2 p (by rw [ht]; simpa using hp) (by have := named_kind.1 hn; omega)
    rw [ht] at this
    simpa using this
  · rintro ⟨h1, h2⟩
    refine ⟨h1, fun p hp hk => ?_⟩
    obtain ⟨p', hp', _, hk'⟩ := takesQ_some (show ¬ takesQ s q.name < 0 by have := (takes_goes hs).2 h1; omega)
    rw [hp] at hp'
    cases hp'
    rcases hk' with ⟨h3, h4⟩ | h3
    · exact h2 _ p hp h3 h4
    · exact absurd h3 hk

theorem find_isSome {f : Flat} {n : Str} : (f.named.find? (nameIs n)).isSome = f.named.any (nameIs n) := by
  cases ha : f.named.any (nameIs n) with
  | true => rw [List.find?_isSome]; exact List.any_eq_true.1 ha
  | false =>
    cases hq : f.named.find? (nameIs n) with
    | none => rfl
    | some q =>
      have : f.named.any (nameIs n) = true := List.any_eq_true.2 ⟨q, List.mem_of_find?_eq_some hq, List.find?_some hq⟩
      rw [this] at ha; cases ha

theorem kindP_facts (b : Bool) (q : Param) : (kindP b q).name = q.name ∧ (kindP b q).kind = (if q.kind = 1 ∧ b = true then 3 else q.kind) ∧ (kindP b q).hasD = q.hasD ∧ namedQ (kindP b q) = namedQ q := by
  unfold kindP namedQ
  by_cases h1 : q.kind = 1
  · cases b <;> simp [h1]
  · simp [h1]

theorem giveP_facts (f : Flat) (q : Param) : (giveP f q).name = q.name ∧ (giveP f q).kind = q.kind ∧ (giveP f q).hasD = (q.hasD || (namedQ q && f.named.any (nameIs q.name))) := by
  unfold giveP
  rw [← find_isSome]
  cases hn : namedQ q with
  | false => simp
  | true =>
    simp only [if_true]
    cases f.named.find? (nameIs q.name) <;> simp

/-- What becomes of a parameter. -/
structure KeptQ (k : Int) (f : Flat) (i : Nat) (p p' : Param) : Prop where
  name : p'.name = p.name
  kind : p'.kind = if p.kind = 1 ∧ 0 ≤ k ∧ k ≤ i then 3 else p.kind
  hasD : p'.hasD = (p.hasD || (namedQ p && f.named.any (nameIs p.name)))
  place : ¬ (placedQ p = true ∧ i < f.places.length)
  rest : ¬ (p.kind = 2 ∧ 0 ≤ k)

theorem partParam_facts {k : Int} {f : Flat} {i : Nat} {p p' : Param} (h : partParam k f i p = some p') : KeptQ k f i p p' := by
  have hn := partParam_name h
  unfold partParam at h
  split at h
  · cases h
  · rename_i hs
    simp only [Option.some.injEq] at h
    obtain ⟨a1, a2, a3, a4⟩ := kindP_facts (decide (0 ≤ k) && decide (k ≤ i)) p
    obtain ⟨b1, b2, b3⟩ := giveP_facts f (kindP (decide (0 ≤ k) && decide (k ≤ i)) p)
    rw [h] at b1 b2 b3
    refine ⟨hn, ?_, ?_, ?_, ?_⟩
    · rw [b2, a2]; simp
    · rw [b3, a3, a4, a1]
    · rintro ⟨h1, h2⟩; exact hs (by simp [skipP, h1, h2])
    · rintro ⟨h1, h2⟩; exact hs (by simp [skipP, h1, h2])

theorem partParam_keep {k : Int} {f : Flat} {i : Nat} {p : Param} (h1 : ¬ (placedQ p = true ∧ i < f.places.length)) (h2 : ¬ (p.kind = 2 ∧ 0 ≤ k)) : ∃ p', partParam k f i p = some p' := by
  unfold partParam
  rw [if_neg]
  · exact ⟨_, rfl⟩
  · unfold skipP
    simp only [Bool.or_eq_true, Bool.and_eq_true, decide_eq_true_eq, beq_iff_eq]
    rintro (h | h)
    · exact h1 h
    · exact h2 h

theorem psL_split {k : Int} {f : Flat} {s : Sig} (i : Nat) : ∃ r, psL k f s = psL k f (s.take i) ++ r := by
  refine ⟨((s.drop i).zipIdx (0 + (s.take i).length)).filterMap (fun x => partParam k f x.2 x.1), ?_⟩
  conv => lhs; rw [← List.take_append_drop i s]
  unfold psL
  rw [List.zipIdx_append, List.filterMap_append]

/-- The facts of a partial call's signature. -/
structure PsFacts (s : Sig) (pf : Flat) : Prop where
  sig : OkS s
  flat : OkF pf
  out : OkS (psQ s pf)
  part : partQ s pf = true

theorem PsFacts.first {s : Sig} {pf : Flat} (h : PsFacts s pf) (h0 : 0 ≤ atQ s pf) : ∃ (n : Nat) (y : Param), atQ s pf = n ∧ s[n]? = some y ∧ y.kind = 1 ∧ pf.named.any (nameIs y.name) = true ∧ pf.places.length ≤ n := by
  obtain ⟨y, _, hy, hyp, hlt⟩ := idxI_find h0
  have hk := hyp
  simp only [atP, Bool.and_eq_true, beq_iff_eq] at hk
  refine ⟨(atQ s pf).toNat, y, by omega, hy, hk.1, hk.2, ?_⟩
  refine Classical.byContradiction fun hc => ?_
  have := np_at h.part hy (placed_kind.2 (.inr hk.1)) (by unfold atQ at hc; omega)
  rw [hyp] at this; cases this

theorem PsFacts.from {s : Sig} {pf : Flat} (h : PsFacts s pf) {i : Nat} {p : Param} (hp : s[i]? = some p) (hk : p.kind = 1) (hn : pf.named.any (nameIs p.name) = true) : 0 ≤ atQ s pf ∧ atQ s pf ≤ i := by
  have := idxI_le (k := 0) (pred := atP pf) hp (by simp [atP, hk, hn])
  unfold atQ; omega

theorem PsFacts.kinds {s : Sig} {pf : Flat} (h : PsFacts s pf) {i : Nat} {p : Param} (hp : s[i]? = some p) (h0 : 0 ≤ atQ s pf) (h1 : atQ s pf ≤ i) (hk : placedQ p = true) : p.kind = 1 := by
  obtain ⟨n, y, hn, hy, hyk, _, _⟩ := h.first h0
  have := h.sig.sorted (i - n) n y p hy (by rw [show n + (i - n) = i by omega]; exact hp)
  rw [placed_kind] at hk; omega

theorem KeptQ.placed {s : Sig} {pf : Flat} (h : PsFacts s pf) {i : Nat} {p p' : Param} (hp : s[i]? = some p) (hk : KeptQ (atQ s pf) pf i p p') : placedQ p' = true ↔ placedQ p = true ∧ ¬ (0 ≤ atQ s pf ∧ atQ s pf ≤ i) := by
  have h1 := hk.kind
  constructor
  · intro h2
    rw [placed_kind] at h2
    split at h1
    · omega
    · rename_i h3
      have hpp : placedQ p = true := placed_kind.2 (by omega)
      refine ⟨hpp, fun h4 => h3 ⟨h.kinds hp h4.1 h4.2 hpp, h4⟩⟩
  · rintro ⟨h2, h3⟩
    rw [placed_kind] at h2 ⊢
    rw [if_neg (fun h4 => h3 h4.2)] at h1
    omega

theorem KeptQ.named {k : Int} {pf : Flat} {i : Nat} {p p' : Param} (hk : KeptQ k pf i p p') : namedQ p' = namedQ p := by
  have h1 := hk.kind
  have : namedQ p' = true ↔ namedQ p = true := by
    rw [named_kind, named_kind]
    split at h1 <;> omega
  cases h : namedQ p with
  | true => exact this.2 h
  | false =>
    cases h' : namedQ p' with
    | false => rfl
    | true => rw [this.1 h'] at h; cases h

theorem PsFacts.len {s : Sig} {pf : Flat} (h : PsFacts s pf) : ∀ (i : Nat), i ≤ placesQ s → (psL (atQ s pf) pf (s.take i)).length = i - pf.places.length
  | 0, _ => by simp [psL]
  | i + 1, hi => by
    have hP := placesQ_le s
    obtain ⟨p, hp⟩ := at_some (xs := s) (i := i) (by omega)
    have hpl := (h.sig.placed_iff hp).2 (by omega)
    rw [psL_succ hp, List.length_append, PsFacts.len h i (by omega)]
    by_cases hia : i < pf.places.length
    · have : partParam (atQ s pf) pf i p = none := by simp [partParam, skipP, hpl, hia]
      rw [this]; simp; omega
    · obtain ⟨p', hp'⟩ := partParam_keep (k := atQ s pf) (f := pf) (i := i) (p := p) (by omega) (by rw [placed_kind] at hpl; omega)
      rw [hp']; simp; omega

/-- Where a parameter goes. -/
theorem PsFacts.to {s : Sig} {pf : Flat} (h : PsFacts s pf) {i : Nat} {p : Param} (hp : s[i]? = some p) (h1 : ¬ (placedQ p = true ∧ i < pf.places.length)) (h2 : ¬ (p.kind = 2 ∧ 0 ≤ atQ s pf)) :
    ∃ (j : Nat) (p' : Param), (psQ s pf)[j]? = some p' ∧ KeptQ (atQ s pf) pf i p p' ∧ (placedQ p' = true → j + pf.places.length = i) := by
  obtain ⟨p', hp'⟩ := partParam_keep (f := pf) h1 h2
  have hk := partParam_facts hp'
  obtain ⟨r, hr⟩ := psL_split (k := atQ s pf) (f := pf) (s := s) (i + 1)
  rw [psL_succ hp, hp'] at hr
  refine ⟨(psL (atQ s pf) pf (s.take i)).length, p', ?_, hk, fun hpl => ?_⟩
  · unfold psQ
    rw [hr, List.append_assoc, List.getElem?_append_right (by omega)]
    simp
  · have hpp := ((hk.placed h hp).1 hpl).1
    have hi := (h.sig.placed_iff hp).1 hpp
    rw [h.len i (by omega)]
    have := hk.place
    have : ¬ i < pf.places.length := fun h0 => this ⟨hpp, h0⟩
    omega

/-- Where a parameter comes from. -/
theorem PsFacts.of {s : Sig} {pf : Flat} (h : PsFacts s pf) {j : Nat} {p' : Param} (hp : (psQ s pf)[j]? = some p') :
    ∃ (i : Nat) (p : Param), s[i]? = some p ∧ KeptQ (atQ s pf) pf i p p' ∧ (placedQ p' = true → j + pf.places.length = i) := by
  have hm := List.mem_of_getElem? hp
  unfold psQ psL at hm
  rw [List.mem_filterMap] at hm
  obtain ⟨⟨p, i⟩, hq, hr⟩ := hm
  rw [List.mem_zipIdx_iff_getElem?] at hq
  have hk := partParam_facts hr
  obtain ⟨j', p2, hj', hk', hpos⟩ := h.to hq hk.place hk.rest
  have hjj := name_inj h.out hp hj' (by rw [hk.name, hk'.name])
  subst hjj
  rw [hp] at hj'
  cases hj'
  exact ⟨i, p, hq, hk, hpos⟩

section

variable {s : Sig} {pf f : Flat}

end

def sameL (x y : Slot) : Bool := x.given == y.given && (decide (x.list = y.list) && decide (isortL ltN x.pairs = isortL ltN y.pairs))

def sameB (a b : Bnds) : Bool := decide (a.length = b.length) && (a.zip b).all (fun z => sameL z.1 z.2)

theorem sameB_iff {a b : Bnds} : sameB a b = true ↔ a.length = b.length ∧ ∀ (i : Nat) (x y : Slot), a[i]? = some x → b[i]? = some y → sameL x y = true := by
  unfold sameB
  rw [Bool.and_eq_true, decide_eq_true_eq, List.all_eq_true]
  refine and_congr_right fun _ => ?_
  constructor
  · intro h i x y hx hy
    exact h (x, y) (List.mem_of_getElem? (i := i) (List.getElem?_zip_eq_some.2 ⟨hx, hy⟩))
  · intro h z hz
    obtain ⟨i, hi⟩ := List.getElem?_of_mem hz
    rw [List.getElem?_zip_eq_some] at hi
    exact h i _ _ hi.1 hi.2

theorem sameL_self (x : Slot) : sameL x x = true := by simp [sameL]

theorem sameB_self (b : Bnds) : sameB b b = true := sameB_iff.2 ⟨rfl, fun i x y hx hy => by rw [hx] at hy; cases hy; exact sameL_self x⟩

theorem bound_small {s : Sig} {f : Flat} (hs : OkS s) (hf : OkF f) : (boundQ s f).1.length ≤ 8 ∧ ∀ x ∈ (boundQ s f).1, x.list.length ≤ 8 ∧ x.pairs.length ≤ 8 := by
  have h1 := hf.places
  have h2 := hf.named
  rw [bound_closed hs hf.nodup]
  refine ⟨by simp only [closedQ, List.length_mapIdx]; exact hs.len, fun x hx => ?_⟩
  simp only [closedQ, List.mem_mapIdx] at hx
  obtain ⟨i, hi, rfl⟩ := hx
  unfold giveQ
  split
  · have := List.length_filter_le (fun q : Pair => takesQ s q.name == (i : Int)) f.named
    simp; omega
  · split
    · split <;> simp [zL]
    · exact place1_small _ _ _ _ h1

theorem OkS.okName {s : Sig} (h : OkS s) {p : Param} (hp : p ∈ s) : okName p.name = true := by
  have := h.params p hp
  simp only [okQ, Bool.and_eq_true] at this
  exact this.1.1.1.1

theorem bind_ok {s : Sig} {f : Flat} (hs : OkS s) (hf : OkF f) : (BindQ s f).2 = accQ s f := by
  unfold BindQ
  rw [fitQ_iff.2 ⟨hs, hf⟩]
  simp only [Bool.true_and]
  split
  · rename_i h; exact h.symm
  · rename_i h; simpa using h

def hd0 (xs : List Int) : Int := xs.headD 0

def stU (st : Flat × Bool) (px : Param × Slot) : Flat × Bool :=
  if px.1.kind = 2 then (⟨st.1.places ++ px.2.list, st.1.named⟩, st.2)
  else if px.1.kind = 4 then (⟨st.1.places, st.1.named ++ px.2.pairs⟩, st.2)
  else if px.2.given = false then (st.1, st.2 && !placedQ px.1)
  else if placedQ px.1 && st.2 then (⟨st.1.places ++ [hd0 px.2.list], st.1.named⟩, st.2)
  else (⟨st.1.places, st.1.named ++ [⟨px.1.name, hd0 px.2.list⟩]⟩, st.2)

def unbQ (s : Sig) (b : Bnds) : Flat := ((s.zip b).foldl stU (zF, true)).1

def cntL (x : Slot) : Nat := x.list.length + x.pairs.length

def cntB (b : Bnds) : Nat := (b.map cntL).sum

theorem cntB_bound {M : Nat} : ∀ {b : Bnds}, (∀ x ∈ b, cntL x ≤ M) → cntB b ≤ M * b.length
  | [], _ => by simp [cntB]
  | x :: b, h => by
    have h1 := cntB_bound (b := b) (fun y hy => h y (by simp [hy]))
    have h2 := h x (by simp)
    simp only [cntB, List.map_cons, List.sum_cons, List.length_cons, Nat.mul_succ] at h1 ⊢
    omega

theorem cntB_mem : ∀ {b : Bnds} {x : Slot}, x ∈ b → cntL x ≤ cntB b
  | [], x, h => by simp at h
  | y :: b, x, h => by
    simp only [cntB, List.map_cons, List.sum_cons]
    rcases List.mem_cons.1 h with rfl | h
    · omega
    · have := cntB_mem h
      unfold cntB at this
      omega

section

variable {X : Pk} {N np : Nat} {K : KP} {σ : State}

end

theorem SmallS.lens {s : Sig} (h : SmallS s) : LenS s := ⟨by have := h.len; omega, fun p hp => by have := h.names p hp; omega⟩

def SS (xs : List Str) : Prop := xs.Pairwise (fun a b => ltS a b = true)

theorem SS.nodup {xs : List Str} (h : SS xs) : xs.Nodup := List.Pairwise.imp (fun hab he => by rw [he, ltS_irrefl] at hab; cases hab) h

theorem SS.ext {a b : List Str} (ha : SS a) (hb : SS b) (h : ∀ x, x ∈ a ↔ x ∈ b) : a = b := by
  refine List.Perm.eq_of_pairwise (le := fun x y => ltS x y = true) ?_ ha hb ((List.perm_ext_iff_of_nodup ha.nodup hb.nodup).2 h)
  intro x y _ _ h1 h2
  rw [ltS_asymm h1] at h2; cases h2

theorem MidF.lens {f : Flat} (h : MidF f 24 9) : LenF f := ⟨by have := h.places; omega, by have := h.named; omega, fun p hp => by have := h.names p hp; omega⟩

theorem bindQ_ok {s : Sig} {f : Flat} (h : (BindQ s f).2 = true) : OkS s ∧ OkF f ∧ accQ s f = true ∧ BindQ s f = ((boundQ s f).1, true) := by
  unfold BindQ at h ⊢
  split at h
  · rename_i h1
    have h2 := h1
    simp only [Bool.and_eq_true] at h2
    obtain ⟨hs, hf⟩ := fitQ_iff.1 h2.1
    exact ⟨hs, hf, h2.2, by rw [if_pos h1]⟩
  · cases h

theorem give_one {s : Sig} {pl : List Int} {qs : List Pair} {i : Nat} {p : Param} (h : singleQ p = true) : ((giveQ s pl qs i p).given = true → ∃ v, (giveQ s pl qs i p).list = [v]) ∧ ((giveQ s pl qs i p).given = false → (giveQ s pl qs i p).list = []) ∧
    (p.kind = 0 → (giveQ s pl qs i p).given = decide (i < pl.length)) := by
  rw [single_kind] at h
  unfold giveQ
  rw [if_neg (by omega)]
  split
  · rename_i hn
    simp only [Bool.and_eq_true] at hn
    have hk := named_kind.1 hn.1
    split
    · exact ⟨fun _ => ⟨_, rfl⟩, (fun h0 => by cases h0), (fun h0 => by omega)⟩
    · exact ⟨(fun h0 => by cases h0), (fun _ => rfl), (fun h0 => by omega)⟩
  · unfold place1
    by_cases hb : (placedQ p && decide (i < pl.length)) = true
    · rw [if_pos hb]
      simp only [Bool.and_eq_true] at hb
      exact ⟨fun _ => ⟨_, rfl⟩, (fun h0 => by cases h0), fun _ => hb.2.symm⟩
    · rw [if_neg hb]
      have h2 : (p.kind == 2) = false := by simp; omega
      simp only [h2]
      refine ⟨(fun h0 => by cases h0), (fun _ => rfl), fun h0 => ?_⟩
      have hp : placedQ p = true := placed_kind.2 (.inl h0)
      rw [hp] at hb
      show false = _
      simpa using hb

theorem bound_at {s : Sig} {f : Flat} (hs : OkS s) (hf : OkF f) {i : Nat} {p : Param} {x : Slot} (hp : s[i]? = some p) (hx : (boundQ s f).1[i]? = some x) : x = giveQ s f.places f.named i p := by
  rw [bound_closed hs hf.nodup] at hx
  simp only [closedQ, List.getElem?_mapIdx, hp, Option.map_some, Option.some.injEq] at hx
  exact hx.symm

/-- What a call that is accepted gives to one parameter. -/
structure Given (s : Sig) (f : Flat) (b : Bnds) : Prop where
  sig : OkS s
  flat : OkF f
  acc : accQ s f = true
  eq : b = (boundQ s f).1

section

variable {s : Sig} {f : Flat} {b : Bnds}

theorem Given.len (h : Given s f b) : b.length = s.length := by rw [h.eq, boundQ_len]

theorem Given.at (h : Given s f b) {i : Nat} {p : Param} {x : Slot} (hp : s[i]? = some p) (hx : b[i]? = some x) : x = giveQ s f.places f.named i p := by
  rw [h.eq] at hx
  exact bound_at h.sig h.flat hp hx

theorem Given.get (h : Given s f b) {i : Nat} {p : Param} (hp : s[i]? = some p) : b[i]? = some (giveQ s f.places f.named i p) := by
  obtain ⟨x, hx⟩ := at_some (xs := b) (i := i) (by rw [h.len]; exact lt_of_some hp)
  rw [hx, h.at hp hx]

/-- A parameter that is found by its place alone has got a value only by its place; then all ahead of it have. -/
theorem Given.before (h : Given s f b) {i j : Nat} {p q : Param} (hp : s[i]? = some p) (hq : s[j]? = some q) (hk : p.kind = 0) (hji : j < i) (hg : (giveQ s f.places f.named i p).given = true) : (giveQ s f.places f.named j q).given = true := by
  have h1 := (give_one (s := s) (pl := f.places) (qs := f.named) (i := i) (single_kind.2 (.inl hk))).2.2 hk
  rw [hg] at h1
  have hlt : i < f.places.length := by simpa using h1.symm
  have hP := (h.sig.placed_iff hp).1 (placed_kind.2 (.inl hk))
  have hpl := (h.sig.placed_iff hq).2 (by omega)
  have hs : singleQ q = true := by rw [single_kind]; rw [placed_kind] at hpl; omega
  rw [give_given hs]
  have : byPl f.places j q = true := by simp [byPl, hpl]; omega
  rw [this]; rfl

/-- The walk of 'unbind', prefix by prefix. -/
structure UnbAt (s : Sig) (b : Bnds) (i : Nat) (F : Flat) (op : Bool) (V R : List Int) (X Y : List Pair) : Prop where
  places : F.places = V ++ R
  named : F.named = X ++ Y
  vlen : V.length ≤ min i (placesQ s)
  vals : ∀ (j : Nat) (x : Slot), j < V.length → b[j]? = some x → x.given = true ∧ V[j]? = some (hd0 x.list)
  opn : op = true → V.length = min i (placesQ s)
  shut : op = false → V.length < placesQ s ∧ V.length < i ∧ ∀ x, b[V.length]? = some x → x.given = false
  rest : ∀ (j : Nat) (p : Param) (x : Slot), j < i → s[j]? = some p → b[j]? = some x → p.kind = 2 → R = x.list
  rest0 : (∀ (j : Nat) (p : Param), j < i → s[j]? = some p → p.kind ≠ 2) → R = []
  map : ∀ (j : Nat) (p : Param) (x : Slot), j < i → s[j]? = some p → b[j]? = some x → p.kind = 4 → Y = x.pairs
  map0 : (∀ (j : Nat) (p : Param), j < i → s[j]? = some p → p.kind ≠ 4) → Y = []
  mem : ∀ q : Pair, q ∈ X ↔ ∃ (j : Nat) (p : Param) (x : Slot), j < i ∧ s[j]? = some p ∧ b[j]? = some x ∧ x.given = true ∧ (p.kind = 3 ∨ (p.kind = 1 ∧ V.length < j)) ∧ q = ⟨p.name, hd0 x.list⟩
  nodup : (namesOf X).Nodup

theorem Given.unbAt (h : Given s f b) : ∀ i, i ≤ s.length → ∃ F op V R X Y, ((s.zip b).take i).foldl stU (zF, true) = (F, op) ∧ UnbAt s b i F op V R X Y
  | 0, _ => ⟨zF, true, [], [], [], [], by simp, ⟨rfl, rfl, by simp, fun j x hj => by simp at hj, fun _ => by simp, (fun h0 => by cases h0), fun j p x hj => by omega, fun _ => rfl, fun j p x hj => by omega, fun _ => rfl, fun q => by
      constructor
      · intro h0; simp at h0
      · rintro ⟨j, p, x, hj, _⟩; omega, by simp [namesOf]⟩⟩
  | i + 1, hi => by
    obtain ⟨F, op, V, R, X, Y, hfold, I⟩ := Given.unbAt h i (by omega)
    obtain ⟨p, hp⟩ := at_some (xs := s) (i := i) (by omega)
    have hx := h.get hp
    generalize hxe : giveQ s f.places f.named i p = x at hx
    have hz : (s.zip b)[i]? = some (p, x) := List.getElem?_zip_eq_some.2 ⟨hp, hx⟩
    have hst : ((s.zip b).take (i + 1)).foldl stU (zF, true) = stU (F, op) (p, x) := by rw [foldl_take_succ _ _ hz, hfold]
    rw [hst]
    have hP := h.sig.placed_iff hp
    have hkr := h.sig.kindRange (List.mem_of_getElem? hp)
    have upto : ∀ (j : Nat) (q : Param), j < i + 1 → s[j]? = some q → j < i ∨ (j = i ∧ q = p) := fun j q hj hq => by
      by_cases hji : j = i
      · subst hji; rw [hp] at hq; cases hq; exact .inr ⟨rfl, rfl⟩
      · exact .inl (by omega)
    have xat : ∀ (j : Nat) (y : Slot), j = i → b[j]? = some y → y = x := fun j y hj hy => by subst hj; rw [hx] at hy; cases hy; rfl
    have before : ∀ (j : Nat) (q : Param), j < i → s[j]? = some q → q.kind ≤ p.kind := fun j q hj hq => h.sig.sorted (i - j) j q p hq (by rw [show j + (i - j) = i by omega]; exact hp)
    have notin : ∀ q ∈ X, q.name ≠ p.name := fun q hq he => by
      obtain ⟨j, r, y, hj, hr, _, _, _, rfl⟩ := (I.mem q).1 hq
      have := name_inj h.sig hr hp he
      omega
    have memStay : (x.given = true → ¬ (p.kind = 3 ∨ (p.kind = 1 ∧ V.length < i))) → ∀ (V' : List Int), V.length ≤ V'.length → (∀ j q, j < i → s[j]? = some q → q.kind = 1 → V.length < j → V'.length < j) → ∀ q : Pair, q ∈ X ↔ ∃ (j : Nat) (p : Param) (x : Slot), j < i + 1 ∧ s[j]? = some p ∧ b[j]? = some x ∧ x.given = true ∧ (p.kind = 3 ∨ (p.kind = 1 ∧ V'.length < j)) ∧ q = ⟨p.name, hd0 x.list⟩ := fun hno V' hV hV' q => by
      rw [I.mem q]
      constructor
      · rintro ⟨j, r, y, hj, hr, hy, hg, hk, rfl⟩
        refine ⟨j, r, y, by omega, hr, hy, hg, ?_, rfl⟩
        rcases hk with hk | ⟨hk, hl⟩
        · exact .inl hk
        · exact .inr ⟨hk, hV' j r hj hr hk hl⟩
      · rintro ⟨j, r, y, hj, hr, hy, hg, hk, rfl⟩
        rcases upto j r hj hr with hji | ⟨rfl, rfl⟩
        · refine ⟨j, r, y, hji, hr, hy, hg, ?_, rfl⟩
          rcases hk with hk | ⟨hk, hl⟩
          · exact .inl hk
          · exact .inr ⟨hk, by omega⟩
        · exfalso
          have := xat j y rfl hy
          subst this
          refine hno hg ?_
          rcases hk with hk | ⟨hk, hl⟩
          · exact .inl hk
          · exact .inr ⟨hk, by omega⟩
    by_cases hk2 : p.kind = 2
    · have hR : R = [] := I.rest0 fun j q hj hq hk => by
        have := h.sig.one hq hp (by omega) (by simp [singleQ, placedQ, hk2]); omega
      have hnp : ¬ i < placesQ s := fun h0 => by have := hP.2 h0; rw [placed_kind] at this; omega
      have hs' : stU (F, op) (p, x) = (⟨F.places ++ x.list, F.named⟩, op) := by simp [stU, hk2]
      rw [hs']
      refine ⟨_, op, V, x.list, X, Y, rfl, ⟨by rw [I.places, hR, List.append_nil], I.named, by have := I.vlen; omega, I.vals, fun h0 => by rw [I.opn h0]; omega, fun h0 => ?_, fun j q y hj hq hy hk => ?_, fun h0 => absurd hk2 (h0 i p (by omega) hp), fun j q y hj hq hy hk => ?_, fun h0 => I.map0 fun j q hj hq => h0 j q (by omega) hq, memStay (fun _ h0 => by omega) V (Nat.le_refl _) (fun j q _ _ _ hl => hl), I.nodup⟩⟩
      · obtain ⟨a1, a2, a3⟩ := I.shut h0
        exact ⟨a1, by omega, a3⟩
      · rcases upto j q hj hq with hji | ⟨rfl, rfl⟩
        · have := h.sig.one hq hp (by omega) (by simp [singleQ, placedQ, hk2]); omega
        · rw [xat j y rfl hy]
      · rcases upto j q hj hq with hji | ⟨rfl, rfl⟩
        · exact I.map j q y hji hq hy hk
        · omega
    by_cases hk4 : p.kind = 4
    · have hY : Y = [] := I.map0 fun j q hj hq hk => by
        have := h.sig.one hq hp (by omega) (by simp [singleQ, placedQ, hk4]); omega
      have hnp : ¬ i < placesQ s := fun h0 => by have := hP.2 h0; rw [placed_kind] at this; omega
      have hs' : stU (F, op) (p, x) = (⟨F.places, F.named ++ x.pairs⟩, op) := by simp [stU, hk4]
      rw [hs']
      refine ⟨_, op, V, R, X, x.pairs, rfl, ⟨I.places, by rw [I.named, hY, List.append_nil], by have := I.vlen; omega, I.vals, fun h0 => by rw [I.opn h0]; omega, fun h0 => ?_, fun j q y hj hq hy hk => ?_, fun h0 => I.rest0 fun j q hj hq => h0 j q (by omega) hq, fun j q y hj hq hy hk => ?_, fun h0 => absurd hk4 (h0 i p (by omega) hp), memStay (fun _ h0 => by omega) V (Nat.le_refl _) (fun j q _ _ _ hl => hl), I.nodup⟩⟩
      · obtain ⟨a1, a2, a3⟩ := I.shut h0
        exact ⟨a1, by omega, a3⟩
      · rcases upto j q hj hq with hji | ⟨rfl, rfl⟩
        · exact I.rest j q y hji hq hy hk
        · omega
      · rcases upto j q hj hq with hji | ⟨rfl, rfl⟩
        · have := h.sig.one hq hp (by omega) (by simp [singleQ, placedQ, hk4]); omega
        · rw [xat j y rfl hy]
    have restStay : ∀ (j : Nat) (q : Param) (y : Slot), j < i + 1 → s[j]? = some q → b[j]? = some y → q.kind = 2 → R = y.list := fun j q y hj hq hy hk => by
      rcases upto j q hj hq with hji | ⟨rfl, rfl⟩
      · exact I.rest j q y hji hq hy hk
      · exact absurd hk hk2
    have rest0Stay : (∀ (j : Nat) (q : Param), j < i + 1 → s[j]? = some q → q.kind ≠ 2) → R = [] := fun h0 => I.rest0 fun j q hj hq => h0 j q (by omega) hq
    have mapStay : ∀ (j : Nat) (q : Param) (y : Slot), j < i + 1 → s[j]? = some q → b[j]? = some y → q.kind = 4 → Y = y.pairs := fun j q y hj hq hy hk => by
      rcases upto j q hj hq with hji | ⟨rfl, rfl⟩
      · exact I.map j q y hji hq hy hk
      · exact absurd hk hk4
    have map0Stay : (∀ (j : Nat) (q : Param), j < i + 1 → s[j]? = some q → q.kind ≠ 4) → Y = [] := fun h0 => I.map0 fun j q hj hq => h0 j q (by omega) hq
    have hsg : singleQ p = true := single_kind.2 (by omega)
    cases hg : x.given with
    | false =>
      have hs' : stU (F, op) (p, x) = (F, op && !placedQ p) := by simp [stU, hk2, hk4, hg]
      rw [hs']
      refine ⟨_, _, V, R, X, Y, rfl, ⟨I.places, I.named, by have := I.vlen; omega, I.vals, fun h0 => ?_, fun h0 => ?_, restStay, rest0Stay, mapStay, map0Stay, memStay (fun h0 => by rw [hg] at h0; cases h0) V (Nat.le_refl _) (fun j q _ _ _ hl => hl), I.nodup⟩⟩
      · simp only [Bool.and_eq_true, Bool.not_eq_true'] at h0
        have hnp : ¬ i < placesQ s := fun h1 => by rw [hP.2 h1] at h0; cases h0.2
        rw [I.opn h0.1]; omega
      · cases ho : op with
        | false =>
          obtain ⟨a1, a2, a3⟩ := I.shut ho
          exact ⟨a1, by omega, a3⟩
        | true =>
          rw [ho] at h0
          simp only [Bool.true_and, Bool.not_eq_false'] at h0
          have hip := hP.1 h0
          have hv := I.opn ho
          have hv' : V.length = i := by omega
          refine ⟨by omega, by omega, fun y hy => ?_⟩
          rw [hv'] at hy
          rw [xat i y rfl hy]; exact hg
    | true =>
      by_cases hpo : (placedQ p && op) = true
      · have hs' : stU (F, op) (p, x) = (⟨F.places ++ [hd0 x.list], F.named⟩, op) := by simp [stU, hk2, hk4, hg, hpo]
        rw [hs']
        simp only [Bool.and_eq_true] at hpo
        have hip := hP.1 hpo.1
        have hv := I.opn hpo.2
        have hv' : V.length = i := by omega
        have hR : R = [] := I.rest0 fun j q hj hq hk => by
          have := before j q hj hq
          have h9 := hpo.1
          rw [placed_kind] at h9; omega
        refine ⟨_, op, V ++ [hd0 x.list], R, X, Y, rfl, ⟨by rw [I.places, hR]; simp, I.named, by simp; omega, fun j y hj hy => ?_, fun _ => by simp; omega, fun h0 => (by rw [hpo.2] at h0; cases h0), restStay, rest0Stay, mapStay, map0Stay, ?_, I.nodup⟩⟩
        · simp only [List.length_append, List.length_cons, List.length_nil] at hj
          by_cases hjv : j < V.length
          · obtain ⟨a1, a2⟩ := I.vals j y hjv hy
            exact ⟨a1, by rw [List.getElem?_append_left hjv]; exact a2⟩
          · have hji : j = i := by omega
            have := xat j y hji hy
            subst this
            exact ⟨hg, by rw [List.getElem?_append_right (by omega)]; simp [hji, hv']⟩
        · refine memStay (fun _ h0 => ?_) (V ++ [hd0 x.list]) (by simp) (fun j q hj _ _ hl => by omega)
          have h9 := hpo.1
          rw [placed_kind] at h9
          omega
      · have hs' : stU (F, op) (p, x) = (⟨F.places, F.named ++ [⟨p.name, hd0 x.list⟩]⟩, op) := by simp [stU, hk2, hk4, hg, hpo]
        rw [hs']
        have hY : Y = [] := I.map0 fun j q hj hq hk => by
          have := before j q hj hq; omega
        have hkk : p.kind = 3 ∨ (p.kind = 1 ∧ V.length < i) := by
          by_cases hk3 : p.kind = 3
          · exact .inl hk3
          · have hpl : placedQ p = true := by rw [placed_kind]; rw [single_kind] at hsg; omega
            have ho : op = false := by
              cases ho : op with
              | false => rfl
              | true => rw [hpl, ho] at hpo; exact absurd rfl hpo
            obtain ⟨a1, a2, a3⟩ := I.shut ho
            refine .inr ⟨?_, a2⟩
            refine Classical.byContradiction fun hk1 => ?_
            have hk0 : p.kind = 0 := by rw [placed_kind] at hpl; omega
            obtain ⟨q, hq⟩ := at_some (xs := s) (i := V.length) (by omega)
            have hgq := h.before hp hq hk0 a2 (by rw [hxe]; exact hg)
            have := a3 _ (h.get hq)
            rw [hgq] at this; cases this
        refine ⟨_, op, V, R, X ++ [⟨p.name, hd0 x.list⟩], Y, rfl, ⟨I.places, by rw [I.named, hY]; simp, by have := I.vlen; omega, I.vals, fun h0 => ?_, fun h0 => ?_, restStay, rest0Stay, mapStay, map0Stay, fun q => ?_, ?_⟩⟩
        · have hnp : ¬ i < placesQ s := fun h1 => by rw [hP.2 h1, h0] at hpo; exact hpo rfl
          rw [I.opn h0]; omega
        · obtain ⟨a1, a2, a3⟩ := I.shut h0
          exact ⟨a1, by omega, a3⟩
        · rw [List.mem_append, List.mem_singleton, I.mem q]
          constructor
          · rintro (⟨j, r, y, hj, hr, hy, hgy, hk, rfl⟩ | rfl)
            · exact ⟨j, r, y, by omega, hr, hy, hgy, hk, rfl⟩
            · exact ⟨i, p, x, by omega, hp, hx, hg, hkk, rfl⟩
          · rintro ⟨j, r, y, hj, hr, hy, hgy, hk, rfl⟩
            rcases upto j r hj hr with hji | ⟨rfl, rfl⟩
            · exact .inl ⟨j, r, y, hji, hr, hy, hgy, hk, rfl⟩
            · right; rw [xat j y rfl hy]
        · unfold namesOf
          rw [List.map_append, List.map_cons, List.map_nil]
          refine List.nodup_append.2 ⟨I.nodup, by simp, fun a ha c hc => ?_⟩
          simp only [List.mem_singleton] at hc
          obtain ⟨q, hq, rfl⟩ := List.mem_map.1 ha
          rw [hc]
          exact notin q hq

end

theorem find_uniq {qs : List Pair} {q : Pair} (hnd : (namesOf qs).Nodup) (hq : q ∈ qs) : qs.find? (nameIs q.name) = some q := by
  cases h : qs.find? (nameIs q.name) with
  | none =>
    rw [List.find?_eq_none] at h
    exact absurd (by simp [nameIs]) (h q hq)
  | some r =>
    have h1 := List.mem_of_find?_eq_some h
    have h2 := List.find?_some h
    simp only [nameIs, beq_iff_eq] at h2
    obtain ⟨i, hi⟩ := List.getElem?_of_mem h1
    obtain ⟨j, hj⟩ := List.getElem?_of_mem hq
    have hij : i = j := by
      refine (List.getElem?_inj (l := namesOf qs) (by have := lt_of_some hi; simpa [namesOf] using this) hnd).1 ?_
      unfold namesOf
      rw [List.getElem?_map, List.getElem?_map, hi, hj]
      simp [h2]
    subst hij
    rw [hi] at hj
    exact hj

section

variable {s : Sig} {f g : Flat}

end

theorem sub_length {α : Type} [DecidableEq α] : ∀ (xs ys : List α), xs.Nodup → (∀ x ∈ xs, x ∈ ys) → xs.length ≤ ys.length
  | [], ys, _, _ => by simp
  | x :: xs, ys, hd, hm => by
    rw [List.nodup_cons] at hd
    have h1 := sub_length xs (ys.erase x) hd.2 fun y hy => by
      have hne : y ≠ x := fun h0 => hd.1 (h0 ▸ hy)
      exact (List.mem_erase_of_ne hne).2 (hm y (by simp [hy]))
    have h2 := List.length_erase_of_mem (hm x (by simp))
    have h3 : 0 < ys.length := List.length_pos_of_mem (hm x (by simp))
    simp only [List.length_cons]
    omega

theorem give_rest {s : Sig} {pl : List Int} {qs : List Pair} {i : Nat} {p : Param} (hk : p.kind = 2) : giveQ s pl qs i p = ⟨false, pl.drop (placesQ s), []⟩ := by
  unfold giveQ
  rw [if_neg (by omega)]
  have h1 : namedQ p = false := by simp [namedQ, hk]
  have h2 : placedQ p = false := by simp [placedQ, hk]
  rw [h1]
  simp [place1, h2, hk]

theorem give_single {s : Sig} {pl : List Int} {qs : List Pair} {i : Nat} {p : Param} (h : singleQ p = true) : giveQ s pl qs i p =
    if byPl pl i p then ⟨true, [pl.getD i 0], []⟩ else if namedQ p then (match qs.find? (nameIs p.name) with
      | some q => ⟨true, [q.value], []⟩
      | none => zL) else zL := by
  rw [single_kind] at h
  unfold giveQ
  rw [if_neg (by omega)]
  cases hb : byPl pl i p with
  | true =>
    have hb' := hb
    unfold byPl at hb'
    simp [place1, hb']
  | false =>
    cases hn : namedQ p with
    | true =>
      cases qs.find? (nameIs p.name) <;> simp
    | false =>
      have hb' := hb
      unfold byPl at hb'
      have h2 : (p.kind == 2) = false := by simp; omega
      simp [place1, hb', h2]

theorem give_shape {s : Sig} {pl : List Int} {qs : List Pair} {i : Nat} {p : Param} (h : singleQ p = true) :
    ((giveQ s pl qs i p).given = true → giveQ s pl qs i p = ⟨true, [hd0 (giveQ s pl qs i p).list], []⟩) ∧ ((giveQ s pl qs i p).given = false → giveQ s pl qs i p = zL) := by
  rw [give_single h]
  split
  · simp [hd0]
  · split
    · split
      · simp [hd0]
      · simp [zL]
    · simp [zL]

theorem give_vals {s : Sig} {f : Flat} (hf : OkF f) {i : Nat} {p : Param} : ∀ v ∈ (giveQ s f.places f.named i p).list, okVal v = true := by
  intro v hv
  unfold giveQ at hv
  split at hv
  · simp at hv
  · split at hv
    · split at hv
      · rename_i q hq
        simp only [List.mem_singleton] at hv
        subst hv
        have := hf.pairs q (List.mem_of_find?_eq_some hq)
        simp only [okPair, Bool.and_eq_true] at this
        exact this.2
      · simp [zL] at hv
    · unfold place1 at hv
      split at hv
      · rename_i h1
        simp only [Bool.and_eq_true, decide_eq_true_eq] at h1
        simp only [List.mem_singleton] at hv
        subst hv
        rw [List.getD_eq_getElem?_getD, List.getElem?_eq_getElem h1.2]
        exact hf.vals _ (List.getElem_mem h1.2)
      · split at hv
        · exact hf.vals v (List.mem_of_mem_drop hv)
        · simp [zL] at hv

section

variable {s : Sig} {f : Flat} {b : Bnds}

theorem Given.unb (h : Given s f b) : ∃ op V R X Y, UnbAt s b s.length (unbQ s b) op V R X Y := by
  obtain ⟨F, op, V, R, X, Y, hfold, I⟩ := h.unbAt s.length (Nat.le_refl _)
  refine ⟨op, V, R, X, Y, ?_⟩
  have : unbQ s b = F := by
    unfold unbQ
    rw [List.take_of_length_le (by simp [h.len])] at hfold
    rw [hfold]
  rw [this]; exact I

theorem Given.gap (h : Given s f b) {op : Bool} {V R : List Int} {X Y : List Pair} {F : Flat} (I : UnbAt s b s.length F op V R X Y) (hlt : V.length < placesQ s) :
    f.places.length ≤ V.length ∧ R = [] ∧ ∀ x, b[V.length]? = some x → x.given = false := by
  have hPl := placesQ_le s
  have ho : op = false := by
    cases ho : op with
    | false => rfl
    | true => have := I.opn ho; omega
  obtain ⟨a1, a2, a3⟩ := I.shut ho
  obtain ⟨q, hq⟩ := at_some (xs := s) (i := V.length) (by omega)
  have hpl := (h.sig.placed_iff hq).2 hlt
  have hg := a3 _ (h.get hq)
  rw [give_given (by rw [single_kind]; rw [placed_kind] at hpl; omega)] at hg
  simp only [Bool.or_eq_false_iff] at hg
  have hle : f.places.length ≤ V.length := by
    have := hg.1
    unfold byPl at this
    rw [hpl] at this
    simpa using this
  refine ⟨hle, ?_, a3⟩
  by_cases h2 : ∃ (j : Nat) (p : Param), s[j]? = some p ∧ p.kind = 2
  · obtain ⟨j, p, hp, hk⟩ := h2
    rw [I.rest j p _ (lt_of_some hp) hp (h.get hp) hk, give_rest hk]
    exact List.drop_eq_nil_of_le (by omega)
  · exact I.rest0 fun j p _ hp hk => h2 ⟨j, p, hp, hk⟩

theorem Given.mapOf (h : Given s f b) {op : Bool} {V R : List Int} {X Y : List Pair} {F : Flat} (I : UnbAt s b s.length F op V R X Y) {q : Pair} (hq : q ∈ Y) :
    ∃ (j : Nat) (p : Param), s[j]? = some p ∧ p.kind = 4 ∧ takesQ s q.name = (j : Int) ∧ q ∈ f.named := by
  by_cases h4 : ∃ (j : Nat) (p : Param), s[j]? = some p ∧ p.kind = 4
  · obtain ⟨j, p, hp, hk⟩ := h4
    have hY := I.map j p _ (lt_of_some hp) hp (h.get hp) hk
    unfold giveQ at hY
    rw [if_pos hk] at hY
    simp only at hY
    rw [hY, List.mem_filter] at hq
    exact ⟨j, p, hp, hk, by simpa using hq.2, hq.1⟩
  · have := I.map0 fun j p _ hp hk => h4 ⟨j, p, hp, hk⟩
    rw [this] at hq; cases hq

theorem Given.again (h : Given s f b) : Given s (unbQ s b) b := by
  obtain ⟨op, V, R, X, Y, I⟩ := h.unb
  have hPl := placesQ_le s
  have hsl := h.sig.len
  have hfp := h.flat.places
  have hfn := h.flat.named
  have hV : V.length ≤ placesQ s := by have := I.vlen; omega
  have gap := fun hlt => h.gap I hlt
  have xmem : ∀ q ∈ X, ∃ (j : Nat) (p : Param), s[j]? = some p ∧ namedQ p = true ∧ q.name = p.name ∧ (giveQ s f.places f.named j p).given = true ∧ (p.kind = 3 ∨ (p.kind = 1 ∧ V.length < j)) ∧ q.value = hd0 (giveQ s f.places f.named j p).list := fun q hq => by
    obtain ⟨j, p, x, _, hp, hx, hg, hk, rfl⟩ := (I.mem q).1 hq
    have := h.at hp hx
    subst this
    exact ⟨j, p, hp, named_kind.2 (by omega), rfl, hg, hk, rfl⟩
  have hRsub : ∀ v ∈ R, okVal v = true := fun v hv => by
    by_cases h2 : ∃ (j : Nat) (p : Param), s[j]? = some p ∧ p.kind = 2
    · obtain ⟨j, p, hp, hk⟩ := h2
      rw [I.rest j p _ (lt_of_some hp) hp (h.get hp) hk] at hv
      exact give_vals h.flat v hv
    · rw [I.rest0 fun j p _ hp hk => h2 ⟨j, p, hp, hk⟩] at hv; cases hv
  have hRlen : V.length + R.length ≤ 8 := by
    by_cases h2 : ∃ (j : Nat) (p : Param), s[j]? = some p ∧ p.kind = 2
    · obtain ⟨j, p, hp, hk⟩ := h2
      have hR := I.rest j p _ (lt_of_some hp) hp (h.get hp) hk
      rw [give_rest hk] at hR
      have : R.length = f.places.length - placesQ s := by rw [hR]; simp
      omega
    · rw [I.rest0 fun j p _ hp hk => h2 ⟨j, p, hp, hk⟩]; simp; omega
  have hdis : ∀ q ∈ X, ∀ r ∈ Y, q.name ≠ r.name := fun q hq r hr he => by
    obtain ⟨j, p, hp, hn, hqn, _⟩ := xmem q hq
    obtain ⟨k, p', hp', hk', ht, _⟩ := h.mapOf I hr
    have := takes_named h.sig hp hn
    rw [← hqn, he, ht] at this
    have hjk : k = j := by omega
    subst hjk
    rw [hp] at hp'; cases hp'
    rw [named_kind] at hn; omega
  have hYnd : (namesOf Y).Nodup := by
    by_cases h4 : ∃ (j : Nat) (p : Param), s[j]? = some p ∧ p.kind = 4
    · obtain ⟨j, p, hp, hk⟩ := h4
      have hY := I.map j p _ (lt_of_some hp) hp (h.get hp) hk
      unfold giveQ at hY
      rw [if_pos hk] at hY
      simp only at hY
      rw [hY]
      exact h.flat.nodup.sublist (List.filter_sublist.map _)
    · rw [I.map0 fun j p _ hp hk => h4 ⟨j, p, hp, hk⟩]; simp [namesOf]
  have hnd : (namesOf (X ++ Y)).Nodup := by
    unfold namesOf
    rw [List.map_append]
    refine List.nodup_append.2 ⟨I.nodup, hYnd, fun a ha c hc he => ?_⟩
    obtain ⟨q, hq, rfl⟩ := List.mem_map.1 ha
    obtain ⟨r, hr, rfl⟩ := List.mem_map.1 hc
    exact hdis q hq r hr he
  have xnamed : ∀ q ∈ X, q.name ∈ namesOf f.named := fun q hq => by
    obtain ⟨j, p, hp, hn, hqn, hg, hk, _⟩ := xmem q hq
    rw [give_given (single_kind.2 (by omega))] at hg
    simp only [Bool.or_eq_true, Bool.and_eq_true] at hg
    rcases hg with hg | hg
    · exfalso
      simp only [byPl, Bool.and_eq_true, decide_eq_true_eq] at hg
      have hjP := (h.sig.placed_iff hp).1 hg.1
      rcases hk with hk | ⟨hk, hl⟩
      · have := hg.1; rw [placed_kind] at this; omega
      · have := (gap (by omega)).1; omega
    · rw [hqn]; exact any_names.1 hg.2
  have hU : OkF (unbQ s b) := by
    refine ⟨fun q hq => ?_, by rw [I.named]; exact hnd, fun v hv => ?_, by rw [I.places, List.length_append]; exact hRlen, ?_⟩
    · rw [I.named] at hq
      rcases List.mem_append.1 hq with hq | hq
      · obtain ⟨j, p, hp, hn, hqn, hg, hk, hv⟩ := xmem q hq
        have h1 := h.sig.okName (List.mem_of_getElem? hp)
        have h2 := (give_shape (s := s) (pl := f.places) (qs := f.named) (i := j) (p := p) (single_kind.2 (by omega))).1 hg
        have h3 := give_vals (s := s) h.flat (i := j) (p := p) (hd0 (giveQ s f.places f.named j p).list) (by rw [h2]; simp [hd0])
        simp [okPair, hqn, h1, hv, h3]
      · obtain ⟨_, _, _, _, _, hm⟩ := h.mapOf I hq
        exact h.flat.pairs q hm
    · rw [I.places] at hv
      rcases List.mem_append.1 hv with hv | hv
      · obtain ⟨j, hj⟩ := List.getElem?_of_mem hv
        have hjl := lt_of_some hj
        obtain ⟨p, hp⟩ := at_some (xs := s) (i := j) (by omega)
        obtain ⟨a1, a2⟩ := I.vals j _ hjl (h.get hp)
        have hpl := (h.sig.placed_iff hp).2 (by omega)
        have hsg : singleQ p = true := by rw [single_kind]; rw [placed_kind] at hpl; omega
        have h2 := (give_shape (s := s) (pl := f.places) (qs := f.named) (i := j) (p := p) hsg).1 a1
        rw [hj] at a2
        cases a2
        exact give_vals (s := s) h.flat (i := j) (p := p) _ (by rw [h2]; simp [hd0])
      · exact hRsub v hv
    · rw [I.named]
      have := sub_length (namesOf (X ++ Y)) (namesOf f.named) hnd fun n hn => by
        unfold namesOf at hn
        rw [List.map_append] at hn
        rcases List.mem_append.1 hn with hn | hn
        · obtain ⟨q, hq, rfl⟩ := List.mem_map.1 hn
          exact xnamed q hq
        · obtain ⟨q, hq, rfl⟩ := List.mem_map.1 hn
          obtain ⟨_, _, _, _, _, hm⟩ := h.mapOf I hq
          exact List.mem_map_of_mem hm
      simp only [namesOf, List.length_map] at this
      omega
  have hplU : ∀ (i : Nat) (p : Param), s[i]? = some p → placedQ p = true → (i < (unbQ s b).places.length ↔ i < V.length) := fun i p hp hpl => by
    have hiP := (h.sig.placed_iff hp).1 hpl
    rw [I.places, List.length_append]
    constructor
    · intro hi
      refine Classical.byContradiction fun hc => ?_
      have := (gap (by omega)).2.1
      rw [this] at hi
      simp at hi; omega
    · omega
  have hB : ∀ (i : Nat) (p : Param), s[i]? = some p → giveQ s (unbQ s b).places (unbQ s b).named i p = giveQ s f.places f.named i p := fun i p hp => by
    have hkr := h.sig.kindRange (List.mem_of_getElem? hp)
    by_cases hk4 : p.kind = 4
    · have hY := I.map i p _ (lt_of_some hp) hp (h.get hp) hk4
      have e1 : ∀ qs pl, giveQ s pl qs i p = ⟨false, [], qs.filter fun q => takesQ s q.name == (i : Int)⟩ := fun qs pl => by unfold giveQ; rw [if_pos hk4]
      rw [e1] at hY
      simp only at hY
      rw [e1, e1, I.named, List.filter_append]
      have hX : X.filter (fun q => takesQ s q.name == (i : Int)) = [] := by
        rw [List.filter_eq_nil_iff]
        intro q hq ht
        obtain ⟨j, r, hr, hn, hqn, _⟩ := xmem q hq
        have := takes_named h.sig hr hn
        rw [← hqn] at this
        simp only [beq_iff_eq] at ht
        have hij : i = j := by omega
        subst hij
        rw [hp] at hr; cases hr
        rw [named_kind] at hn; omega
      rw [hX, List.nil_append, hY, List.filter_filter]
      simp
    by_cases hk2 : p.kind = 2
    · have hR := I.rest i p _ (lt_of_some hp) hp (h.get hp) hk2
      rw [give_rest hk2] at hR
      simp only at hR
      rw [give_rest hk2, give_rest hk2, I.places, ← hR]
      congr 1
      by_cases hlt : V.length < placesQ s
      · rw [(gap hlt).2.1, List.append_nil]; exact List.drop_eq_nil_of_le (by omega)
      · rw [show placesQ s = V.length by omega, List.drop_left]
    have hsg : singleQ p = true := single_kind.2 (by omega)
    have hsh := give_shape (s := s) (pl := f.places) (qs := f.named) (i := i) (p := p) hsg
    have hget := h.get hp
    generalize giveQ s f.places f.named i p = g at hsh hget ⊢
    rw [give_single hsg]
    by_cases hb : byPl (unbQ s b).places i p = true
    · rw [if_pos hb]
      simp only [byPl, Bool.and_eq_true, decide_eq_true_eq] at hb
      have hiV := (hplU i p hp hb.1).1 hb.2
      obtain ⟨a1, a2⟩ := I.vals i g hiV hget
      rw [hsh.1 a1]
      have : (unbQ s b).places.getD i 0 = hd0 g.list := by
        rw [List.getD_eq_getElem?_getD, I.places, List.getElem?_append_left hiV, a2]; rfl
      rw [this]
    · rw [if_neg hb]
      have hnV : placedQ p = true → V.length ≤ i := fun hpl => Nat.le_of_not_lt fun h0 => hb (by
        simp only [byPl, Bool.and_eq_true, decide_eq_true_eq]; exact ⟨hpl, (hplU i p hp hpl).2 h0⟩)
      have hgap : placedQ p = true → g.given = true → V.length < i := fun hpl hg => by
        have h1 := hnV hpl
        have hiP := (h.sig.placed_iff hp).1 hpl
        have h2 := (gap (by omega)).2.2
        refine Classical.byContradiction fun hc => ?_
        have : i = V.length := by omega
        have := h2 g (by rw [← this]; exact hget)
        rw [hg] at this; cases this
      cases hg : g.given with
      | true =>
        have hk : p.kind = 3 ∨ (p.kind = 1 ∧ V.length < i) := by
          by_cases hk3 : p.kind = 3
          · exact .inl hk3
          · have hpl : placedQ p = true := by rw [placed_kind]; rw [single_kind] at hsg; omega
            have hVi := hgap hpl hg
            refine .inr ⟨?_, hVi⟩
            refine Classical.byContradiction fun hk1 => ?_
            have hk0 : p.kind = 0 := by rw [placed_kind] at hpl; omega
            have hiP := (h.sig.placed_iff hp).1 hpl
            obtain ⟨q, hq⟩ := at_some (xs := s) (i := V.length) (by omega)
            have hgi : (giveQ s f.places f.named i p).given = true := by rw [← h.at hp hget]; exact hg
            have hgq := h.before hp hq hk0 hVi hgi
            have := (gap (by omega)).2.2 _ (h.get hq)
            rw [hgq] at this; cases this
        have hn : namedQ p = true := named_kind.2 (by omega)
        rw [if_pos hn]
        have hm : (⟨p.name, hd0 g.list⟩ : Pair) ∈ X := (I.mem _).2 ⟨i, p, g, lt_of_some hp, hp, hget, hg, hk, rfl⟩
        have hf := find_uniq (qs := (unbQ s b).named) (q := ⟨p.name, hd0 g.list⟩) hU.nodup (by rw [I.named]; exact List.mem_append_left _ hm)
        simp only at hf
        rw [hf]
        exact (hsh.1 hg).symm
      | false =>
        rw [hsh.2 hg]
        split
        · rename_i hn
          have : (unbQ s b).named.find? (nameIs p.name) = none := by
            rw [List.find?_eq_none]
            intro q hq hqn
            simp only [nameIs, beq_iff_eq] at hqn
            rw [I.named] at hq
            rcases List.mem_append.1 hq with hq | hq
            · obtain ⟨j, r, x, _, hr, hx, hgx, _, rfl⟩ := (I.mem q).1 hq
              have hji := name_inj h.sig hr hp hqn
              subst hji
              rw [hget] at hx; cases hx
              rw [hg] at hgx; cases hgx
            · obtain ⟨j, r, hr, hk, ht, _⟩ := h.mapOf I hq
              have := takes_named h.sig hp hn
              rw [← hqn, ht] at this
              have hji : j = i := by omega
              subst hji
              rw [hp] at hr; cases hr
              exact hk4 hk
          rw [this]
        · rfl
  have hacc : accQ s (unbQ s b) = true := by
    have hf3 := ((acc_iff h.sig h.flat).1 h.acc).2.2
    refine (acc_iff h.sig hU).2 ⟨fun hlt => ?_, fun q hq => ?_, ?_⟩
    · by_cases h2 : ∃ (j : Nat) (p : Param), s[j]? = some p ∧ p.kind = 2
      · obtain ⟨j, p, hp, hk⟩ := h2
        exact List.any_eq_true.2 ⟨p, List.mem_of_getElem? hp, by simp [kIs, hk]⟩
      · have hR := I.rest0 fun j p _ hp hk => h2 ⟨j, p, hp, hk⟩
        rw [I.places, hR] at hlt
        simp at hlt; omega
    · rw [wrong_iff2 h.sig]
      rw [I.named] at hq
      rcases List.mem_append.1 hq with hq | hq
      · obtain ⟨j, p, hp, hn, hqn, hg, hk, hv⟩ := xmem q hq
        refine ⟨.inl ⟨j, p, hp, hn, hqn.symm⟩, fun i r hr hrn hre => ?_⟩
        have hij := name_inj h.sig hr hp (by rw [hre, hqn])
        subst hij
        rw [hp] at hr; cases hr
        unfold byPl
        cases hpl : placedQ p with
        | false => rfl
        | true =>
          simp only [Bool.true_and, decide_eq_false_iff_not]
          rw [hplU i p hp hpl]
          rcases hk with hk | ⟨hk, hl⟩
          · rw [placed_kind] at hpl; omega
          · omega
      · obtain ⟨j, r, hr, hk, ht, _⟩ := h.mapOf I hq
        refine ⟨.inr ⟨r, List.mem_of_getElem? hr, hk⟩, fun i p hp hn he => ?_⟩
        have := takes_named h.sig hp hn
        rw [he, ht] at this
        have hji : j = i := by omega
        subst hji
        rw [hp] at hr; cases hr
        rw [named_kind] at hn; omega
    · have : s.mapIdx (giveQ s (unbQ s b).places (unbQ s b).named) = s.mapIdx (giveQ s f.places f.named) := by
        apply List.ext_getElem?
        intro i
        rw [List.getElem?_mapIdx, List.getElem?_mapIdx]
        cases hp : s[i]? with
        | none => rfl
        | some p => simp only [Option.map_some, hB i p hp]
      rw [this]; exact hf3
  refine ⟨h.sig, hU, hacc, ?_⟩
  rw [bound_closed h.sig hU.nodup]
  apply List.ext_getElem?
  intro i
  simp only [closedQ, List.getElem?_mapIdx]
  cases hp : s[i]? with
  | none =>
    have : s.length ≤ i := by rw [List.getElem?_eq_none_iff] at hp; exact hp
    rw [List.getElem?_eq_none (by rw [h.len]; exact this)]; rfl
  | some p => simp only [Option.map_some, hB i p hp, h.get hp]

end

def slotOk (s : Sig) (i : Nat) (p : Param) (x : Slot) : Bool :=
  if p.kind = 2 then !x.given && decide (x.pairs = [])
  else if p.kind = 4 then !x.given && decide (x.list = []) && !x.pairs.any (fun q => takesQ s q.name != (i : Int))
  else if x.given then decide (x.list.length = 1) && decide (x.pairs = [])
  else p.hasD && decide (x.list = []) && decide (x.pairs = [])

def slotAt (s : Sig) (b : Bnds) (i : Nat) : Bool := match s[i]?, b[i]? with
  | some p, some x => slotOk s i p x
  | _, _ => true

def VBi (s : Sig) (b : Bnds) : Bool := okSig s && (decide (b.length = s.length) && ((List.range b.length).all (slotAt s b) && ((BindQ s (unbQ s b)).2 && sameB (BindQ s (unbQ s b)).1 b)))

structure SmallB (b : Bnds) : Prop where
  len : b.length ≤ 1048576
  size : ∀ x ∈ b, x.list.length ≤ 1048576 ∧ x.pairs.length ≤ 1048576
  names : ∀ x ∈ b, ∀ q ∈ x.pairs, q.name.length ≤ 9223372036854775807
  tot : cntB b ≤ 1048576

section

variable {s : Sig} {f : Flat} {b : Bnds}

theorem Given.bind (h : Given s f b) : BindQ s f = (b, true) := by
  have hb : (BindQ s f).2 = true := by rw [bind_ok h.sig h.flat]; exact h.acc
  obtain ⟨_, _, _, heq⟩ := bindQ_ok hb
  rw [heq, ← h.eq]

theorem Given.valid (h : Given s f b) : VBi s b = true := by
  have hag := h.again
  have hb := hag.bind
  have hr : (List.range b.length).all (slotAt s b) = true := by
    rw [List.all_eq_true]
    intro i hi
    have hi' := List.mem_range.1 hi
    obtain ⟨p, hp⟩ := at_some (xs := s) (i := i) (by rw [← h.len]; exact hi')
    have hx := h.get hp
    unfold slotAt
    rw [hp, hx]
    simp only
    have hkr := h.sig.kindRange (List.mem_of_getElem? hp)
    unfold slotOk
    by_cases hk2 : p.kind = 2
    · rw [if_pos hk2, give_rest hk2]; simp
    rw [if_neg hk2]
    by_cases hk4 : p.kind = 4
    · rw [if_pos hk4]
      unfold giveQ
      rw [if_pos hk4]
      simp
    rw [if_neg hk4]
    have hsg : singleQ p = true := single_kind.2 (by omega)
    have hsh := give_shape (s := s) (pl := f.places) (qs := f.named) (i := i) (p := p) hsg
    cases hg : (giveQ s f.places f.named i p).given with
    | true => rw [hsh.1 hg]; simp
    | false =>
      have h3 := ((acc_iff h.sig h.flat).1 h.acc).2.2
      have h4 := lack_iff.1 h3 i p hp hsg
      rw [give_given hsg] at hg
      simp only [Bool.or_eq_false_iff, Bool.and_eq_false_iff] at hg
      have hd : p.hasD = true := by
        rcases h4 with h4 | h4 | ⟨h4, h5⟩
        · exact h4
        · rw [hg.1] at h4; cases h4
        · rcases hg.2 with h6 | h6
          · rw [h4] at h6; cases h6
          · rw [h5] at h6; cases h6
      have hg' : (giveQ s f.places f.named i p).given = false := by
        rw [give_given hsg, hg.1]
        rcases hg.2 with h6 | h6 <;> simp [h6]
      rw [hsh.2 hg']
      simp [zL, hd]
  unfold VBi
  rw [hr, hb, okSig_iff.2 h.sig, decide_eq_true h.len, sameB_self]
  rfl

theorem Given.small (h : Given s f b) (hn : ∀ q ∈ f.named, q.name.length ≤ 9223372036854775807) : SmallB b := by
  obtain ⟨c1, c2⟩ := bound_small h.sig h.flat
  rw [← h.eq] at c1 c2
  refine ⟨by omega, fun x hx => ⟨by have := (c2 x hx).1; omega, by have := (c2 x hx).2; omega⟩, fun x hx q hq => ?_, ?_⟩
  rotate_left
  · have := cntB_bound (M := 100) (b := b) (fun x hx => by have := c2 x hx; unfold cntL; omega)
    omega
  obtain ⟨i, hi⟩ := List.getElem?_of_mem hx
  obtain ⟨p, hp⟩ := at_some (xs := s) (i := i) (by rw [← h.len]; exact lt_of_some hi)
  rw [h.at hp hi] at hq
  unfold giveQ at hq
  split at hq
  · exact hn q (List.mem_filter.1 hq).1
  · split at hq
    · split at hq <;> simp [zL] at hq
    · unfold place1 at hq
      split at hq
      · simp at hq
      · split at hq <;> simp [zL] at hq

end

structure MidB (b : Bnds) : Prop where
  len : b.length ≤ 8
  size : ∀ x ∈ b, x.list.length ≤ 9 ∧ x.pairs.length ≤ 8
  names : ∀ x ∈ b, ∀ q ∈ x.pairs, q.name.length ≤ 6

theorem MidB.small {b : Bnds} (h : MidB b) : SmallB b := ⟨by have := h.len; omega, fun x hx => by have := h.size x hx; omega, fun x hx q hq => by have := h.names x hx q hq; omega, by
  have h1 := cntB_bound (M := 20) (b := b) (fun x hx => by have := h.size x hx; unfold cntL; omega)
  have h2 := h.len
  omega⟩

theorem MidB.set {b : Bnds} (h : MidB b) {j : Nat} {y : Slot} (h1 : y.list.length ≤ 9 ∧ y.pairs.length ≤ 8) (h2 : ∀ q ∈ y.pairs, q.name.length ≤ 6) : MidB (b.set j y) := by
  refine ⟨by rw [List.length_set]; exact h.len, fun x hx => ?_, fun x hx => ?_⟩
  · rcases List.mem_or_eq_of_mem_set hx with hx | rfl
    · exact h.size x hx
    · exact h1
  · rcases List.mem_or_eq_of_mem_set hx with hx | rfl
    · exact h.names x hx
    · exact h2

section

variable {s : Sig} {f : Flat} {b : Bnds}

theorem Given.more (h : Given s f b) : f.places.length ≤ (unbQ s b).places.length := by
  obtain ⟨op, V, R, X, Y, I⟩ := h.unb
  rw [I.places, List.length_append]
  have hV : V.length ≤ placesQ s := by have := I.vlen; omega
  by_cases hlt : V.length < placesQ s
  · have := (h.gap I hlt).1; omega
  · by_cases h2 : ∃ (j : Nat) (p : Param), s[j]? = some p ∧ p.kind = 2
    · obtain ⟨j, p, hp, hk⟩ := h2
      have hR := I.rest j p _ (lt_of_some hp) hp (h.get hp) hk
      rw [give_rest hk] at hR
      have : R.length = f.places.length - placesQ s := by rw [hR]; simp
      omega
    · have h1 := ((acc_iff h.sig h.flat).1 h.acc).1
      have : ¬ placesQ s < f.places.length := fun h0 => by
        obtain ⟨p, hp, hk⟩ := List.any_eq_true.1 (h1 h0)
        obtain ⟨j, hj⟩ := List.getElem?_of_mem hp
        exact h2 ⟨j, p, hj, by simpa [kIs] using hk⟩
      omega

end

structure LenBs (b : Bnds) : Prop where
  len : b.length ≤ 1048576
  tot : cntB b ≤ 1048576

theorem LenBs.size {b : Bnds} (h : LenBs b) {x : Slot} (hx : x ∈ b) : x.list.length ≤ 1048576 ∧ x.pairs.length ≤ 1048576 := by
  have h1 := cntB_mem hx
  have h2 := h.tot
  unfold cntL at h1
  omega

theorem eqSlot_ct (x y : Slot) (h1 : x.list.length ≤ 16777216) (h2 : x.pairs.length ≤ 16777216) : ACalls pk 73 [.agg (eL x), .agg (eL y)] [] (fun r o => r = .one (.bool (decide (x = y))) ∧ o = []) := by
  obtain ⟨a, b, c⟩ := x
  obtain ⟨a', b', c'⟩ := y
  simp only at h1 h2
  refine acalls_of_body Tryz.func73 rfl (by kernel_rfl) rfl ?_
  refine rn rfl ?_
  refine goal_cond rfl (fun h => ?_) (fun h => ?_)
  · simp at h
    refine rn rfl (fin_is [] rfl ⟨?_, rfl⟩)
    simp [h]
  · simp at h
    refine rn rfl ?_
    refine goal_step (step_call [] rfl rfl rfl rfl rfl rfl (eqIntS_ct b b' h1)) ?_
    rintro σ2 ⟨r, o', ⟨rfl, rfl⟩, hσ⟩
    obtain rfl := Option.some.inj hσ
    clear hσ
    refine rn rfl ?_
    refine goal_cond rfl (fun h3 => ?_) (fun h3 => ?_)
    · simp at h3
      refine rn rfl (fin_is [] rfl ⟨?_, rfl⟩)
      simp [h3]
    · simp at h3
      refine rn rfl ?_
      refine goal_step (step_call [] rfl rfl rfl rfl rfl rfl (eqPairS_ct c c' h2)) ?_
      rintro σ2 ⟨r, o', ⟨rfl, rfl⟩, hσ⟩
      obtain rfl := Option.some.inj hσ
      clear hσ
      refine rn rfl ?_
      refine goal_cond rfl (fun h4 => ?_) (fun h4 => ?_)
      · simp at h4
        refine rn rfl (fin_is [] rfl ⟨?_, rfl⟩)
        simp [h4]
      · simp at h4
        refine rn rfl (fin_is [] rfl ⟨?_, rfl⟩)
        simp [h, h3, h4]

theorem eqSlotS_ct (xs : Bnds) (hb : LenBs xs) : ACalls pk 38 [.one (.fs (xs.map eL)), .one (.fs (xs.map eL))] [] (fun r o => r = .one (.bool true) ∧ o = []) := by
  have hl := hb.len
  refine acalls_of_body Tryz.func38 rfl (by kernel_rfl) rfl ?_
  refine rn rfl ?_
  refine goal_cond rfl (fun h => by simp at h) (fun _ => ?_)
  refine rn rfl ?_
  refine goal_loop_keep (fun m σ => ∃ (n : Int) (i : Nat), n = i ∧ i ≤ xs.length ∧ m = xs.length - i ∧
      σ = ⟨[(5, .one (.int .i64 n)), (1, .one (.fs (xs.map eL))), (0, .one (.fs (xs.map eL)))], [], []⟩) xs.length [5, 1, 0] [] rfl
    ⟨_, 0, rfl, by omega, by omega, rfl⟩ ?_
  rintro m σ ⟨n, i, rfl, hi, rfl, rfl⟩
  refine rn rfl ?_
  refine goal_cond rfl (fun h => ?_) (fun h => ?_) <;> (try simp only [gt_iff_lt, ge_iff_le, bne_iff_ne, ne_eq, bne_eq_false_iff_eq, beq_iff_eq, beq_eq_false_iff_ne, Bool.not_eq_true', Bool.not_eq_false', decide_eq_true_eq, decide_eq_false_iff_not, List.length_map] at h)
  · obtain ⟨x, hx⟩ := at_some (xs := xs) (i := i) (by omega)
    obtain ⟨l1, l2⟩ := hb.size (List.mem_of_getElem? hx)
    refine rn rfl ?_
    refine goal_draw' [] 10 rfl ?_
    refine drn [0, 1, 4, 5] (by kernel_rfl) (by kernel_rfl) rfl rfl ?_
    refine AH_did 2 rfl (by kernel_rfl) (by kernel_rfl) (by kernel_rfl) rfl rfl (dA_index (eL x) rfl rfl rfl rfl rfl rfl rfl (by omega) (by (try simp); omega) (map_at (by simpa using hx)) rfl) ?_
    refine drn [3] (by kernel_rfl) (by kernel_rfl) rfl rfl ?_
    refine AH_did 6 rfl (by kernel_rfl) (by kernel_rfl) (by kernel_rfl) rfl rfl (dA_index (eL x) rfl rfl rfl rfl rfl rfl rfl (by omega) (by (try simp); omega) (map_at (by simpa using hx)) rfl) ?_
    refine drn [7] (by kernel_rfl) (by kernel_rfl) rfl rfl ?_
    refine AH_one (i := 8) (by kernel_rfl) (step_call [] rfl rfl rfl rfl rfl rfl (eqSlot_ct x x (by omega) (by omega))) (by simp) ?_
    rintro σ2 ⟨r, o', ⟨rfl, rfl⟩, hσ⟩
    obtain rfl := Option.some.inj hσ
    clear hσ
    refine drn [9] (by kernel_rfl) (by kernel_rfl) rfl rfl ?_
    refine AH_end (by kernel_rfl) ?_
    refine rn rfl ?_
    refine goal_cond rfl (fun h2 => by simp at h2) (fun _ => ?_)
    refine rn rfl ?_
    refine round_keep (xs.length - (i + 1)) [5, 1, 0] [] (by omega) rfl ⟨_, i + 1, wrap64 (by omega) (by omega), by omega, rfl, rfl⟩
  · refine rn rfl (round_ext ?_)
    exact rn rfl (fin_is [] rfl ⟨rfl, rfl⟩)

theorem eqBi_ct (b : Bnds) (hb : LenBs b) : ACalls pk 13 [.agg (eBi b), .agg (eBi b)] [] (fun r o => r = .one (.bool true) ∧ o = []) := by
  refine acalls_of_body Tryz.func13 rfl (by kernel_rfl) rfl ?_
  refine rn rfl ?_
  refine goal_step (step_call [] rfl rfl rfl rfl rfl rfl (eqSlotS_ct b hb)) ?_
  rintro σ2 ⟨r, o', ⟨rfl, rfl⟩, hσ⟩
  obtain rfl := Option.some.inj hσ
  clear hσ
  refine rn rfl ?_
  refine goal_cond rfl (fun h2 => by simp at h2) (fun _ => ?_)
  exact rn rfl (fin_is [] rfl ⟨rfl, rfl⟩)

section
open Go Go.RowKit Go.Shelf
theorem glob_any {w : World} {e : List ALoc} : GlobOk w e := fun g hg => by simp [GL] at hg

/-- A slice of own memory that lies in the blocks from 'lo' to 'hi'. -/
def SubO (lo hi : Nat) (h : Array Obj) (O : List (Option AObj)) (n : Nat) (v : Value) : Prop :=
  ∃ e : List ALoc, SR noD h e O ∧ TR noD h e (.one (.os 0 0 n n)) v ∧ ∀ b, Wof e b → lo ≤ b ∧ b < hi

theorem SubO.keep {lo hi : Nat} {h h' : Array Obj} {O : List (Option AObj)} {n : Nat} {v : Value} (H : SubO lo hi h O n v) (hk : ∀ b, lo ≤ b → b < hi → h'[b]? = h[b]?) (hs : h.size ≤ h'.size) : SubO lo hi h' O n v := by
  obtain ⟨e, h1, h2, h3⟩ := H
  exact ⟨e, sr_keep h1 (fun b hb => hk b (h3 b hb).1 (h3 b hb).2) hs, tr_noD h2, h3⟩

def MTree (lo hi : Nat) (h : Array Obj) (l : Bnds) (v : Value) : Prop :=
  ∃ A c, v = .slice A l.length c ∧ ((l = [] ∧ ∃ ad, A = some ad) ∨ ∃ (g : Nat) (cells : Array Value) (t : TypeId) (p q : Nat → Nat), A = some ⟨g, 0, none⟩ ∧ lo ≤ g ∧ g < p 0 ∧ h[g]? = some (.cells cells t (0, 0)) ∧ p l.length ≤ hi ∧ l.length ≤ c ∧
    ∀ i x, l[i]? = some x → ∃ bo LV PV, bo = x.given ∧ cells[i * 3]? = some (.bool bo) ∧ cells[i * 3 + 1]? = some LV ∧ cells[i * 3 + 2]? = some PV ∧ p i ≤ q i ∧ q i ≤ p (i + 1) ∧
      SubO (p i) (q i) h [ownI x.list] x.list.length LV ∧ SubO (q i) (p (i + 1)) h [ownP x.pairs] x.pairs.length PV)

theorem noFzO_I (xs : List Int) : noFzO [ownI xs] = true := by simp [ownI, noFzO, noFzR_map eI (fun _ => rfl)]

theorem noFzO_P (xs : List Pair) : noFzO [ownP xs] = true := by simp [ownP, noFzO, noFzR_map eP (fun _ => rfl)]

def markN (l : Bnds) : Nat := (l.map fun x => 1 + x.list.length + 2 * x.pairs.length).sum

theorem markN_snoc (l : Bnds) (x : Slot) : markN (l ++ [x]) = markN l + (1 + x.list.length + 2 * x.pairs.length) := by simp [markN]

theorem markN_take (l : Bnds) (i : Nat) : markN (l.take i) ≤ markN l := by
  have h : markN (l.take i) + markN (l.drop i) = markN l := by
    conv => rhs; rw [← List.take_append_drop i l]
    unfold markN
    rw [List.map_append, List.sum_append]
  omega

theorem setCell_at {w : World} {g o : Nat} {cs : Array Value} {t : TypeId} {v : Value} (h : w.heap[g]? = some (.cells cs t (0, 0))) : (w.setCell ⟨g, o, none⟩ v).heap[g]? = some (.cells (cs.setIfInBounds o v) t (0, 0)) := by
  simp [World.setCell, Array.getElem?_modify, h]

theorem setCell_other {w : World} {g o b : Nat} {v : Value} (h : b ≠ g) : (w.setCell ⟨g, o, none⟩ v).heap[b]? = w.heap[b]? := by
  simp only [World.setCell, Array.getElem?_modify]
  rw [if_neg (fun h1 => h h1.symm)]

theorem setCell_size {w : World} {a : Addr} {v : Value} : (w.setCell a v).heap.size = w.heap.size := by simp [World.setCell]

theorem ext_sub {w w' : World} {S S' : Nat → Prop} (h : Ext w S w') (hs : ∀ b, S b → S' b) : Ext w S' w' := ⟨h.os, h.tape, h.output, h.size, fun b hb hn => h.block b hb (fun hS => hn (hs b hS))⟩

theorem ext_trans {w w1 w2 : World} {S : Nat → Prop} (h : Ext w S w1) (h' : Ext w1 S w2) : Ext w S w2 :=
  ⟨h'.os.trans h.os, h'.tape.trans h.tape, h'.output.trans h.output, Nat.le_trans h.size h'.size, fun b hb hn => by rw [h'.block b (Nat.lt_of_lt_of_le hb h.size) hn, h.block b hb hn]⟩

theorem MTree.keep {lo hi : Nat} {h h' : Array Obj} {l : Bnds} {v : Value} (H : MTree lo hi h l v) (hk : ∀ b, lo ≤ b → b < hi → h'[b]? = h[b]?) (hs : h.size ≤ h'.size) : MTree lo hi h' l v := by
  obtain ⟨A, c, rfl, hA⟩ := H
  refine ⟨A, c, rfl, ?_⟩
  rcases hA with hA | ⟨g, cells, t, p, q, rfl, hg, hgp, hcells, hph, hlc, hat⟩
  · exact .inl hA
  have hmono : ∀ i, i < l.length → p i ≤ p (i + 1) := fun i hi => by
    obtain ⟨x, hx⟩ := at_some (xs := l) (i := i) hi
    obtain ⟨_, _, _, _, _, _, _, h1, h2, _⟩ := hat i x hx
    omega
  have hmono2 : ∀ d a, a + d ≤ l.length → p a ≤ p (a + d) := by
    intro d
    induction d with
    | zero => intro a _; exact Nat.le_refl _
    | succ d ih => intro a ha; have h1 := ih a (by omega); have h2 := hmono (a + d) (by omega); rw [show a + (d + 1) = a + d + 1 by omega]; omega
  have h0 := hmono2 l.length 0 (by omega)
  rw [Nat.zero_add] at h0
  refine .inr ⟨g, cells, t, p, q, rfl, hg, hgp, by rw [hk g hg (by omega)]; exact hcells, hph, hlc, fun i x hx => ?_⟩
  obtain ⟨bo, LV, PV, h0', h1, h2, h3, h4, h5, h6, h7⟩ := hat i x hx
  have hil := lt_of_some hx
  have hpi : p 0 ≤ p i := by have := hmono2 i 0 (by omega); simpa using this
  have hpe : p (i + 1) ≤ p l.length := by have := hmono2 (l.length - (i + 1)) (i + 1) (by omega); rwa [show i + 1 + (l.length - (i + 1)) = l.length by omega] at this
  exact ⟨bo, LV, PV, h0', h1, h2, h3, h4, h5, h6.keep (fun b b1 b2 => hk b (by omega) (by omega)) hs, h7.keep (fun b b1 b2 => hk b (by omega) (by omega)) hs⟩

theorem MTree.isSome {lo hi : Nat} {h : Array Obj} {l : Bnds} {v : Value} (H : MTree lo hi h l v) : ∃ ad c, v = .slice (some ad) l.length c := by
  obtain ⟨A, c, rfl, hA⟩ := H
  rcases hA with ⟨_, ad, rfl⟩ | ⟨g, cells, t, p, q, rfl, _⟩
  · exact ⟨ad, c, rfl⟩
  · exact ⟨_, c, rfl⟩
end

section
open Go Go.RowKit Go.Shelf
theorem SubO.slice {lo hi : Nat} {h : Array Obj} {ob : AObj} {n : Nat} {v : Value} (H : SubO lo hi h [some ob] n v) : ∃ A c, v = .slice A n c := by
  obtain ⟨e, h1, h2, _⟩ := H
  obtain ⟨a, cap, m, he, _⟩ := h1.objs 0 ob rfl
  simp only [TR, CR, he] at h2
  obtain ⟨A, c, hv, _⟩ := h2
  exact ⟨A, c, hv⟩

theorem SubO.mono {lo hi lo' hi' : Nat} {h : Array Obj} {O : List (Option AObj)} {n : Nat} {v : Value} (H : SubO lo hi h O n v) (h1 : lo' ≤ lo) (h2 : hi ≤ hi') : SubO lo' hi' h O n v := by
  obtain ⟨e, a, b, c⟩ := H
  exact ⟨e, a, b, fun k hk => by have := c k hk; omega⟩

theorem cell_blk {w : World} {b : Nat} {cs : Array Value} {T : TypeId} {fr : Nat × Nat} (hb : w.heap[b]? = some (.cells cs T fr)) (j : Nat) : w.cell? ⟨b, j, none⟩ = cs[j]? := by simp [World.cell?, hb]

theorem frozen_blk {w : World} {b : Nat} {cs : Array Value} {T : TypeId} (hb : w.heap[b]? = some (.cells cs T (0, 0))) (j : Nat) : w.frozen? ⟨b, j, none⟩ = false := by simp [World.frozen?, hb]

theorem MTree.mono {lo hi lo' hi' : Nat} {h : Array Obj} {l : Bnds} {v : Value} (H : MTree lo hi h l v) (h1 : lo' ≤ lo) (h2 : hi ≤ hi') : MTree lo' hi' h l v := by
  obtain ⟨A, c, rfl, hA⟩ := H
  refine ⟨A, c, rfl, ?_⟩
  rcases hA with hA | ⟨g, cells, t, p, q, rfl, hg, hgp, hcells, hph, hlc, hat⟩
  · exact .inl hA
  · exact .inr ⟨g, cells, t, p, q, rfl, by omega, hgp, hcells, by omega, hlc, hat⟩

theorem SubO.data {lo hi n : Nat} {w : World} {v : Value} {ob : AObj} {R2 : T} (H : SubO lo hi w.heap [some ob] n v) (hf : finR 0 [] (.one (.os 0 0 n n)) [some ob] = some (R2, [])) : TR (lowD w.heap.size) w.heap [] R2 v := by
  obtain ⟨e, h1, h2, _⟩ := H
  exact own_data glob_any h1 h2 hf

theorem MTree.data {lo hi : Nat} {w : World} {l : Bnds} {v : Value} (H : MTree lo hi w.heap l v) : CR (lowD w.heap.size) w.heap [] (.fs (l.map eL)) v := by
  obtain ⟨A, c, rfl, hA⟩ := H
  rcases hA with ⟨rfl, _⟩ | ⟨g, cells, t, p, q, rfl, hg, hgp, hcells, hph, hlc, hat⟩
  · simp only [CR]
    exact ⟨A, c, rfl, Nat.zero_le _, .inl rfl⟩
  · simp only [CR, List.length_map]
    refine ⟨_, c, rfl, hlc, .inr ⟨⟨g, 0, none⟩, cells, t, (0, 0), 3, rfl, rfl, (Array.getElem?_eq_some_iff.1 hcells).1, hcells, ?_⟩⟩
    rw [CRr_iff]
    intro i r hr
    rw [List.getElem?_map, Option.map_eq_some_iff] at hr
    obtain ⟨x, hx, rfl⟩ := hr
    obtain ⟨bo, LV, PV, rfl, h1, h2, h3, _, _, SL, SP⟩ := hat i x hx
    refine ⟨rfl, ?_⟩
    have dl : TR (lowD w.heap.size) w.heap [] (.one (.fs (x.list.map eI))) LV := by
      have := SL.data (R2 := .one (.fs ((List.drop 0 (x.list.map eI)).take x.list.length))) rfl
      rwa [takeAll eI _ _ rfl] at this
    have dp : TR (lowD w.heap.size) w.heap [] (.one (.fs (x.pairs.map eP))) PV := by
      have := SP.data (R2 := .one (.fs ((List.drop 0 (x.pairs.map eP)).take x.pairs.length))) rfl
      rwa [takeAll eP _ _ rfl] at this
    simp only [TR] at dl dp
    have hd : (cells.toList.drop 0).drop (i * 3) = Value.bool x.given :: LV :: PV :: cells.toList.drop (i * 3 + 3) := by
      have t1 : cells.toList[i * 3]? = some (Value.bool x.given) := by rw [Array.getElem?_toList]; exact h1
      have t2 : cells.toList[i * 3 + 1]? = some LV := by rw [Array.getElem?_toList]; exact h2
      have t3 : cells.toList[i * 3 + 2]? = some PV := by rw [Array.getElem?_toList]; exact h3
      rw [List.drop_zero, drop_at t1, drop_at t2, drop_at t3]
    rw [hd]
    simp only [eL, CRp, and_true]
    exact ⟨by simp only [CR], dl, dp⟩
end

section
open Go Go.RowKit Go.Shelf
section

variable {X : Pk} {N np : Nat} {σ σ' : State} {K : KP}

/-- A call that is passed nothing to change, and that sees all memory zs data. -/
theorem step_read {ops : Array Oper} {i : Nat} {dst : Option Nat} {c : Operand} {xs : Array Operand} {ts : Array TypeId} {ty : TypeId} {pos : String} {aft : Array Edge} {g : Option (Nat × Bool)} {f : FuncId} {args : List T} {Φ : Post}
    (ho : nthA ops i = some ⟨dst, .call ⟨.value c, xs, ts⟩, ty, pos, aft, g⟩) (hg : guardOf N ops g σ = .go) (hc : evalO σ c = .one (.fn f [])) (hd : dstB N dst = true)
    (hcon : ACalls X f args [] Φ) (hno : ∀ r o', Φ r o' → noFzT r = true ∧ noFzO o' = true)
    (hargs : ∀ {G : Ctx X.κ} {D : Nat → Prop} {e : List ALoc} {a : Act} {w : World}, Rel N np G D e σ a w → TRs (lowD w.heap.size) w.heap [] args (xs.toList.map a.eval)) :
    StepA X N np ops i (fun id => id ∈ ([] : List Nat)) σ (fun σ2 => ∃ r o', Φ r o' ∧ retS N [] dst σ r o' = some σ2) := by
  intro G D e a w Q K' H next
  rw [nthA_eq] at ho
  unfold wpOp
  simp only [ho, (guardOf_spec H (ops := ops) (o := ⟨dst, .call ⟨.value c, xs, ts⟩, ty, pos, aft, g⟩)).1 hg, if_true]
  left
  have hcv := H.ev c
  rw [hc] at hcv
  simp only [TR, CR] at hcv
  obtain ⟨cv, hcv, hcl, hcr⟩ := hcv
  have hcv0 : cv = #[] := Array.eq_empty_of_size_eq_zero (by simpa using hcl)
  subst hcv0
  unfold Oper.wp
  rw [run_call rfl hcv hcon.1]
  simp only [Oper.upon]
  have hC := hcon.2 (lowD w.heap.size) [] w (xs.toList.map a.eval) glob_any (sr_nil (Nat.le_refl _)) (hargs H) (by simp)
  have hvals : (xs.toList.map a.eval).toArray = xs.map a.eval ++ #[] := by apply Array.ext'; simp
  rw [hvals] at hC
  refine hC.mono ?_
  rintro en w' ⟨v, r, o', D', e', rfl, hΦ, htr, hsr', hext, hnew, hold, hkeep, hlen⟩
  obtain ⟨hno1, hno2⟩ := hno r o' hΦ
  have hsr2 : SR (fun b => D' b ∧ (b < w.heap.size → D b)) w'.heap e' o' := hsr'.sub hno2 (fun b hb => hb.1)
  have htr2 : TR (fun b => D' b ∧ (b < w.heap.size → D b)) w'.heap e' r v := TR.sub _ _ _ hno1 htr
  obtain ⟨D2, e2, H2, hT2, hP2⟩ := H.called (js := []) rfl (fun id hid => by cases hid) hsr2 hext hnew (fun b hb hlt => hb.2 hlt) hkeep hlen
  have hx := hT2 r v htr2
  have H3 := H2.putv hx (putS_eq hd)
  refine next D2 e2 _ _ w' H3 hP2 ⟨r, o', hΦ, ?_⟩
  obtain ⟨ρ, oo, κ⟩ := σ
  simp only [retS, lenK_eq, Nat.zero_add, forceO_eq, appO_eq]
  exact putS_eq hd

/-- What an operand holds, zs data. -/
theorem rel_low {ψ : CtxP} {G : Ctx ψ} {D : Nat → Prop} {e : List ALoc} {a : Act} {w : World} (H : Rel N 0 G D e σ a w) (x : Operand) :
    TR (lowD w.heap.size) w.heap [] (reT (fun id => idxOf ([] : List Nat) id 0) (fzAll (fun id => idxOf ([] : List Nat) id 0) 0 σ.o) 4 (evalO σ x)) (a.eval x) := by
  obtain ⟨D2, H2, hD2⟩ := H.fzAll (fun id => idxOf ([] : List Nat) id 0) (fun id hid => absurd hid (Nat.not_lt_zero _))
  have h := H2.ev x
  have he : evalO ⟨σ.ρ, fzAll (fun id => idxOf ([] : List Nat) id 0) 0 σ.o, σ.k⟩ x = evalO σ x := by cases x <;> rfl
  rw [he] at h
  have h3 := reT_spec (mp := fun id => idxOf ([] : List Nat) id 0) (e1 := []) H2.sr (fun id j l h => by cases h) 4 _ _ h
  exact TR.mono (fun b hb => ⟨H2.sr.dom b hb, rfl⟩) leads_nil _ _ h3

/-- The same state in a memory that has grown elsewhere, from a context of its own. -/
theorem rel_new {ψ ψ' : CtxP} {G : Ctx ψ} {D : Nat → Prop} {e : List ALoc} {a : Act} {w w' : World} {S : Nat → Prop} (H : Rel N np G D e σ a w) (hx : Ext w S w') (hS : ∀ b, S b → ¬ D b ∧ ¬ Wof e b)
    (G' : Ctx ψ') (hw : G'.w0 = w') (hD : G'.D0 = D) (he : G'.e0 = e) : Rel N np G' D e σ a w' := by
  have hfx : Fixes D D w.heap w'.heap := fun b hb => ⟨hb, hx.block b (H.sr.dom b hb) (fun hs => (hS b hs).1 hb)⟩
  refine ⟨by rw [he, H.sr.len]; exact H.nple, H.nple, by rw [hw]; exact Ext.refl _ _, H.defers, H.size, fun t => TR.mono hfx (Leads.refl e) _ _ (H.tmps t), ?_, fun id b esz cap n h => .inl ⟨id, b, esz, cap, n, by rw [he]; exact h, rfl⟩, fun b hb _ => .inl (by rw [hD]; exact hb), fun id _ => by rw [he]⟩
  have hs := H.sr
  refine ⟨hs.len, fun id ob hid => ?_, fun id b esz cap n he => ⟨Nat.lt_of_lt_of_le (hs.own id b _ _ _ he).1 hx.size, (hs.own id b _ _ _ he).2⟩, hs.sep, fun b hb => Nat.lt_of_lt_of_le (hs.dom b hb) hx.size⟩
  obtain ⟨a', cap, n, hid', hnn, hcl, hrest⟩ := hs.objs id ob hid
  refine ⟨a', cap, n, hid', hnn, hcl, ?_⟩
  cases a' with
  | none => exact hrest
  | some b =>
    obtain ⟨q1, q2, cells, t, q3, q4, q5, q6⟩ := hrest
    refine ⟨q1, q2, cells, t, ?_, q4, q5, CRr.mono hfx e e (Leads.refl e) _ _ _ q6⟩
    rw [hx.block b.block (hs.own id b _ _ _ hid').1 (fun hs' => (hS _ hs').2 ⟨id, b, _, _, _, hid', rfl⟩)]; exact q3

/-- .. and back to the context from before. -/
theorem rel_back {ψ ψ' : CtxP} {G : Ctx ψ} {D : Nat → Prop} {e : List ALoc} {a : Act} {w w' : World} {S : Nat → Prop} (H : Rel N np G D e σ a w) (hx : Ext w S w') (hS : ∀ b, S b → G.w0.heap.size ≤ b)
    (G' : Ctx ψ') (hw : G'.w0 = w') (hD : G'.D0 = D) (he : G'.e0 = e) {D2 : Nat → Prop} {e2 : List ALoc} {τ : State} {a2 : Act} {w2 : World} (H' : Rel N np G' D2 e2 τ a2 w2) : Rel N np G D2 e2 τ a2 w2 := by
  have hext := H'.ext
  rw [hw, he] at hext
  have hwof : ∀ b, Wof e b → Wof G.e0 b ∨ G.w0.heap.size ≤ b := by
    rintro b ⟨id, b', esz, cap, n, h1, rfl⟩
    exact H.new id b' _ _ _ h1
  have hsz := H.ext.size
  have hsz2 := hx.size
  refine ⟨H.hnp, H'.nple, ⟨hext.os.trans (hx.os.trans H.ext.os), hext.tape.trans (hx.tape.trans H.ext.tape), hext.output.trans (hx.output.trans H.ext.output), Nat.le_trans hsz (Nat.le_trans hsz2 hext.size), fun b hb hn => ?_⟩, H'.defers, H'.size, H'.tmps, H'.sr, fun id b esz cap n h => ?_, fun b hb hlt => ?_, fun id hid => ?_⟩
  · rw [hext.block b (by omega) (fun h => (hwof b h).elim hn (fun h => by omega)), hx.block b (by omega) (fun h => by have := hS b h; omega), H.ext.block b hb hn]
  · rcases H'.new id b _ _ _ h with h1 | h1
    · rw [he] at h1; exact hwof _ h1
    · rw [hw] at h1; exact .inr (by omega)
  · rcases H'.old b hb (by rw [hw]; omega) with h1 | h1
    · rw [hD] at h1; exact H.old b h1 hlt
    · rw [he] at h1
      obtain ⟨id, b', esz, cap, n, q1, q2, rfl⟩ := h1
      rcases H.new id b' _ _ _ q2 with ⟨id', b'', esz', cap', n', r1, r2⟩ | h2
      · by_cases hid : np ≤ id'
        · exact .inr ⟨id', b'', esz', cap', n', hid, r1, r2⟩
        · have := H.keep id' (by omega)
          have := H.sr.sep id' id b'' b' _ _ _ _ _ _ (by rw [this]; exact r1) q2 r2
          omega
      · omega
  · rw [H'.keep id hid, he, H.keep id hid]

/-- A call, from its own contract at this memory. -/
theorem wpOp_call {ops : Array Oper} {i : Nat} {dst : Option Nat} {c : Operand} {xs : Array Operand} {ts : Array TypeId} {ty : TypeId} {pos : String} {aft : Array Edge} {f : FuncId} {ψ : CtxP} {G : Ctx ψ} {D : Nat → Prop} {e : List ALoc} {a : Act} {w : World} {Q : Exit → Act → World → Prop} {K' : Act → World → Prop}
    (ho : nthA ops i = some ⟨dst, .call ⟨.value c, xs, ts⟩, ty, pos, aft, none⟩) (H : Rel N np G D e σ a w) (hc : evalO σ c = .one (.fn f [])) (hf : Callable X.P f)
    (hcall : Calls X.P f (xs.map a.eval) w fun en w' => ∃ v, en = .returned v ∧ K' (a.put dst v) w') : wpOp X.P ops Q i K' a w := by
  rw [nthA_eq] at ho
  unfold wpOp
  simp only [ho, (guardOf_spec H (ops := ops) (o := ⟨dst, .call ⟨.value c, xs, ts⟩, ty, pos, aft, none⟩)).1 rfl, if_true]
  left
  have hcv := H.ev c
  rw [hc] at hcv
  simp only [TR, CR] at hcv
  obtain ⟨cv, hcv, hcl, hcr⟩ := hcv
  have hcv0 : cv = #[] := Array.eq_empty_of_size_eq_zero (by simpa using hcl)
  subst hcv0
  unfold Oper.wp
  rw [run_call rfl hcv hf]
  simp only [Oper.upon]
  rw [Array.append_empty]
  refine hcall.mono ?_
  rintro en w' ⟨v, rfl, hk⟩
  exact hk

/-- A region, walked operation by operation, and what comes behind. -/
theorem goal_raw {id : Nat} {ops : Array Oper} {rest : Code} (h : ∀ {G : Ctx X.κ} {D : Nat → Prop} {e : List ALoc} {a : Act} {w : World}, Rel N np G D e ⟨σ.ρ, σ.o, []⟩ a w →
    wpOps X.P ops (Exit.then (rest.wp X.P (lift N np G K)) (lift N np G K)) (List.range ops.size) a w) : goal X N np K (.cod (.seq (.region id ops false) rest) []) σ :=
  fun G D e a w H => wp_seq (wp_region (h (H.hints [])))

end

/-- The first 'n' statements of a body, and the others. -/
def nest : List Code → Code → Code
  | [], r => r
  | x :: xs, r => .seq x (nest xs r)

def takeC : Nat → Code → List Code
  | 0, _ => []
  | n + 1, .seq x y => x :: takeC n y
  | _ + 1, _ => []

def restC : Nat → Code → Code
  | 0, c => c
  | n + 1, .seq _ y => restC n y
  | _ + 1, c => c

theorem nest_take : ∀ (n : Nat) (c : Code), nest (takeC n c) (restC n c) = c
  | 0, _ => rfl
  | n + 1, c => by
    cases c with
    | seq x y => simp only [takeC, restC, nest, nest_take n y]
    | _ => rfl

theorem after_code {X : Pk} {N np : Nat} {K : KP} {ex : Exit} (h : ex ≠ .normal) : ∀ (xs : List Code) (σ : State), after X N np (xs.map .code) K ex σ = K ex σ
  | [], σ => rfl
  | x :: xs, σ => by
    cases ex with
    | normal => exact absurd rfl h
    | _ => exact after_code h xs σ

/-- Statements walked in a context of their own; what comes behind is walked otherwise. -/
theorem seg_wp {X : Pk} {N np : Nat} {Φ : State → Prop} {G : Ctx X.κ} {rest : Code} {Q : Exit → Act → World → Prop}
    (hr : ∀ {τ : State} {D : Nat → Prop} {e : List ALoc} {a : Act} {w : World}, Rel N np G D e τ a w → Φ τ → rest.wp X.P Q a w) :
    ∀ (xs : List Code) {σ : State} {D : Nat → Prop} {e : List ALoc} {a : Act} {w : World}, Rel N np G D e σ a w → goal X N np (cutR N np Φ (fun _ _ => False)) (.nrm (xs.map .code)) σ → (nest xs rest).wp X.P Q a w
  | [], σ, D, e, a, w, H, hg => by
    obtain ⟨τ, hw, hΦ⟩ := hg
    obtain ⟨D', e', H'⟩ := hw H
    exact hr H' hΦ
  | x :: xs, σ, D, e, a, w, H, hg => by
    refine wp_seq (wp_mono (hg G D e a w H) ?_)
    rintro ex a' w' ⟨D', e', τ, H', hk⟩
    cases ex with
    | normal => exact seg_wp hr xs H' hk
    | _ => rw [after_code (by simp)] at hk; exact hk.elim

theorem MTree.cell {lo hi : Nat} {h : Array Obj} {l : Bnds} {v : Value} (H : MTree lo hi h l v) : isCell v = true := by
  obtain ⟨A, c, rfl, _⟩ := H
  rfl

/-- A contract, told in another context. -/
theorem ACalls.up {κ : CtxP} {f : FuncId} {args : List T} {o : List (Option AObj)} {Φ : Post} (h : ACalls pk f args o Φ) : ACalls { pk with κ := κ } f args o Φ := h

theorem wp_rest {X : Pk} {N np : Nat} {Φ : State → Prop} {G : Ctx X.κ} {c : Code} {Q : Exit → Act → World → Prop} {n : Nat} {σ : State} {D : Nat → Prop} {e : List ALoc} {a : Act} {w : World} (H : Rel N np G D e σ a w)
    (hg : goal X N np (cutR N np Φ (fun _ _ => False)) (.nrm ((takeC n c).map .code)) σ)
    (hr : ∀ {τ : State} {D : Nat → Prop} {e : List ALoc} {a : Act} {w : World}, Rel N np G D e τ a w → Φ τ → (restC n c).wp X.P Q a w) : c.wp X.P Q a w := by
  have h := seg_wp hr (takeC n c) H hg
  rwa [nest_take] at h
end

section
open Go Go.RowKit Go.Shelf
def seqB : Int → Bnds → Bnds
  | _, [] => []
  | k, x :: l => ⟨k % 3 == 0, seqI (k + 1) x.list.length, seqP (k + 1 + x.list.length) x.pairs.length⟩ :: seqB (k + 1 + x.list.length + 2 * x.pairs.length) l

theorem seqB_length : ∀ (l : Bnds) (k : Int), (seqB k l).length = l.length
  | [], _ => rfl
  | x :: l, k => by simp [seqB, seqB_length l]

theorem markN_cons (x : Slot) (l : Bnds) : markN (x :: l) = 1 + x.list.length + 2 * x.pairs.length + markN l := by simp [markN]

def markX (k : Int) (x : Slot) : Slot := ⟨k % 3 == 0, seqI (k + 1) x.list.length, seqP (k + 1 + x.list.length) x.pairs.length⟩

theorem seqB_at : ∀ (l : Bnds) (k : Int) (i : Nat) (x : Slot), l[i]? = some x → (seqB k l)[i]? = some (markX (k + markN (l.take i)) x)
  | [], _, _, _, h => by simp at h
  | y :: l, k, 0, x, h => by
    simp at h; subst h
    simp [seqB, markX, markN]
  | y :: l, k, i + 1, x, h => by
    have h' : l[i]? = some x := by simpa using h
    have := seqB_at l (k + 1 + y.list.length + 2 * y.pairs.length) i x h'
    simp only [seqB, List.getElem?_cons_succ, List.take_succ_cons, markN_cons]
    rw [this]
    congr 2
    omega

theorem heldSlotS_ct (l : Bnds) (k : Int) (hl : l.length ≤ 1048576) (hs : ∀ x ∈ l, x.list.length ≤ 16777216 ∧ x.pairs.length ≤ 16777216) (hk : 0 ≤ k) (hk' : k + markN l ≤ 67108864) :
    ACalls pk 53 [.one (.fs ((seqB k l).map eL)), .one (.int .i64 k)] [] (fun r o => r = .one (.int .i64 (k + markN l)) ∧ o = []) := by
  have hsl := seqB_length l k
  refine acalls_of_body Tryz.func53 rfl (by kernel_rfl) rfl ?_
  refine rn rfl ?_
  refine goal_loop_keep (fun m σ => ∃ (n q : Int) (i : Nat), n = i ∧ i ≤ l.length ∧ m = l.length - i ∧ q = k + markN (l.take i) ∧
      σ = ⟨[(5, .one (.int .i64 n)), (1, .one (.int .i64 q)), (0, .one (.fs ((seqB k l).map eL)))], [], []⟩) l.length [5, 1, 0] [] rfl
    ⟨_, _, 0, rfl, by omega, by omega, by simp [markN], rfl⟩ ?_
  rintro m σ ⟨n, q, i, rfl, hi, rfl, rfl, rfl⟩
  refine rn rfl ?_
  refine goal_cond rfl (fun h => ?_) (fun h => ?_) <;> simp only [decide_eq_true_eq, decide_eq_false_iff_not, List.length_map, hsl] at h
  · obtain ⟨x, hx⟩ := at_some (xs := l) (i := i) (by omega)
    have hsx := seqB_at l k i x hx
    obtain ⟨hx1, hx2⟩ := hs x (List.mem_of_getElem? hx)
    have hm1 : markN (l.take (i + 1)) = markN (l.take i) + (1 + x.list.length + 2 * x.pairs.length) := by rw [← take_snoc hx, markN_snoc]
    have hm2 := markN_take l (i + 1)
    generalize hq : k + (markN (l.take i) : Int) = q at *
    have hw : IntKind.i64.wrap (q + 1) = q + 1 := wrap64 (by omega) (by omega)
    refine rn rfl ?_
    refine goal_did rfl rfl (dA_index (eL (markX q x)) rfl rfl rfl rfl rfl rfl rfl (by omega) (by (try simp); omega) (map_at (by simpa using hsx)) rfl) ?_
    refine rn rfl ?_
    have hb : (!((markX q x).given == (Int.tmod q (Int.ofNat (2 + 1)) == 0))) = false := by
      have : Int.tmod q (Int.ofNat (2 + 1)) = q % 3 := Int.tmod_eq_emod_of_nonneg (by omega)
      rw [this]; simp [markX]
    refine goal_cond rfl (fun h1 => by rw [hb] at h1; cases h1) (fun _ => ?_)
    refine rn rfl ?_
    refine goal_did rfl rfl (dA_index (eL (markX q x)) rfl rfl rfl rfl rfl rfl rfl (by omega) (by (try simp); omega) (map_at (by simpa using hsx)) rfl) ?_
    refine rn rfl ?_
    have h1 := heldIntS_ct x.list.length (q + 1) (by omega) (by omega) (by omega)
    refine goal_step (step_callE [] rfl rfl rfl rfl rfl rfl ((by rw [hw]; rfl)) (h1)) ?_
    rintro σ2 ⟨r, o', ⟨rfl, rfl⟩, hσ⟩
    obtain rfl := Option.some.inj hσ
    clear hσ
    refine rn rfl ?_
    refine goal_cond rfl (fun h2 => by simp at h2; omega) (fun _ => ?_)
    refine rn rfl ?_
    refine goal_did rfl rfl (dA_index (eL (markX q x)) rfl rfl rfl rfl rfl rfl rfl (by omega) (by (try simp); omega) (map_at (by simpa using hsx)) rfl) ?_
    refine rn rfl ?_
    have h2 := heldPairS_ct x.pairs.length (q + 1 + x.list.length) (by omega) (by omega) (by omega)
    refine goal_step (step_call [] rfl rfl rfl rfl rfl rfl (h2)) ?_
    rintro σ2 ⟨r, o', ⟨rfl, rfl⟩, hσ⟩
    obtain rfl := Option.some.inj hσ
    clear hσ
    refine rn rfl ?_
    refine goal_cond rfl (fun h2 => by simp at h2; omega) (fun _ => ?_)
    refine rn rfl ?_
    refine round_keep (l.length - (i + 1)) [5, 1, 0] [] (by omega) rfl ⟨_, _, i + 1, wrap64 (by omega) (by omega), by omega, rfl, ?_, rfl⟩
    omega
  · refine rn rfl ?_
    refine round_ext ?_
    refine rn rfl (fin_is [] rfl ⟨?_, rfl⟩)
    rw [show i = l.length by omega, List.take_length]

theorem heldBinding_ct (l : Bnds) (k : Int) (hl : l.length ≤ 1048576) (hs : ∀ x ∈ l, x.list.length ≤ 16777216 ∧ x.pairs.length ≤ 16777216) (hk : 0 ≤ k) (hk' : k + markN l ≤ 67108864) :
    ACalls pk 26 [.agg (eBi (seqB k l)), .one (.int .i64 k)] [] (fun r o => r = .one (.int .i64 (k + markN l)) ∧ o = []) := by
  refine acalls_of_body Tryz.func26 rfl (by kernel_rfl) rfl ?_
  refine rn rfl ?_
  refine goal_step (step_call [] rfl rfl rfl rfl rfl rfl (heldSlotS_ct l k hl hs hk hk')) ?_
  rintro σ2 ⟨r, o', ⟨rfl, rfl⟩, hσ⟩
  obtain rfl := Option.some.inj hσ
  clear hσ
  refine rn rfl ?_
  refine goal_cond rfl (fun h => by simp at h; omega) (fun _ => ?_)
  exact rn rfl (fin_is [] rfl ⟨rfl, rfl⟩)

/-- A slice of own memory that lies in the blocks of a set. -/
def SubS (S : Nat → Prop) (h : Array Obj) (O : List (Option AObj)) (n : Nat) (v : Value) : Prop :=
  ∃ e : List ALoc, SR noD h e O ∧ TR noD h e (.one (.os 0 0 n n)) v ∧ ∀ b, Wof e b → S b

theorem SubS.keep {S : Nat → Prop} {h h' : Array Obj} {O : List (Option AObj)} {n : Nat} {v : Value} (H : SubS S h O n v) (hk : ∀ b, S b → h'[b]? = h[b]?) (hs : h.size ≤ h'.size) : SubS S h' O n v := by
  obtain ⟨e, h1, h2, h3⟩ := H
  exact ⟨e, sr_keep h1 (fun b hb => hk b (h3 b hb)) hs, tr_noD h2, h3⟩

theorem SubS.mono {S S' : Nat → Prop} {h : Array Obj} {O : List (Option AObj)} {n : Nat} {v : Value} (H : SubS S h O n v) (hS : ∀ b, S b → S' b) : SubS S' h O n v := by
  obtain ⟨e, h1, h2, h3⟩ := H
  exact ⟨e, h1, h2, fun b hb => hS b (h3 b hb)⟩

theorem SubS.data {S : Nat → Prop} {n : Nat} {w : World} {v : Value} {ob : AObj} {R2 : T} (H : SubS S w.heap [some ob] n v) (hf : finR 0 [] (.one (.os 0 0 n n)) [some ob] = some (R2, [])) : TR (lowD w.heap.size) w.heap [] R2 v := by
  obtain ⟨e, h1, h2, _⟩ := H
  exact own_data glob_any h1 h2 hf

theorem mark_listS (xs : List Int) (k : Int) (hx : xs.length ≤ 16777216) (hk : 0 ≤ k) (hk' : k ≤ 67108864) {S : Nat → Prop} {w : World} {v : Value} (H : SubS S w.heap [ownI xs] xs.length v) :
    Calls Tryz.prog 41 #[v, .int .i64 k] w fun en w' => en = .returned (.int .i64 (k + xs.length)) ∧ Ext w S w' ∧ SubS S w'.heap [ownI (seqI k xs.length)] xs.length v := by
  obtain ⟨e, h1, h2, h3⟩ := H
  refine (raw_set (markIntS_ct xs k xs.length hx hk hk') glob_any h1 (vals := [v, .int .i64 k]) ?_ rfl (noFzO_I _) rfl).mono ?_
  · simp only [TRs]
    exact ⟨_, _, rfl, h2, _, _, rfl, by simp only [TR, CR], rfl⟩
  · rintro en w' ⟨v', rfl, htr, hsr, hext⟩
    simp only [TR, CR] at htr
    subst htr
    exact ⟨rfl, ⟨hext.os, hext.tape, hext.output, hext.size, fun b hb hn => hext.block b hb (fun hw => hn (h3 b hw))⟩, e, hsr, tr_noD h2, h3⟩

theorem mark_pairsS (xs : List Pair) (k : Int) (hx : xs.length ≤ 16777216) (hk : 0 ≤ k) (hk' : k ≤ 67108864) {S : Nat → Prop} {w : World} {v : Value} (H : SubS S w.heap [ownP xs] xs.length v) :
    Calls Tryz.prog 42 #[v, .int .i64 k] w fun en w' => en = .returned (.int .i64 (k + 2 * xs.length)) ∧ Ext w S w' ∧ SubS S w'.heap [ownP (seqP k xs.length)] xs.length v := by
  obtain ⟨e, h1, h2, h3⟩ := H
  refine (raw_set (markPairS_ct xs k xs.length hx hk hk') glob_any h1 (vals := [v, .int .i64 k]) ?_ rfl (noFzO_P _) rfl).mono ?_
  · simp only [TRs]
    exact ⟨_, _, rfl, h2, _, _, rfl, by simp only [TR, CR], rfl⟩
  · rintro en w' ⟨v', rfl, htr, hsr, hext⟩
    simp only [TR, CR] at htr
    subst htr
    exact ⟨rfl, ⟨hext.os, hext.tape, hext.output, hext.size, fun b hb hn => hext.block b hb (fun hw => hn (h3 b hw))⟩, e, hsr, tr_noD h2, h3⟩

/-- .. or an empty one. -/
def SubL (S : Nat → Prop) (h : Array Obj) (O : List (Option AObj)) (n : Nat) (v : Value) : Prop := SubS S h O n v ∨ (n = 0 ∧ ∃ A c, v = .slice A 0 c)

theorem SubL.keep {S : Nat → Prop} {h h' : Array Obj} {O : List (Option AObj)} {n : Nat} {v : Value} (H : SubL S h O n v) (hk : ∀ b, S b → h'[b]? = h[b]?) (hs : h.size ≤ h'.size) : SubL S h' O n v :=
  H.imp (fun h => h.keep hk hs) id

theorem SubL.dataI {S : Nat → Prop} {xs : List Int} {w : World} {v : Value} (H : SubL S w.heap [ownI xs] xs.length v) : TR (lowD w.heap.size) w.heap [] (.one (.fs (xs.map eI))) v := by
  rcases H with H | ⟨h0, A, c, rfl⟩
  · have := H.data (R2 := .one (.fs ((List.drop 0 (xs.map eI)).take xs.length))) rfl
    rwa [takeAll eI _ _ rfl] at this
  · have hx : xs = [] := List.eq_nil_of_length_eq_zero h0
    subst hx
    simp only [TR, CR]
    exact ⟨A, c, rfl, Nat.zero_le _, .inl rfl⟩

theorem SubL.dataP {S : Nat → Prop} {xs : List Pair} {w : World} {v : Value} (H : SubL S w.heap [ownP xs] xs.length v) : TR (lowD w.heap.size) w.heap [] (.one (.fs (xs.map eP))) v := by
  rcases H with H | ⟨h0, A, c, rfl⟩
  · have := H.data (R2 := .one (.fs ((List.drop 0 (xs.map eP)).take xs.length))) rfl
    rwa [takeAll eP _ _ rfl] at this
  · have hx : xs = [] := List.eq_nil_of_length_eq_zero h0
    subst hx
    simp only [TR, CR]
    exact ⟨A, c, rfl, Nat.zero_le _, .inl rfl⟩

theorem markIntN_ct (k : Int) : ACalls pk 41 [.one (.fs []), .one (.int .i64 k)] [] (fun r o => r = .one (.int .i64 k) ∧ o = []) := by
  refine acalls_of_body Tryz.func41 rfl (by kernel_rfl) rfl ?_
  refine rn rfl ?_
  refine goal_loop_keep (fun m σ => σ = ⟨[(5, .one (.int .i64 0)), (1, .one (.int .i64 k)), (0, .one (.fs []))], [], []⟩) 0 [5, 1, 0] [] rfl rfl ?_
  rintro m σ rfl
  refine rn rfl ?_
  refine goal_cond rfl (fun h => by simp at h) (fun _ => ?_)
  refine rn rfl ?_
  refine round_ext ?_
  exact rn rfl (fin_is [] rfl ⟨rfl, rfl⟩)

theorem markPairN_ct (k : Int) : ACalls pk 42 [.one (.fs []), .one (.int .i64 k)] [] (fun r o => r = .one (.int .i64 k) ∧ o = []) := by
  refine acalls_of_body Tryz.func42 rfl (by kernel_rfl) rfl ?_
  refine rn rfl ?_
  refine goal_loop_keep (fun m σ => σ = ⟨[(5, .one (.int .i64 0)), (1, .one (.int .i64 k)), (0, .one (.fs []))], [], []⟩) 0 [5, 1, 0] [] rfl rfl ?_
  rintro m σ rfl
  refine rn rfl ?_
  refine goal_cond rfl (fun h => by simp at h) (fun _ => ?_)
  refine rn rfl ?_
  refine round_ext ?_
  exact rn rfl (fin_is [] rfl ⟨rfl, rfl⟩)

theorem empty_args {w : World} {A : Option Addr} {c : Nat} {k : Int} : TRs (lowD w.heap.size) w.heap [] [.one (.fs []), .one (.int .i64 k)] [.slice A 0 c, .int .i64 k] := by
  simp only [TRs]
  refine ⟨_, _, rfl, ?_, _, _, rfl, by simp only [TR, CR], rfl⟩
  simp only [TR, CR]
  exact ⟨A, c, rfl, Nat.zero_le _, .inl trivial⟩

theorem ext_below {S : Nat → Prop} {w w' : World} (h : Below w.heap.size w w') : Ext w S w' := ⟨h.os, h.tape, h.output, h.size, fun b hb _ => h.block b hb⟩

theorem mark_listL (xs : List Int) (k : Int) (hx : xs.length ≤ 16777216) (hk : 0 ≤ k) (hk' : k ≤ 67108864) {S : Nat → Prop} {w : World} {v : Value} (H : SubL S w.heap [ownI xs] xs.length v) :
    Calls Tryz.prog 41 #[v, .int .i64 k] w fun en w' => en = .returned (.int .i64 (k + xs.length)) ∧ Ext w S w' ∧ SubL S w'.heap [ownI (seqI k xs.length)] xs.length v := by
  rcases H with H | ⟨h0, A, c, rfl⟩
  · exact (mark_listS xs k hx hk hk' H).mono fun en w' ⟨h1, h2, h3⟩ => ⟨h1, h2, .inl h3⟩
  · refine (raw_int (markIntN_ct k) glob_any (vals := [.slice A 0 c, .int .i64 k]) empty_args).mono ?_
    rintro en w' ⟨rfl, hb⟩
    refine ⟨by rw [h0]; simp, ext_below hb, .inr ⟨h0, A, c, rfl⟩⟩

theorem mark_pairsL (xs : List Pair) (k : Int) (hx : xs.length ≤ 16777216) (hk : 0 ≤ k) (hk' : k ≤ 67108864) {S : Nat → Prop} {w : World} {v : Value} (H : SubL S w.heap [ownP xs] xs.length v) :
    Calls Tryz.prog 42 #[v, .int .i64 k] w fun en w' => en = .returned (.int .i64 (k + 2 * xs.length)) ∧ Ext w S w' ∧ SubL S w'.heap [ownP (seqP k xs.length)] xs.length v := by
  rcases H with H | ⟨h0, A, c, rfl⟩
  · exact (mark_pairsS xs k hx hk hk' H).mono fun en w' ⟨h1, h2, h3⟩ => ⟨h1, h2, .inl h3⟩
  · refine (raw_int (markPairN_ct k) glob_any (vals := [.slice A 0 c, .int .i64 k]) empty_args).mono ?_
    rintro en w' ⟨rfl, hb⟩
    refine ⟨by rw [h0]; simp, ext_below hb, .inr ⟨h0, A, c, rfl⟩⟩

/-- The slots 'l' lie in block 'g', what they hold in blocks that 'tag' tells apart. -/
def CT (R : Nat → Prop) (h : Array Obj) (g o : Nat) (t : TypeId) (tag : Nat → Nat) (l : Bnds) : Prop :=
  tag g = 0 ∧ R g ∧ ∃ cs : Array Value, h[g]? = some (.cells cs t (0, 0)) ∧ ∀ i x, l[i]? = some x → ∃ LV PV, cs[o + i * 3]? = some (.bool x.given) ∧ cs[o + i * 3 + 1]? = some LV ∧ cs[o + i * 3 + 2]? = some PV ∧
    SubL (fun b => R b ∧ tag b = 2 * i + 1) h [ownI x.list] x.list.length LV ∧ SubL (fun b => R b ∧ tag b = 2 * i + 2) h [ownP x.pairs] x.pairs.length PV

theorem CT.keep {R : Nat → Prop} {h h' : Array Obj} {g o : Nat} {t : TypeId} {tag : Nat → Nat} {l : Bnds} (H : CT R h g o t tag l) (hk : ∀ b, R b → h'[b]? = h[b]?) (hs : h.size ≤ h'.size) : CT R h' g o t tag l := by
  obtain ⟨h1, h2, cs, h3, h4⟩ := H
  refine ⟨h1, h2, cs, by rw [hk g h2]; exact h3, fun i x hx => ?_⟩
  obtain ⟨LV, PV, a1, a2, a3, a4, a5⟩ := h4 i x hx
  exact ⟨LV, PV, a1, a2, a3, a4.keep (fun b hb => hk b hb.1) hs, a5.keep (fun b hb => hk b hb.1) hs⟩

theorem markSlotS_c (l : Bnds) (c : Nat) (k : Int) (hlc : l.length ≤ c) (hl : l.length ≤ 1048576) (hs : ∀ x ∈ l, x.list.length ≤ 16777216 ∧ x.pairs.length ≤ 16777216) (hk : 0 ≤ k) (hk' : k + markN l ≤ 67108864) {R : Nat → Prop} {g o : Nat} {t : TypeId} {tag : Nat → Nat} {w : World} (hR : ∀ b, R b → b < w.heap.size) (H : CT R w.heap g o t tag l) :
    Calls Tryz.prog 40 #[.slice (some ⟨g, o, none⟩) l.length c, .int .i64 k] w fun en w' => en = .returned (.int .i64 (k + markN l)) ∧ Ext w R w' ∧ CT R w'.heap g o t tag (seqB k l) := by
  have u3 := run_underlying Tryz.underlying3
  have e41 : ∀ args w, (callFunc 41 args).run Tryz.prog w = .ok (.enter 41 args) w := enters_of Tryz.func41 (by kernel_rfl) rfl
  have e42 : ∀ args w, (callFunc 42 args).run Tryz.prog w = .ok (.enter 42 args) w := enters_of Tryz.func42 (by kernel_rfl) rfl
  have hsb := seqB_length l k
  go_enter Tryz.func40, Tryz.ntmps40
  go_wp2_with fail
  go_loopw [1, 5] (fun kv iv wr => ∃ i : Nat, i ≤ l.length ∧ iv = .int .i64 i ∧ kv = .int .i64 (k + markN (l.take i)) ∧ Hid (Ext w R wr ∧ CT R wr.heap g o t tag ((seqB k l).take i ++ l.drop i))) (fun _ iv _ => l.length - (intOf iv).toNat)
  case atStart => exact ⟨0, Nat.zero_le _, rfl, by simp [markN], ⟨Ext.refl _ _, by simpa using H⟩⟩
  case round =>
    obtain ⟨i, hik, rfl, rfl, HM⟩ := hrel
    by_cases hil : i < l.length
    · obtain ⟨x, hx⟩ := at_some (xs := l) (i := i) hil
      obtain ⟨hext, hct⟩ := HM.out
      have hli : ((seqB k l).take i ++ l.drop i)[i]? = some x := by
        rw [List.getElem?_append_right (by simp; omega)]
        simp only [List.length_take, hsb]
        rw [show i - min i l.length = 0 by omega, List.getElem?_drop]
        simpa using hx
      have hset : ((seqB k l).take i ++ l.drop i).set i (markX (k + markN (l.take i)) x) = (seqB k l).take (i + 1) ++ l.drop (i + 1) := by
        rw [List.set_append_right _ _ (by simp; omega), ← take_snoc (seqB_at l k i x hx), drop_at hx]
        simp only [List.length_take, hsb]
        rw [show i - min i l.length = 0 by omega]
        simp
      generalize (seqB k l).take i ++ l.drop i = li at *
      obtain ⟨tg, Rg, cs, hcs, hslots⟩ := hct
      obtain ⟨LV, PV, b0, b1, b2, SL, SP⟩ := hslots i x hli
      have hm1 : markN (l.take (i + 1)) = markN (l.take i) + (1 + x.list.length + 2 * x.pairs.length) := by rw [← take_snoc hx, markN_snoc]
      have hm2 := markN_take l (i + 1)
      have c0 : wr.cell? ⟨g, o + i * 3, none⟩ = some (.bool x.given) := by rw [cell_blk hcs]; exact b0
      have c1 : wr.cell? ⟨g, o + i * 3 + 1, none⟩ = some LV := by rw [cell_blk hcs]; exact b1
      have c2 : wr.cell? ⟨g, o + i * 3 + 2, none⟩ = some PV := by rw [cell_blk hcs]; exact b2
      have f0 : wr.frozen? ⟨g, o + i * 3, none⟩ = false := frozen_blk hcs _
      have hkm : 0 ≤ k + (markN (l.take i) : Int) := by omega
      go_wp2_with fail
      generalize hq : k + (markN (l.take i) : Int) = q at *
      generalize hbv : (q % 3 == 0) = bv
      have hA : ∀ b, b ≠ g → (wr.setCell ⟨g, o + i * 3, none⟩ (.bool bv)).heap[b]? = wr.heap[b]? := fun b hb => setCell_other hb
      have hAg := setCell_at (o := o + i * 3) (v := .bool bv) hcs
      have hAs : (wr.setCell ⟨g, o + i * 3, none⟩ (.bool bv)).heap.size = wr.heap.size := setCell_size
      have hAo : (wr.setCell ⟨g, o + i * 3, none⟩ (.bool bv)).os = wr.os ∧ (wr.setCell ⟨g, o + i * 3, none⟩ (.bool bv)).tape = wr.tape ∧ (wr.setCell ⟨g, o + i * 3, none⟩ (.bool bv)).output = wr.output := ⟨rfl, rfl, rfl⟩
      generalize hwA : wr.setCell ⟨g, o + i * 3, none⟩ (.bool bv) = wA at *
      have gne : ∀ b, 0 < tag b → b ≠ g := fun b hb h => by rw [h, tg] at hb; omega
      have SLA := SL.keep (fun b hb => hA b (gne b (by omega))) (Nat.le_of_eq hAs.symm)
      refine (mark_listL x.list _ (hs x (List.mem_of_getElem? hx)).1 (by omega) (by omega) SLA).mono ?_
      rintro en wB ⟨rfl, hB, SLB⟩
      have hgA : g < wA.heap.size := (Array.getElem?_eq_some_iff.1 hAg).1
      have hBg : wB.heap[g]? = some (.cells (cs.setIfInBounds (o + i * 3) (.bool bv)) t (0, 0)) := by rw [hB.block g hgA (fun h => by have := h.2; omega)]; exact hAg
      have d2 : wB.cell? ⟨g, o + i * 3 + 2, none⟩ = some PV := by
        rw [cell_blk hBg, Array.getElem?_setIfInBounds, if_neg (by omega)]
        exact b2
      have hws := hext.size
      have hBs := hB.size
      have hRr : ∀ b, R b → b < wA.heap.size := fun b hb => by have := hR b hb; omega
      have hAB : ∀ b, R b → b ≠ g → tag b ≠ 2 * i + 1 → wB.heap[b]? = wr.heap[b]? := fun b h1 h2 h3 => by rw [hB.block b (hRr b h1) (fun h => h3 h.2), hA b h2]
      have SPB := SP.keep (h' := wB.heap) (fun b hb => hAB b hb.1 (gne b (by omega)) (by omega)) (by omega)
      go_wp2_with fail
      refine (mark_pairsL x.pairs _ (hs x (List.mem_of_getElem? hx)).2 (by omega) (by omega) SPB).mono ?_
      rintro en wC ⟨rfl, hC, SPC⟩
      have hk2 : q + 1 + x.list.length + 2 * x.pairs.length = k + (markN (l.take (i + 1)) : Int) := by omega
      have HI : Hid (Ext w R wC ∧ CT R wC.heap g o t tag ((seqB k l).take (i + 1) ++ l.drop (i + 1))) := by
        have hCs := hC.size
        have hA2 : Ext wr R wA := ⟨hAo.1, hAo.2.1, hAo.2.2, by omega, fun b hb hn => hA b (fun h => hn (by rw [h]; exact Rg))⟩
        have hB2 : Ext wA R wB := ext_sub hB (fun b hb => hb.1)
        have hC2 : Ext wB R wC := ext_sub hC (fun b hb => hb.1)
        have hRB : ∀ b, R b → b < wB.heap.size := fun b hb => by have := hRr b hb; omega
        have hAC : ∀ b, R b → b ≠ g → tag b ≠ 2 * i + 1 → tag b ≠ 2 * i + 2 → wC.heap[b]? = wr.heap[b]? := fun b h1 h2 h3 h4 => by rw [hC.block b (hRB b h1) (fun h => h4 h.2), hAB b h1 h2 h3]
        refine ⟨ext_trans (ext_trans (ext_trans hext hA2) hB2) hC2, tg, Rg, cs.setIfInBounds (o + i * 3) (.bool bv), ?_, fun j y hy => ?_⟩
        · rw [hC.block g (hRB g Rg) (fun h => by have := h.2; omega)]; exact hBg
        · rw [← hset] at hy
          by_cases hji : j = i
          · subst hji
            rw [List.getElem?_set_self (by have := lt_of_some hli; omega)] at hy
            obtain rfl := Option.some.inj hy
            refine ⟨LV, PV, ?_, ?_, ?_, ?_, ?_⟩
            · rw [Array.getElem?_setIfInBounds, if_pos rfl, if_pos (Array.getElem?_eq_some_iff.1 b0).1]
              simp only [markX, hbv]
            · rw [Array.getElem?_setIfInBounds, if_neg (by omega)]; exact b1
            · rw [Array.getElem?_setIfInBounds, if_neg (by omega)]; exact b2
            · have := SLB.keep (h' := wC.heap) (fun b hb => hC.block b (hRB b hb.1) (fun h => by have h1 := h.2; have h2 := hb.2; omega)) hCs
              simp only [markX, seqI_length]; exact this
            · simp only [markX, seqP_length]; exact SPC
          · rw [List.getElem?_set_ne (by omega)] at hy
            obtain ⟨LV', PV', a0, a1, a2, a3, a4⟩ := hslots j y hy
            refine ⟨LV', PV', ?_, ?_, ?_, a3.keep (fun b hb => hAC b hb.1 (gne b (by omega)) (by omega) (by omega)) (by omega), a4.keep (fun b hb => hAC b hb.1 (gne b (by omega)) (by omega) (by omega)) (by omega)⟩
            · rw [Array.getElem?_setIfInBounds, if_neg (by omega)]; exact a0
            · rw [Array.getElem?_setIfInBounds, if_neg (by omega)]; exact a1
            · rw [Array.getElem?_setIfInBounds, if_neg (by omega)]; exact a2
      clear hA hAg hAs hAo SLA hB hBg d2 SPB hBs hC SL SP SLB SPC hslots hAB HM H hws
      go_wp2
      refine ⟨⟨i + 1, by omega, by go_num, ?_, HI⟩, by simp [intOf]; omega⟩
      congr 1
      omega
    · have hie : i = l.length := by omega
      subst hie
      have HE : Hid (Ext w R wr ∧ CT R wr.heap g o t tag (seqB k l)) := by
        have := HM.out
        rw [List.drop_length, List.append_nil, ← hsb, List.take_length] at this
        exact this
      rw [List.take_length]
      clear HM H
      go_wp2
      go_ret
      exact ⟨rfl, HE.out⟩

theorem CT.data {R : Nat → Prop} {w : World} {g o c : Nat} {t : TypeId} {tag : Nat → Nat} {l : Bnds} (H : CT R w.heap g o t tag l) (hlc : l.length ≤ c) : CR (lowD w.heap.size) w.heap [] (.fs (l.map eL)) (.slice (some ⟨g, o, none⟩) l.length c) := by
  obtain ⟨_, _, cells, hcells, hat⟩ := H
  simp only [CR, List.length_map]
  refine ⟨_, c, rfl, hlc, .inr ⟨⟨g, o, none⟩, cells, t, (0, 0), 3, rfl, rfl, (Array.getElem?_eq_some_iff.1 hcells).1, hcells, ?_⟩⟩
  rw [CRr_iff]
  intro i r hr
  rw [List.getElem?_map, Option.map_eq_some_iff] at hr
  obtain ⟨x, hx, rfl⟩ := hr
  obtain ⟨LV, PV, h1, h2, h3, SL, SP⟩ := hat i x hx
  refine ⟨rfl, ?_⟩
  have dl := SL.dataI
  have dp := SP.dataP
  simp only [TR] at dl dp
  have hd : (cells.toList.drop o).drop (i * 3) = Value.bool x.given :: LV :: PV :: cells.toList.drop (o + i * 3 + 3) := by
    have t1 : cells.toList[o + i * 3]? = some (Value.bool x.given) := by rw [Array.getElem?_toList]; exact h1
    have t2 : cells.toList[o + i * 3 + 1]? = some LV := by rw [Array.getElem?_toList]; exact h2
    have t3 : cells.toList[o + i * 3 + 2]? = some PV := by rw [Array.getElem?_toList]; exact h3
    rw [List.drop_drop, drop_at t1, drop_at t2, drop_at t3]
  rw [hd]
  simp only [eL, CRp, and_true]
  exact ⟨by simp only [CR], dl, dp⟩

theorem markBinding_c (l : Bnds) (c : Nat) (k : Int) (hlc : l.length ≤ c) (hl : l.length ≤ 1048576) (hs : ∀ x ∈ l, x.list.length ≤ 16777216 ∧ x.pairs.length ≤ 16777216) (hk : 0 ≤ k) (hk' : k + markN l ≤ 67108864) {R : Nat → Prop} {g o : Nat} {t : TypeId} {tag : Nat → Nat} {w : World} (hR : ∀ b, R b → b < w.heap.size) (H : CT R w.heap g o t tag l) :
    Calls Tryz.prog 15 #[.agg #[.slice (some ⟨g, o, none⟩) l.length c], .int .i64 k] w fun en w' => en = .returned (.int .i64 (k + markN l)) ∧ Ext w R w' ∧ CT R w'.heap g o t tag (seqB k l) := by
  have e40 : ∀ args w, (callFunc 40 args).run Tryz.prog w = .ok (.enter 40 args) w := enters_of Tryz.func40 (by kernel_rfl) rfl
  go_enter Tryz.func15, Tryz.ntmps15
  go_wp2_with fail
  have HT : CT R (w.alloc (.cells #[Value.slice (some ⟨g, o, none⟩) l.length c] 41)).heap g o t tag l := H.keep (fun b hb => heap_alloc_old w _ (hR b hb)) (by simp)
  refine (markSlotS_c l c k hlc hl hs hk hk' (fun b hb => by have := hR b hb; simp; omega) HT).mono ?_
  rintro en w2 ⟨rfl, h2, h3⟩
  have HE : Hid (Ext w R w2 ∧ CT R w2.heap g o t tag (seqB k l)) := ⟨ext_trans (w1 := w.alloc (.cells #[Value.slice (some ⟨g, o, none⟩) l.length c] 41)) ⟨rfl, rfl, rfl, by simp, fun b hb _ => heap_alloc_old w _ hb⟩ h2, h3⟩
  clear h2 h3 HT H
  go_wp2
  go_ret
  exact ⟨rfl, HE.out⟩

/-- A context in which a tree with tags lies in the blocks of 'R'. -/
def treeC (R : Nat → Prop) (g o : Nat) (t : TypeId) (tag : Nat → Nat) (l : Bnds) : CtxP := fun w0 _ e0 => CT R w0.heap g o t tag l ∧ ∀ b, R b → b < w0.heap.size ∧ ¬ Wof e0 b

theorem treeC_now {R : Nat → Prop} {g o : Nat} {t : TypeId} {tag : Nat → Nat} {l : Bnds} {N np : Nat} {σ : State} {G : Ctx (treeC R g o t tag l)} {D : Nat → Prop} {e : List ALoc} {a : Act} {w : World} (H : Rel N np G D e σ a w) : CT R w.heap g o t tag l :=
  G.ok.1.keep (fun b hb => H.ext.block b (G.ok.2 b hb).1 (G.ok.2 b hb).2) H.ext.size
end

section
open Go Go.RowKit Go.Shelf
/-- What is known of a new slice. -/
def FxNew (lo : Nat) (rows : List (List C)) (LV : Value) : Prop :=
  ∃ ad n c, LV = .slice (some ad) n c ∧ lo ≤ ad.block ∧ ∀ (j : Nat) (r : List C) (k : Nat) (v : Value) (ys : List (List C)), rows[j]? = some r → r[k]? = some (.fx v ys) → ys ≠ [] → ∀ ad' n' c', v = .slice (some ad') n' c' → ad'.block ≠ ad.block

section

variable {N : Nat} {ψ : CtxP} {G : Ctx ψ} {D : Nat → Prop} {e : List ALoc} {σ : State} {a : Act} {w : World}

/-- An object is told otherwise, its place known. -/
theorem Rel.reObjE {np : Nat} (H : Rel N np G D e σ a w) {id cap0 n0 : Nat} {aa0 : Option Addr} {ob ob' : AObj} (hid : σ.o[id]? = some (some ob)) (he1 : e[id]? = some (.live aa0 ob.esz cap0 n0)) (hes : ob'.esz = ob.esz) (hfz : ob'.fz = ob.fz)
    (hr : ObjR D w.heap e ob aa0 cap0 n0 → ObjR D w.heap e ob' aa0 cap0 n0) : Rel N np G D e ⟨σ.ρ, σ.o.set id (some ob'), σ.k⟩ a w := by
  have hidlt := lt_of_some hid
  refine ⟨H.hnp, by simpa using H.nple, H.ext, H.defers, H.size, H.tmps, ⟨by simpa using H.sr.len, ?_, ?_, H.sr.sep, H.sr.dom⟩, H.new, H.old, H.keep⟩
  · intro id' ob1 hid'
    rw [getElem?_set_ite] at hid'
    by_cases hii : id = id'
    · subst hii
      simp [hidlt] at hid'
      subst hid'
      obtain ⟨aa, cap, n, he, hob⟩ := H.sr.objs id ob hid
      rw [he1] at he
      simp only [Option.some.injEq, ALoc.live.injEq] at he
      obtain ⟨rfl, _, rfl, rfl⟩ := he
      exact ⟨aa0, cap0, n0, by rw [hes]; exact he1, hr hob⟩
    · rw [if_neg hii] at hid'
      exact H.sr.objs id' ob1 hid'
  · intro id' b esz cap n he
    obtain ⟨h1, h2⟩ := H.sr.own id' b _ _ _ he
    refine ⟨h1, fun hD => ?_⟩
    obtain ⟨ob1, ho1, hf1⟩ := h2 hD
    by_cases hii : id = id'
    · subst hii
      rw [hid] at ho1; simp at ho1; subst ho1
      exact ⟨ob', by rw [getElem?_set_ite]; simp [hidlt], by rw [hfz]; exact hf1⟩
    · exact ⟨ob1, by rw [getElem?_set_ite, if_neg hii]; exact ho1, hf1⟩

theorem Rel.fixX (H : Rel N 0 G D e σ a w) {g id i m n es eg : Nat} {rows : List (List C)} {row : List C} {xs : List (List C)} {clg cl bg bx : Bool}
    (hg : σ.o[g]? = some (some ⟨eg, rows, clg, false, bg⟩)) (hi : rows[i]? = some row) (hm : row[m]? = some (.os id 0 n n)) (hid : σ.o[id]? = some (some ⟨es, xs, cl, false, bx⟩)) (hne : g ≠ id) (hno : noOwnR xs = true) (hn : xs.length = n) (hpos : xs ≠ []) :
    ∃ LV D', Rel N 0 G D' e ⟨σ.ρ, (σ.o.set id (some ⟨es, xs, cl, true, bx⟩)).set g (some ⟨eg, rows.set i (row.set m (.fx LV xs)), false, false, bg⟩), σ.k⟩ a w ∧
      ∃ ad n c, LV = .slice (some ad) n c ∧ (Wof G.e0 ad.block ∨ G.w0.heap.size ≤ ad.block) ∧ ∀ (j : Nat) (r : List C) (k : Nat) (v : Value) (ys : List (List C)), rows[j]? = some r → r[k]? = some (.fx v ys) → ys ≠ [] → ∀ ad' n' c', v = .slice (some ad') n' c' → ad'.block ≠ ad.block := by
  obtain ⟨adg, capg, ng, eg1, eg2, eg3, eg4⟩ := H.sr.objs g _ hg
  simp only at eg1 eg2 eg3 eg4
  cases adg with
  | none => obtain ⟨h0, _⟩ := eg4; subst h0; simp at hi
  | some bgA =>
  obtain ⟨q1, q2, cells, t, q3, q4, q5, q6⟩ := eg4
  have hrow := CRr.get q6 hi
  obtain ⟨LV, hLV, hcr⟩ := CRp.get hrow.2 hm
  obtain ⟨ad1, cap1, n1, ei1, ei2, ei3, ei4⟩ := H.sr.objs id _ hid
  simp only at ei1 ei2 ei3 ei4
  have hcr0 := hcr
  simp only [CR, ei1] at hcr
  obtain ⟨A, c, rfl, _, hc, hn1, hA⟩ := hcr
  have hn0 : 0 < n := by rw [← hn]; exact List.length_pos_iff.2 hpos
  rcases hA with hA | ⟨b, rfl, rfl, hcap⟩
  · omega
  simp only [Nat.zero_mul, Nat.add_zero, Nat.zero_add] at hcap hn1 hLV ⊢
  obtain ⟨r1, r2, cells2, t2, r3, r4, r5, r6⟩ := ei4
  obtain ⟨D', H2, hD'⟩ := H.fzAll (fun j => if j = id then none else some j) (fun j hj => absurd hj (Nat.not_lt_zero _))
  have hfa : Go.Proofs.YtocdfakomfifbaaGreat.fzAll (fun j => if j = id then none else some j) 0 σ.o = σ.o.set id (some ⟨es, xs, cl, true, bx⟩) := by
    apply List.ext_getElem?
    intro j
    rw [fzAll_get, getElem?_set_ite]
    simp only [Nat.zero_add]
    by_cases hj : id = j
    · subst hj
      rw [if_pos rfl, if_pos (lt_of_some hid), hid]
      simp [setFz]
    · rw [if_neg hj]
      have hj' : ¬ j = id := fun h => hj h.symm
      cases hx : σ.o[j]? with
      | none => rfl
      | some x => simp [hj']
  rw [hfa] at H2
  have hgid : ¬ id = g := fun h => hne h.symm
  have hg2 : (σ.o.set id (some ⟨es, xs, cl, true, bx⟩))[g]? = some (some ⟨eg, rows, clg, false, bg⟩) := by rw [getElem?_set_ite, if_neg hgid]; exact hg
  have hid2 : (σ.o.set id (some ⟨es, xs, cl, true, bx⟩))[id]? = some (some ⟨es, xs, cl, true, bx⟩) := by rw [getElem?_set_ite, if_pos rfl, if_pos (lt_of_some hid)]
  have hDb : D' b.block := by
    obtain ⟨ad3, _, _, s1, s2, s3, s4⟩ := H2.sr.objs id _ hid2
    rw [ei1] at s1
    simp only [Option.some.injEq, ALoc.live.injEq] at s1
    obtain ⟨rfl, _⟩ := s1
    exact s4.2.1 rfl
  have hbo : b.off + c * es ≤ cells2.size := by
    have : c * es ≤ cap1 * es := Nat.mul_le_mul_right _ hcap
    have := r5; omega
  have hfx : CR D' w.heap e (.fx (.slice (some ⟨b.block, b.off, none⟩) n c) xs) (.slice (some ⟨b.block, b.off, none⟩) n c) := by
    simp only [CR, true_and]
    refine ⟨some ⟨b.block, b.off, none⟩, c, by rw [hn], by omega, .inr ⟨⟨b.block, b.off, none⟩, cells2, t2, es, rfl, rfl, hDb, r3, hbo, ?_⟩⟩
    exact CRr.env e [] es _ _ hno (CRr.mono (fun b hb => ⟨hD' b hb, rfl⟩) e e (Leads.refl e) _ _ _ r6)
  refine ⟨_, D', H2.reObjE hg2 eg1 rfl rfl ?_, ⟨b.block, b.off, none⟩, n, c, rfl, H.new id b _ _ _ ei1, ?_⟩
  · rintro ⟨p1, p2, p3⟩
    refine ⟨by rw [p1]; simp, (fun h => by cases h), ?_⟩
    · obtain ⟨z1, z2, cs, tt, z3, z4, z5, z6⟩ := p3
      refine ⟨z1, z2, cs, tt, z3, z4, z5, ?_⟩
      rw [q3] at z3
      simp only [Option.some.injEq, Obj.cells.injEq] at z3
      obtain ⟨rfl, _⟩ := z3
      simp only at z6 ⊢
      rw [CRr_iff] at z6 ⊢
      intro j r hj
      rw [getElem?_set_ite] at hj
      by_cases hij : i = j
      · subst hij
        rw [if_pos rfl, if_pos (lt_of_some hi)] at hj
        simp only [Option.some.injEq] at hj
        subst hj
        obtain ⟨h1, h2⟩ := z6 i row hi
        refine ⟨by rw [List.length_set]; exact h1, ?_⟩
        rw [CRp_iff] at h2 ⊢
        intro k cc hk
        rw [getElem?_set_ite] at hk
        by_cases hmk : m = k
        · subst hmk
          rw [if_pos rfl, if_pos (lt_of_some hm)] at hk
          simp only [Option.some.injEq] at hk
          subst hk
          exact ⟨_, hLV, hfx⟩
        · rw [if_neg hmk] at hk
          exact h2 k cc hk
      · rw [if_neg hij] at hj
        exact z6 j r hj
  · intro j r k v ys hj hk hys ad' n' c' hv hb
    subst hv
    have hrj := CRr.get q6 hj
    obtain ⟨y, _, hy⟩ := CRp.get hrj.2 hk
    simp only [CR] at hy
    obtain ⟨rfl, A, c2, hy2, _, hx⟩ := hy
    rcases hx with hx | ⟨a3, _, _, _, rfl, _, hD3, _⟩
    · exact hys hx
    · simp only [Value.slice.injEq, Option.some.injEq] at hy2
      obtain ⟨rfl, _⟩ := hy2
      simp only at hb
      rw [hb] at hD3
      obtain ⟨ob, ho, hf⟩ := (H.sr.own id b _ _ _ ei1).2 hD3
      rw [hid] at ho
      simp only [Option.some.injEq] at ho
      subst ho
      cases hf

end

/-- A call from memory that is not smaller than 'lo'. -/
def loK (lo : Nat) : CtxP := fun w _ e => lo ≤ w.heap.size ∧ e = []

noncomputable abbrev pkK (lo : Nat) : Pk := { pk with κ := loK lo }

section

variable {lo N : Nat} {K : KP} {σ : State}

theorem fixX_ad {lo g id i m n es eg : Nat} {ψ : CtxP} {G : Ctx (loK lo)} {D : Nat → Prop} {e : List ALoc} {a : Act} {w : World} {rows : List (List C)} {row : List C} {xs : List (List C)} {clg cl bg bx : Bool} {obg ob : AObj} (H : Rel N 0 G D e σ a w)
    (hg : getObj? σ g = some obg) (hge : obg = ⟨eg, rows, clg, false, bg⟩) (hi : rows[i]? = some row) (hm : row[m]? = some (.os id 0 n n)) (hid : getObj? σ id = some ob) (hie : ob = ⟨es, xs, cl, false, bx⟩) (hne : Nat.beq g id = false) (hno : noOwnR xs = true) (hn : xs.length = n) (hpos : xs ≠ []) :
    ∃ LV D', FxNew lo rows LV ∧ Rel N 0 G D' e ⟨σ.ρ, setNth (setNth σ.o id (some ⟨es, xs, cl, true, bx⟩)) g (some ⟨eg, rows.set i (row.set m (.fx LV xs)), false, false, bg⟩), σ.k⟩ a w := by
  subst hge; subst hie
  have hne' : g ≠ id := fun h => by subst h; rw [Nat.beq_refl] at hne; cases hne
  obtain ⟨LV, D', H', ad, n', c, rfl, h1, h2⟩ := H.fixX (getObj?_eq hg) hi hm (getObj?_eq hid) hne' hno hn hpos
  refine ⟨_, D', ⟨ad, n', c, rfl, ?_, h2⟩, ?_⟩
  · obtain ⟨l1, l2⟩ := G.ok
    rcases h1 with h1 | h1
    · rw [l2] at h1
      obtain ⟨_, _, _, _, _, h3, _⟩ := h1
      simp at h3
    · omega
  · rw [setNth_eq, setNth_eq]; exact H'

/-- Own memory that a row speaks of is given over to it: from now on it is read only. -/
theorem goal_fixX {c : Code} {k : List It} (g id i m : Nat) {n es eg : Nat} {rows : List (List C)} {row : List C} {xs : List (List C)} {clg cl bg bx : Bool} {obg ob : AObj}
    (hg : getObj? σ g = some obg) (hge : obg = ⟨eg, rows, clg, false, bg⟩) (hi : rows[i]? = some row) (hm : row[m]? = some (.os id 0 n n)) (hid : getObj? σ id = some ob) (hie : ob = ⟨es, xs, cl, false, bx⟩) (hne : Nat.beq g id = false) (hno : noOwnR xs = true) (hn : xs.length = n) (hpos : xs ≠ [])
    (h : ∀ LV, FxNew lo rows LV → goal (pkK lo) N 0 K (.cod c k) ⟨σ.ρ, setNth (setNth σ.o id (some ⟨es, xs, cl, true, bx⟩)) g (some ⟨eg, rows.set i (row.set m (.fx LV xs)), false, false, bg⟩), σ.k⟩) :
    goal (pkK lo) N 0 K (.cod c k) σ := fun G D e a w H => by
  obtain ⟨LV, D', h1, H'⟩ := fixX_ad (ψ := loK lo) H hg hge hi hm hid hie hne hno hn hpos
  exact h LV h1 G D' e a w H'

end

/-- 'Called with data, in memory that is not smaller than 'lo', function 'f' returns what 'Φ' says.' -/
def ACallsK (lo : Nat) (f : FuncId) (args : List T) (Φ : Post) : Prop :=
  Callable pk.P f ∧ ∀ (D : Nat → Prop) (w : World) (vals : List Value), lo ≤ w.heap.size → GlobOk w [] → SR D w.heap [] [] → TRs D w.heap [] args vals →
    Calls pk.P f vals.toArray w fun en w' => ∃ v r o' D' e', en = .returned v ∧ Φ r o' ∧ TR D' w'.heap e' r v ∧ SR D' w'.heap e' o' ∧ Ext w (fun _ => False) w' ∧
      (∀ (id : Nat) (b : Addr) (esz cap n : Nat), e'[id]? = some (.live (some b) esz cap n) → w.heap.size ≤ b.block) ∧
      (∀ b, D' b → b < w.heap.size → D b)

theorem wof_nil {b : Nat} (h : Wof [] b) : False := by
  obtain ⟨_, _, _, _, _, h3, _⟩ := h
  simp at h3

theorem acallsK_of_body {lo : Nat} {f : FuncId} {fn : Func} {c : Code} {args : List T} {Φ : Post} (hf : pk.P.funcs[f]? = some fn) (hb : fn.body = some c)
    (hna : (fn.name == "runtime.NumGoroutine") = false) (hn : Nat.ble args.length fn.ntmps = true) (h : goal (pkK lo) fn.ntmps 0 (finK (pkK lo) fn 0 Φ) (.cod c []) ⟨zipArgs 0 args, [], []⟩) : ACallsK lo f args Φ := by
  refine ⟨⟨fn, hf, by rw [hb]; rfl, hna⟩, ?_⟩
  intro D w vals hlo hgl hsr hargs
  refine calls_of_wp hf hb ?_
  have hlen : vals.length = args.length := by
    clear h hf hb hn hna
    induction args generalizing vals with
    | nil => simp only [TRs] at hargs; subst hargs; rfl
    | cons t ts ih => simp only [TRs] at hargs; obtain ⟨x, r, rfl, _, h2⟩ := hargs; simp [ih r h2]
  have hn' := Nat.le_of_ble_eq_true hn
  have H0 : Rel fn.ntmps 0 (⟨w, D, [], hgl, hlo, rfl⟩ : Ctx (pkK lo).κ) D [] ⟨zipArgs 0 args, [], []⟩ { tmps := vals.toArray ++ Array.replicate (fn.ntmps - vals.toArray.size) undef, defers := [] } w := by
    refine ⟨Nat.le_refl _, Nat.le_refl _, Ext.refl _ _, rfl, by simp; omega, fun t => ?_, hsr, fun id b esz cap n he => by simp at he, fun b hb _ => .inl hb, fun _ _ => rfl⟩
    have h1 := getρ_zip args 0 t
    simp only [Nat.zero_add] at h1
    simp only [h1]
    cases ht : args[t]? with
    | none => simp [TR]
    | some x =>
      obtain ⟨v, hv, hxv⟩ := TRs.get hargs ht
      have hlt : t < vals.length := by
        rcases Nat.lt_or_ge t vals.length with h' | h'
        · exact h'
        · rw [List.getElem?_eq_none h'] at hv; cases hv
      have : (vals.toArray ++ Array.replicate (fn.ntmps - vals.toArray.size) undef).getD t undef = v := by
        simp only [Array.getD_eq_getD_getElem?]
        rw [Array.getElem?_append_left (by simpa using hlt)]
        simp [hv]
      rw [this]
      exact hxv
  refine wp_mono (h (⟨w, D, [], hgl, hlo, rfl⟩ : Ctx (pkK lo).κ) D [] _ w H0) ?_
  rintro ex a1 w1 ⟨D1, e1, σ1, H1, hk⟩
  have fin : (∃ σ', Weak fn.ntmps 0 σ1 σ' ∧ Fin (pkK lo) fn 0 Φ σ') → a1.defers = [] ∧ ∃ v, (results fn a1.tmps).run pk.P w1 = .ok v w1 ∧ ∃ v' r o' D' e', Ending.returned v = .returned v' ∧ Φ r o' ∧ TR D' w1.heap e' r v' ∧ SR D' w1.heap e' o' ∧ Ext w (fun _ => False) w1 ∧
      (∀ (id : Nat) (b : Addr) (esz cap n : Nat), e'[id]? = some (.live (some b) esz cap n) → w.heap.size ≤ b.block) ∧
      (∀ b, D' b → b < w.heap.size → D b) := by
    rintro ⟨σ1', hw1, ks, d, t, hnd', hres, hΦ⟩
    obtain ⟨D1, e1, H1⟩ := hw1 H1
    obtain ⟨v, hv, htv⟩ := resT_spec H1 hres
    obtain ⟨D2, H2, hD2⟩ := H1.fzAll (fun id => idxOf (rangeL 0 0 ks) id 0) (fun id hid => absurd hid (Nat.not_lt_zero _))
    have htv2 : TR D2 w1.heap e1 t v := TR.mono (fun b hb => ⟨hD2 b hb, rfl⟩) (Leads.refl e1) t v htv
    have hx := H1.ext
    refine ⟨H1.defers, v, hv, v, _, _, D2, pickE e1 (rangeL 0 0 ks), rfl, hΦ, reT_spec H2.sr (fun id j l => pick_map id j l) d t v htv2, H2.sr.pick hnd' d, ⟨hx.os, hx.tape, hx.output, hx.size, fun b hb _ => hx.block b hb (fun h => wof_nil h)⟩, ?_, fun b hb hlt => (H2.old b hb hlt).elim id (fun h => (h.none (Nat.le_refl _)).elim)⟩
    intro id b esz cap n he
    rw [pickE_get] at he
    cases hi : (rangeL 0 0 ks)[id]? with
    | none => rw [hi] at he; simp at he
    | some id' =>
      rw [hi] at he
      simp only [Option.map_some, List.getD, Option.some.injEq] at he
      cases hid : e1[id']? with
      | none => rw [hid] at he; simp at he
      | some l =>
        rw [hid] at he; simp at he; subst he
        rcases H1.new id' b _ _ _ hid with h3 | h3
        · exact (wof_nil h3).elim
        · exact h3
  cases ex with
  | normal => exact fin hk
  | ret => exact fin hk
  | exit id => exact hk.elim
  | goto l => exact hk.elim
  | panic ch => exact hk.elim
  | outgrown => exact hk.elim

/-- A call by such a contract. -/
theorem step_callK {lo N : Nat} {σ : State} {ops : Array Oper} {i : Nat} {dst : Option Nat} {c : Operand} {xs : Array Operand} {ts : Array TypeId} {ty : TypeId} {pos : String} {aft : Array Edge} {g : Option (Nat × Bool)}
    {f : FuncId} {caps : List C} {σ1 : State} {args : List T} {o1 : List (Option AObj)} {Φ : Post}
    (ho : nthA ops i = some ⟨dst, .call ⟨.value c, xs, ts⟩, ty, pos, aft, g⟩) (hg : guardOf N ops g σ = .go) (hc : evalO σ c = .one (.fn f caps)) (hd : dstB N dst = true)
    (hcs : callS 0 [] σ (appT (evalArgs σ xs.toList) (onesT caps)) = some (σ1, args, o1)) (hcon : ACallsK lo f args Φ) :
    StepA (pkK lo) N 0 ops i (fun id => id ∈ ([] : List Nat)) σ (fun σ2 => ∃ r o', Φ r o' ∧ retS N [] dst σ1 r o' = some σ2) := by
  have hsz : ∀ {G : Ctx (loK lo)} {D : Nat → Prop} {e : List ALoc} {σ : State} {a : Act} {w : World}, Rel N 0 G D e σ a w → lo ≤ w.heap.size := fun {G D e σ a w} H => Nat.le_trans G.ok.1 H.ext.size
  intro G D e a w Q K' H next
  rw [nthA_eq] at ho
  unfold callS at hcs
  obtain ⟨ρ, oo, κ⟩ := σ
  simp only at hcs
  split at hcs
  · cases hcs
  rename_i hge
  rw [forceO_eq] at hcs
  split at hcs
  · cases hcs
  rename_i hlv
  simp only [Option.some.injEq, Prod.mk.injEq] at hcs
  obtain ⟨rfl, hargs, ho1⟩ := hcs
  have ho1' : o1 = [] := by rw [← ho1]; rfl
  subst ho1'
  unfold wpOp
  simp only [ho, (guardOf_spec H (ops := ops) (o := ⟨dst, .call ⟨.value c, xs, ts⟩, ty, pos, aft, g⟩)).1 hg, if_true]
  left
  obtain ⟨D1, H1, hD1⟩ := Rel.frz' _ hge H
  generalize fzL (needTs [] oo 4 (appT (evalArgs ⟨ρ, oo, κ⟩ xs.toList) (onesT caps)) []) oo = of at *
  have hcv := H1.ev c
  have hc1 : evalO ⟨ρ, of, κ⟩ c = .one (.fn f caps) := by rw [← hc]; cases c <;> rfl
  rw [hc1] at hcv
  simp only [TR, CR] at hcv
  obtain ⟨cv, hcv, hcl, hcr⟩ := hcv
  have hea : ∀ xs, evalArgs ⟨ρ, of, κ⟩ xs = evalArgs ⟨ρ, oo, κ⟩ xs := by
    intro xs
    induction xs with
    | nil => rfl
    | cons x xs ih => simp only [evalArgs, ih]; congr 1
  have hargs0 : TRs D1 w.heap e (appT (evalArgs ⟨ρ, oo, κ⟩ xs.toList) (onesT caps)) (xs.toList.map a.eval ++ cv.toList) := by
    rw [appT_eq]
    have := evalArgs_spec H1 xs.toList
    rw [hea] at this
    exact this.append (onesT_spec (by simpa using hcl) hcr)
  have hargs1 := reTs_spec (e1 := pickE e []) H1.sr (fun id j l => pick_map (ids := []) id j l) 4 _ _ hargs0
  simp only at hargs1
  rw [hargs] at hargs1
  have hlive := liveJs_spec hlv
  unfold Oper.wp
  rw [run_call rfl hcv hcon.1]
  simp only [Oper.upon]
  have hC := hcon.2 D1 w (xs.toList.map a.eval ++ cv.toList) (hsz H) (G.gl.next H1.ext (fun id b esz cap n he => by simp at he)) ⟨rfl, by simp, by simp, by simp, H1.sr.dom⟩ hargs1
  have hvals : (xs.toList.map a.eval ++ cv.toList).toArray = xs.map a.eval ++ cv := by
    apply Array.ext'; simp
  rw [hvals] at hC
  refine hC.mono ?_
  rintro en w' ⟨v, r, o', D', e', rfl, hΦ, htr, hsr', hext, hnew, hold⟩
  obtain ⟨D2, e2, H2, hT2, hP2⟩ := H1.called (js := []) rfl (fun id hid => by cases hid) hsr' (hext := ⟨hext.os, hext.tape, hext.output, hext.size, fun b hb _ => hext.block b hb id⟩) (fun id b esz cap n he => .inr (hnew id b esz cap n he)) hold (fun id hid => absurd hid (Nat.not_lt_zero _)) (Nat.zero_le _)
  have hx := hT2 r v htr
  have H3 := H2.putv hx (putS_eq hd)
  refine next D2 e2 _ _ w' H3 ⟨fun b hb => hP2.1 b (hD1 b hb), hP2.2⟩ ⟨r, o', hΦ, ?_⟩
  simp only [retS, lenK_eq, Nat.zero_add, forceO_eq, appO_eq]
  exact putS_eq hd
end

section
open Go Go.RowKit Go.Shelf
def lcell (v : Option Value) (xs : List (List C)) : C := match v with
  | none => .fs xs
  | some v => .fx v xs

def rowX (v : Option Value) (cm : Option C) (p : Param) (x : Slot) : List C := [.bool x.given, lcell v (x.list.map eI), cellOr (p.kind == 4) cm (.fs (x.pairs.map eP))]

abbrev VF := Nat → Option Value

def rowsX (V : VF) (cm : Option C) (s : Sig) (b : Bnds) : List (List C) := (s.zip b).mapIdx fun i q => rowX (V i) cm q.1 q.2

def updV (V : VF) (i : Nat) (v : Option Value) : VF := fun j => if j = i then v else V j

theorem rowsX_get (V : VF) (cm : Option C) (s : Sig) (b : Bnds) (i : Nat) : (rowsX V cm s b)[i]? = ((s.zip b)[i]?).map fun q => rowX (V i) cm q.1 q.2 := by simp [rowsX]

theorem rowsX_at {V : VF} {cm : Option C} {s : Sig} {b : Bnds} {i : Nat} {p : Param} {x : Slot} (hp : s[i]? = some p) (hx : b[i]? = some x) : (rowsX V cm s b)[i]? = some (rowX (V i) cm p x) := by
  rw [rowsX_get, (by simp [List.getElem?_zip_eq_some, hp, hx] : (s.zip b)[i]? = some (p, x))]; rfl

theorem rowsX_len {V : VF} {cm : Option C} {s : Sig} {b : Bnds} (h : b.length = s.length) : (rowsX V cm s b).length = s.length := by simp [rowsX, h]

theorem rowsX_set {V : VF} {cm : Option C} {s : Sig} {b : Bnds} {i : Nat} {p : Param} {y : Slot} {v : Option Value} (hp : s[i]? = some p) : (rowsX V cm s b).set i (rowX v cm p y) = rowsX (updV V i v) cm s (b.set i y) := by
  apply List.ext_getElem?
  intro j
  rw [List.getElem?_set, rowsX_get, rowsX_get]
  by_cases hij : i = j
  · subst hij
    by_cases hb : i < b.length
    · have h1 : (s.zip (b.set i y))[i]? = some (p, y) := by simp [List.getElem?_zip_eq_some, hp, hb]
      have hl : i < (rowsX V cm s b).length := by have := lt_of_some hp; simp [rowsX]; omega
      rw [if_pos rfl, if_pos hl, h1]
      simp [updV]
    · have h1 : (s.zip (b.set i y))[i]? = none := by rw [List.getElem?_eq_none]; simp; omega
      have hl : ¬ i < (rowsX V cm s b).length := by simp [rowsX]; omega
      rw [if_pos rfl, if_neg hl, h1]
      rfl
  · rw [if_neg hij]
    have h1 : (s.zip (b.set i y))[j]? = (s.zip b)[j]? := by
      simp only [List.zip, List.getElem?_zipWith, List.getElem?_set, if_neg hij]
    rw [h1]
    have h2 : updV V i v j = V j := by simp only [updV]; rw [if_neg (fun h => hij h.symm)]
    rw [h2]

theorem lcell_re {f : C → C} (hf : ∀ xs, f (.fs xs) = .fs xs) (hx : ∀ v xs, f (.fx v xs) = .fx v xs) (v : Option Value) (xs : List (List C)) : f (lcell v xs) = lcell v xs := by
  cases v
  · exact hf _
  · exact hx _ _

theorem rowX_re {f : C → C} (hb : ∀ b, f (.bool b) = .bool b) (hf : ∀ xs, f (.fs xs) = .fs xs) (hx : ∀ v xs, f (.fx v xs) = .fx v xs) (v : Option Value) (cm : Option C) (p : Param) (x : Slot) : mapC f (rowX v cm p x) = rowX v (cm.map f) p x := by
  simp only [rowX, mapC, hb, lcell_re hf hx, cellOr_map (hf _)]

theorem rowsX_re {f : C → C} (hb : ∀ b, f (.bool b) = .bool b) (hf : ∀ xs, f (.fs xs) = .fs xs) (hx : ∀ v xs, f (.fx v xs) = .fx v xs) (V : VF) (cm : Option C) (s : Sig) (b : Bnds) : mapR f (rowsX V cm s b) = rowsX V (cm.map f) s b := by
  rw [mapR_eq]
  apply List.ext_getElem?
  intro i
  rw [List.getElem?_map, rowsX_get, rowsX_get, Option.map_map]
  congr 1
  funext q
  exact rowX_re hb hf hx _ _ _ _

/-- A row put, told anew. -/
theorem rowsX_put {f : C → C} (hb : ∀ b, f (.bool b) = .bool b) (hf : ∀ xs, f (.fs xs) = .fs xs) (hx : ∀ v xs, f (.fx v xs) = .fx v xs) {V : VF} {cm : Option C} {s : Sig} {b : Bnds} {i : Nat} {p : Param} {y : Slot} (v : Option Value) {r : List C}
    (hp : s[i]? = some p) (hr : mapC f r = rowX v (cm.map f) p y) : mapR f ((rowsX V cm s b).set i r) = rowsX (updV V i v) (cm.map f) s (b.set i y) := by
  have h0 := rowsX_re hb hf hx V cm s b
  rw [mapR_eq] at h0 ⊢
  rw [List.map_set, h0, hr, rowsX_set hp]

theorem rowsX_none (cm : Option C) (s : Sig) (b : Bnds) : rowsM none cm s b = rowsX (fun _ => none) cm s b := by
  apply List.ext_getElem?
  intro i
  rw [rowsX_get]
  simp only [rowsM, List.zip, List.getElem?_zipWith]
  cases s[i]? <;> cases b[i]? <;> simp only [Option.map_none, Option.map_some, Option.some.injEq]
  rename_i p x
  simp only [rowM, rowX, lcell]
  cases (p.kind == 2) <;> rfl

/-- Where the lists lie. -/
structure VOk (lo : Nat) (tag : Nat → Nat) (V : VF) (b : Bnds) : Prop where
  at_ : ∀ i v, V i = some v → ∃ ad n c, v = .slice (some ad) n c ∧ lo ≤ ad.block ∧ tag ad.block = 2 * i + 1
  some_ : ∀ i v, V i = some v → ∃ x, b[i]? = some x ∧ x.list ≠ []
  none_ : ∀ i x, b[i]? = some x → V i = none → x.list = []

theorem VOk.put {lo : Nat} {tag : Nat → Nat} {V : VF} {b : Bnds} {s : Sig} {cm : Option C} (h : VOk lo tag V b) {i : Nat} {r : List C} {y : Slot} {LV : Value} (hl : b.length = s.length) (hi : i < s.length) (hy : y.list ≠ []) (hn : FxNew lo ((rowsX V cm s b).set i r) LV) :
    ∃ tag', VOk lo tag' (updV V i (some LV)) (b.set i y) := by
  obtain ⟨ad, n, c, rfl, h1, h2⟩ := hn
  refine ⟨fun k => if k = ad.block then 2 * i + 1 else tag k, ⟨fun j v hv => ?_, fun j v hv => ?_, fun j x hx hv => ?_⟩⟩
  · simp only [updV] at hv
    by_cases hj : j = i
    · subst hj
      rw [if_pos rfl] at hv
      obtain rfl := Option.some.inj hv
      exact ⟨ad, n, c, rfl, h1, by simp⟩
    · rw [if_neg hj] at hv
      obtain ⟨ad', n', c', rfl, h3, h4⟩ := h.at_ j v hv
      obtain ⟨x, hx, hxl⟩ := h.some_ j _ hv
      refine ⟨ad', n', c', rfl, h3, ?_⟩
      have hjl : j < s.length := by have := lt_of_some hx; omega
      obtain ⟨p, hp⟩ := at_some hjl
      have hne := h2 j _ 1 _ _ (by rw [List.getElem?_set_ne (fun h0 => hj h0.symm)]; exact rowsX_at hp hx) (by rw [hv]; rfl) (by simpa using hxl) ad' n' c' rfl
      show (if ad'.block = ad.block then _ else _) = _
      rw [if_neg hne]; exact h4
  · simp only [updV] at hv
    by_cases hj : j = i
    · subst hj
      exact ⟨y, by rw [List.getElem?_set_self (by omega)], hy⟩
    · rw [if_neg hj] at hv
      obtain ⟨x, hx, hxl⟩ := h.some_ j _ hv
      exact ⟨x, by rw [List.getElem?_set_ne (fun h0 => hj h0.symm)]; exact hx, hxl⟩
  · simp only [updV] at hv
    by_cases hj : j = i
    · subst hj; rw [if_pos rfl] at hv; cases hv
    · rw [if_neg hj] at hv
      rw [List.getElem?_set_ne (fun h0 => hj h0.symm)] at hx
      exact h.none_ j x hx hv

/-- A slot whose list is zs it was. -/
theorem VOk.same {lo : Nat} {tag : Nat → Nat} {V : VF} {b : Bnds} (h : VOk lo tag V b) {i : Nat} {x y : Slot} (hx : b[i]? = some x) (hy : y.list = x.list) : VOk lo tag V (b.set i y) := by
  refine ⟨h.at_, fun j v hv => ?_, fun j z hz hv => ?_⟩
  · obtain ⟨z, hz, hzl⟩ := h.some_ j v hv
    by_cases hj : i = j
    · subst hj
      rw [hx] at hz; cases hz
      exact ⟨y, by rw [List.getElem?_set_self (lt_of_some hx)], by rw [hy]; exact hzl⟩
    · exact ⟨z, by rw [List.getElem?_set_ne hj]; exact hz, hzl⟩
  · by_cases hj : i = j
    · subst hj
      rw [List.getElem?_set_self (lt_of_some hx)] at hz; cases hz
      rw [hy]; exact h.none_ i x hx hv
    · rw [List.getElem?_set_ne hj] at hz
      exact h.none_ j z hz hv

theorem VOk.zero (lo : Nat) (n : Nat) : VOk lo (fun _ => 0) (fun _ => none) (List.replicate n zL) := by
  refine ⟨(fun i v hv => by cases hv), (fun i v hv => by cases hv), fun i x hx _ => ?_⟩
  rw [List.getElem?_replicate] at hx
  split at hx
  · cases hx; rfl
  · cases hx

/-- The map's pairs put. -/
theorem storePX {s : Sig} (hs : OkS s) {V : VF} {c c' : C} {b : Bnds} {i j : Nat} {p : Param} {x : Slot} {ps : List Pair} (hp : s[i]? = some p) (hx : b[i]? = some x) (hk : p.kind = 4) (hj : j = i) :
    rowsX V (some c') s (b.set i ⟨x.given, x.list, ps⟩) = (rowsX V (some c) s b).set j (patch [.bool x.given, lcell (V i) (x.list.map eI), c] 2 [c']) := by
  subst hj
  apply List.ext_getElem?
  intro k
  have hlen : j < (rowsX V (some c) s b).length := by
    have h1 := lt_of_some hp; have h2 := lt_of_some hx; simp [rowsX]; omega
  rw [List.getElem?_set]
  by_cases hjk : j = k
  · subst hjk
    rw [if_pos rfl, if_pos hlen, rowsX_at hp (by rw [List.getElem?_set]; simp [lt_of_some hx]; rfl)]
    simp only [rowX, hk]
    rfl
  · rw [if_neg hjk, rowsX_get, rowsX_get]
    simp only [List.zip, List.getElem?_zipWith, List.getElem?_set, if_neg hjk]
    cases hq : s[k]? with
    | none => rfl
    | some q =>
      cases hy : b[k]? with
      | none => rfl
      | some y =>
        have h4 : (q.kind == 4) = false := by
          have : q.kind ≠ 4 := fun h0 => hjk (hs.one hp hq (by omega) (single_four h0))
          simpa using this
        simp only [rowX, h4, cellOr, Option.map_some]

theorem rowX_map {v : Option Value} {c' : C} {p : Param} {x : Slot} (h : p.kind = 4) : rowX v (some c') p x = [.bool x.given, lcell v (x.list.map eI), c'] := by
  simp only [rowX, h]; rfl

theorem rowX_plain {v : Option Value} {cm : Option C} {p : Param} {x : Slot} (h : p.kind ≠ 4) : rowX v cm p x = [.bool x.given, lcell v (x.list.map eI), .fs (x.pairs.map eP)] := by
  have : (p.kind == 4) = false := by simpa using h
  simp only [rowX, this]
  cases cm <;> rfl
end

end Go.Proofs.YtocdfakomfifbaaGreat
