/- Sorting pairs by name: the program's way. -/
import Derived.Test.YtkjbjgndinjdpaaCj
set_option linter.unusedVariables false
set_option linter.unusedSimpArgs false
namespace Go.Proofs.Ytkjbjgndinjdpaa
open Go
set_option maxRecDepth 100000

def lenTab : Str := [0, 1, 2, 2, 3, 3, 3, 3, 4, 4, 4, 4, 4, 4, 4, 4, 5, 5, 5, 5, 5, 5, 5, 5, 5, 5, 5, 5, 5, 5, 5, 5, 6, 6, 6, 6, 6, 6, 6, 6, 6, 6, 6, 6, 6, 6, 6, 6, 6, 6, 6, 6, 6, 6, 6, 6, 6, 6, 6, 6, 6, 6, 6, 6, 7, 7, 7, 7, 7, 7, 7, 7, 7, 7, 7, 7, 7, 7, 7, 7, 7, 7, 7, 7, 7, 7, 7, 7, 7, 7, 7, 7, 7, 7, 7, 7, 7, 7, 7, 7, 7, 7, 7, 7, 7, 7, 7, 7, 7, 7, 7, 7, 7, 7, 7, 7, 7, 7, 7, 7, 7, 7, 7, 7, 7, 7, 7, 7, 8, 8, 8, 8, 8, 8, 8, 8, 8, 8, 8, 8, 8, 8, 8, 8, 8, 8, 8, 8, 8, 8, 8, 8, 8, 8, 8, 8, 8, 8, 8, 8, 8, 8, 8, 8, 8, 8, 8, 8, 8, 8, 8, 8, 8, 8, 8, 8, 8, 8, 8, 8, 8, 8, 8, 8, 8, 8, 8, 8, 8, 8, 8, 8, 8, 8, 8, 8, 8, 8, 8, 8, 8, 8, 8, 8, 8, 8, 8, 8, 8, 8, 8, 8, 8, 8, 8, 8, 8, 8, 8, 8, 8, 8, 8, 8, 8, 8, 8, 8, 8, 8, 8, 8, 8, 8, 8, 8, 8, 8, 8, 8, 8, 8, 8, 8, 8, 8, 8, 8, 8, 8, 8, 8, 8, 8, 8, 8]

theorem len64_ct (n : Nat) (hn : n < 256) : ACalls pk 151 [.one (.int .u64 n)] [] (fun r o => (∃ z, r = .one (.int .i64 z)) ∧ o = []) := by
  refine acalls_of_body Try.func151 rfl (by kernel_rfl) rfl ?_
  refine rn rfl ?_
  refine goal_cond rfl (fun h => ?_) (fun h => ?_) <;> simp only [ge_iff_le, decide_eq_true_eq, decide_eq_false_iff_not] at h
  · omega
  refine rn rfl ?_
  refine goal_cond rfl (fun h => ?_) (fun h => ?_) <;> simp only [ge_iff_le, decide_eq_true_eq, decide_eq_false_iff_not] at h
  · omega
  refine rn rfl ?_
  refine goal_cond rfl (fun h => ?_) (fun h => ?_) <;> simp only [ge_iff_le, decide_eq_true_eq, decide_eq_false_iff_not] at h
  · omega
  refine rn rfl ?_
  obtain ⟨c, hc⟩ := at_some (xs := lenTab) (i := n) hn
  have hw : IntKind.u8.wrap (n : Int) = n := wrap_u8 (by omega) (by omega)
  refine goal_did rfl rfl (dA_strIndex (s := lenTab) c rfl rfl rfl rfl rfl rfl (by rw [hw]; omega) (by rw [hw]; simpa using hc)) ?_
  exact rn rfl (fin_is [] rfl ⟨⟨_, rfl⟩, rfl⟩)

theorem len_ct (n : Nat) (hn : n < 256) : ACalls pk 135 [.one (.int .u64 n)] [] (fun r o => (∃ z, r = .one (.int .i64 z)) ∧ o = []) := by
  refine acalls_of_body Try.func135 rfl (by kernel_rfl) rfl ?_
  refine rn rfl ?_
  refine goal_condF rfl ?_
  refine rn rfl ?_
  refine goal_step (step_call [] rfl rfl rfl rfl rfl rfl (len64_ct n hn)) ?_
  rintro σ2 ⟨r, o', ⟨⟨z, rfl⟩, rfl⟩, hσ⟩
  obtain rfl := Option.some.inj hσ
  exact rn rfl (fin_is [] rfl ⟨⟨_, rfl⟩, rfl⟩)

theorem pdqSmall_ct (lt : Pair → Pair → Bool) (cm : Pair → Pair → Int) (f : FuncId) (hcm : ∀ p q, cm p q < 0 ↔ lt p q = true)
    (hcl : ∀ p q, ACalls pk f [.agg (eP p), .agg (eP q)] [] (fun r o => r = .one (.int .i64 (cm p q)) ∧ o = [])) (xs : List Pair) (kc : Nat) (z : Int) (hl : xs.length ≤ 12) :
    ACalls pk 134 [.one (.os 0 0 xs.length kc), .one (.int .i64 0), .one (.int .i64 xs.length), .one (.int .i64 z), .one (.fn f [])] [ownP xs] (fun r o => r = .tup [] ∧ o = [ownP (isortL lt xs)]) := by
  refine acalls_of_body Try.func134 rfl (by kernel_rfl) rfl ?_
  refine rn rfl ?_
  refine goal_loop_keep (fun m σ => σ = ⟨[(4, .one (.fn f [])), (2, .one (.int .i64 xs.length)), (1, .one (.int .i64 0)), (0, .one (.os 0 0 xs.length kc))], [ownP xs], []⟩) 0 [4, 2, 1, 0] [] rfl rfl ?_
  rintro m σ rfl
  refine rn rfl ?_
  have hw : IntKind.i64.wrap ((xs.length : Int) - 0) = xs.length := by rw [wrap64] <;> omega
  refine goal_cond rfl (fun h => ?_) (fun h => ?_) <;> simp only [hw, decide_eq_true_eq, decide_eq_false_iff_not] at h
  · refine rn rfl ?_
    refine goal_step (step_call [0] rfl rfl rfl rfl rfl rfl (insertionSort_ct lt cm f hcm hcl xs kc (by omega))) ?_
    rintro σ2 ⟨r, o', ⟨rfl, rfl⟩, hσ⟩
    obtain rfl := Option.some.inj hσ
    exact rn rfl (round_ret (fin_is [] rfl ⟨rfl, rfl⟩))
  · omega

theorem sortFuncSmall_ct (lt : Pair → Pair → Bool) (cm : Pair → Pair → Int) (f : FuncId) (hcm : ∀ p q, cm p q < 0 ↔ lt p q = true)
    (hcl : ∀ p q, ACalls pk f [.agg (eP p), .agg (eP q)] [] (fun r o => r = .one (.int .i64 (cm p q)) ∧ o = [])) (xs : List Pair) (kc : Nat) (hl : xs.length ≤ 12) :
    ACalls pk 102 [.one (.os 0 0 xs.length kc), .one (.fn f [])] [ownP xs] (fun r o => r = .tup [] ∧ o = [ownP (isortL lt xs)]) := by
  refine acalls_of_body Try.func102 rfl (by kernel_rfl) rfl ?_
  refine rn rfl ?_
  have hw : IntKind.u64.wrap (xs.length : Int) = xs.length := by
    simp only [IntKind.wrap, IntKind.bits, IntKind.signed]
    simp
    omega
  refine goal_step (step_call [] rfl rfl rfl rfl rfl (by simp only [hw]; rfl) (len_ct xs.length (by omega))) ?_
  rintro σ2 ⟨r, o', ⟨⟨z, rfl⟩, rfl⟩, hσ⟩
  obtain rfl := Option.some.inj hσ
  refine rn rfl ?_
  refine goal_step (step_call [0] rfl rfl rfl rfl rfl rfl (pdqSmall_ct lt cm f hcm hcl xs kc z hl)) ?_
  rintro σ2 ⟨r, o', ⟨rfl, rfl⟩, hσ⟩
  obtain rfl := Option.some.inj hσ
  exact rn rfl (fin_is [] rfl ⟨rfl, rfl⟩)

theorem isNaN_ct (a : Str) : ACalls pk 136 [.one (.str a)] [] (fun r o => r = .one (.bool false) ∧ o = []) := by
  refine acalls_of_body Try.func136 rfl (by kernel_rfl) rfl ?_
  exact rn rfl (fin_is [] rfl ⟨by simp, rfl⟩)

def cmpS (a b : Str) : Int := if ltS a b then -1 else if !(ltS a b || a == b) then 1 else 0
theorem cmpS_lt (a b : Str) : cmpS a b < 0 ↔ ltS a b = true := by
  unfold cmpS
  split
  · simp [*]
  · split <;> simp [*]
theorem compare_ct (a b : Str) : ACalls pk 104 [.one (.str a), .one (.str b)] [] (fun r o => r = .one (.int .i64 (cmpS a b)) ∧ o = []) := by
  refine acalls_of_body Try.func104 rfl (by kernel_rfl) rfl ?_
  refine rn rfl ?_
  refine goal_step (step_call [] rfl rfl rfl rfl rfl rfl (isNaN_ct a)) ?_
  rintro σ2 ⟨r, o', ⟨rfl, rfl⟩, hσ⟩
  obtain rfl := Option.some.inj hσ
  refine rn rfl ?_
  refine goal_step (step_call [] rfl rfl rfl rfl rfl rfl (isNaN_ct b)) ?_
  rintro σ2 ⟨r, o', ⟨rfl, rfl⟩, hσ⟩
  obtain rfl := Option.some.inj hσ
  refine rn rfl ?_
  refine goal_condF rfl ?_
  refine rn rfl ?_
  refine goal_condF rfl ?_
  refine rn rfl ?_
  refine goal_cond rfl (fun h => ?_) (fun h => ?_)
  · refine rn rfl (fin_is [] rfl ⟨?_, rfl⟩)
    have h' : ltS a b = true := h
    simp [cmpS, h']
  · refine rn rfl ?_
    have h' : ltS a b = false := h
    refine goal_cond rfl (fun h2 => ?_) (fun h2 => ?_)
    · refine rn rfl (fin_is [] rfl ⟨?_, rfl⟩)
      have h2' : (!(ltS a b || a == b)) = true := h2
      rw [cmpS, if_neg (by rw [h']; simp), if_pos h2']
    · refine rn rfl (fin_is [] rfl ⟨?_, rfl⟩)
      have h2' : (!(ltS a b || a == b)) = false := h2
      rw [cmpS, if_neg (by rw [h']; simp), if_neg (by rw [h2']; simp)]

theorem byNameC_ct (p q : Pair) : ACalls pk 103 [.agg (eP p), .agg (eP q)] [] (fun r o => r = .one (.int .i64 (cmpS p.name q.name)) ∧ o = []) := by
  refine acalls_of_body Try.func103 rfl (by kernel_rfl) rfl ?_
  refine rn rfl ?_
  refine goal_step (step_call [] rfl rfl rfl rfl rfl rfl (compare_ct p.name q.name)) ?_
  rintro σ2 ⟨r, o', ⟨rfl, rfl⟩, hσ⟩
  obtain rfl := Option.some.inj hσ
  exact rn rfl (fin_is [] rfl ⟨rfl, rfl⟩)

theorem byName_ct (xs : List Pair) (hl : xs.length ≤ 12) : ACalls pk 56 [.one (.fs (xs.map eP))] [] (fun r o => r = .one (.os 0 0 xs.length xs.length) ∧ o = [ownP (isortL ltN xs)]) := by
  refine acalls_of_body Try.func56 rfl (by kernel_rfl) rfl ?_
  refine rn rfl ?_
  refine goal_step (step_call [] rfl rfl rfl rfl rfl rfl (clonPair_ct xs (by omega))) ?_
  rintro σ2 ⟨r, o', ⟨rfl, rfl⟩, hσ⟩
  obtain rfl := Option.some.inj hσ
  refine rn rfl ?_
  refine goal_step (step_call [0] rfl rfl rfl rfl rfl rfl (sortFuncSmall_ct ltN (fun p q => cmpS p.name q.name) _ (fun p q => cmpS_lt _ _) byNameC_ct xs xs.length hl)) ?_
  rintro σ2 ⟨r, o', ⟨rfl, rfl⟩, hσ⟩
  obtain rfl := Option.some.inj hσ
  exact rn rfl (fin_is [0] rfl ⟨rfl, rfl⟩)

/-! ### whole flats -/
def zF : Flat := ⟨[], []⟩
theorem isortFlat_ct (f : Flat) (h1 : f.places.length ≤ 2097152) (h2 : f.named.length ≤ 2097152) (hn : ∀ p ∈ f.named, p.name.length ≤ 9223372036854775807) :
    ACalls pk 22 [.agg (eF f)] [] (fun r o => r = rF (if okFlat f then ⟨f.places, isortL ltN f.named⟩ else zF) ∧ o = oF (if okFlat f then ⟨f.places, isortL ltN f.named⟩ else zF)) := by
  refine acalls_of_body Try.func22 rfl (by kernel_rfl) rfl ?_
  refine rn rfl ?_
  refine goal_step (step_call [] rfl rfl rfl rfl rfl rfl (ivalidFlat_ct f h1 h2 hn)) ?_
  rintro σ2 ⟨r, o', ⟨rfl, rfl⟩, hσ⟩
  obtain rfl := Option.some.inj hσ
  refine rn rfl ?_
  refine goal_cond rfl (fun h => ?_) (fun h => ?_) <;> simp only [Bool.not_eq_true', Bool.not_eq_false'] at h
  · refine rn rfl ?_
    refine fin_weak (Weak.adoptO 1 0 1) (fin_weak (Weak.adoptO 1 1 2) (fin_is [2, 3] rfl ⟨?_, ?_⟩))
    · simp [h]; rfl
    · simp [h]; rfl
  · have hle : f.named.length ≤ 8 := by simp [okFlat] at h; omega
    have hi := isortL_length ltN f.named
    simp only [h, if_true]
    refine rn rfl ?_
    refine goal_draw' [0] 8 rfl ?_
    refine drn [0, 1, 3, 4] (by kernel_rfl) (by kernel_rfl) rfl rfl ?_
    refine AH_one (i := 2) (by kernel_rfl) (step_call [] rfl rfl rfl rfl rfl rfl (clonInt_ct f.places h1)) (by simp) ?_
    rintro σ2 ⟨r, o', ⟨rfl, rfl⟩, hσ⟩
    obtain rfl := Option.some.inj hσ
    refine AH_one (i := 5) (by kernel_rfl) (step_call [] rfl rfl rfl rfl rfl rfl (byName_ct f.named (by omega))) (by simp) ?_
    rintro σ2 ⟨r, o', ⟨rfl, rfl⟩, hσ⟩
    obtain rfl := Option.some.inj hσ
    refine drn [6] (by kernel_rfl) (by kernel_rfl) rfl rfl ?_
    refine AH_oneDid 7 rfl (by kernel_rfl) rfl (dA_step rfl) (mdOk rfl) ?_
    refine AH_end (by kernel_rfl) ?_
    exact rn rfl (fin_is [2, 3] rfl ⟨by simp only [rF, hi]; done, rfl⟩)
end Go.Proofs.Ytkjbjgndinjdpaa
