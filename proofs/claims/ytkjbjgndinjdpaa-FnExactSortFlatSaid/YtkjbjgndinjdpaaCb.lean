/- Helpers of the laws: copies and comparisons. -/
import Derived.Test.YtkjbjgndinjdpaaCa
set_option linter.unusedVariables false
set_option linter.unusedSimpArgs false
namespace Go.Proofs.Ytkjbjgndinjdpaa
open Go
set_option maxRecDepth 100000

theorem toPair_ct (p : Pair) : ACalls pk 106 [.agg (eP p)] [] (fun r o => r = .agg (eP p) ∧ o = []) := by
  refine acalls_of_body Try.func106 rfl (by kernel_rfl) rfl ?_
  exact rn rfl (fin_is [] rfl ⟨rfl, rfl⟩)

def zP : Pair := ⟨[], 0⟩

theorem toPairS_ct (xs : List Pair) (hl : xs.length ≤ 2097152) :
    ACalls pk 61 [.one (.fs (xs.map eP))] [] (fun r o => r = .one (.os 0 0 xs.length xs.length) ∧ o = [ownP xs]) := by
  refine acalls_of_body Try.func61 rfl (by kernel_rfl) rfl ?_
  refine rn rfl ?_
  refine goal_did rfl rfl (dA_make xs.length ((List.replicate xs.length zP).map eP) rfl rfl rfl (by simp) (by simp) rfl rfl rfl rfl rfl (by show 24 * xs.length ≤ _; omega) (by omega) (by rw [← rep_map]; rfl)) ?_
  refine rn rfl ?_
  refine goal_loop_keep (fun m σ => ∃ (n : Int) (i L : Nat) (ys : List Pair), n = i ∧ L = xs.length ∧ i ≤ xs.length ∧ m = xs.length - i ∧ ys.length = xs.length ∧ ys.take i = xs.take i ∧
      σ = ⟨[(4, .one (.int .i64 n)), (3, .one (.os 0 0 L L)), (0, .one (.fs (xs.map eP)))], [ownP ys], []⟩) xs.length [4, 3, 0] [0] rfl
    ⟨_, 0, _, _, rfl, ?_, by omega, by omega, len_rep _ _, rfl, rfl⟩ ?_
  · simp
  rintro m σ ⟨n, i, L, ys, rfl, rfl, hi, rfl, hys, hpre, rfl⟩
  refine rn rfl ?_
  refine goal_cond rfl (fun h => ?_) (fun h => ?_) <;> simp only [decide_eq_true_eq, decide_eq_false_iff_not, List.length_map] at h
  · have hlt : i < xs.length := by omega
    obtain ⟨x, hx⟩ := at_some hlt
    obtain ⟨y, hy⟩ := at_some (xs := ys) (i := i) (by omega)
    refine rn rfl ?_
    refine goal_did rfl rfl (dA_index (eP x) rfl rfl rfl rfl rfl rfl rfl (by omega) (by simp; omega) (map_at (by simpa using hx)) rfl) ?_
    refine rn rfl ?_
    refine goal_step (step_call [] rfl rfl rfl rfl rfl rfl (toPair_ct x)) ?_
    rintro σ2 ⟨r, o', ⟨rfl, rfl⟩, hσ⟩
    obtain rfl := Option.some.inj hσ
    refine goal_did rfl rfl (dA_indexOwn rfl rfl rfl rfl rfl rfl rfl rfl rfl (by omega) (by omega)) ?_
    refine goal_did rfl rfl (dA_storeEl (eP y) ((ys.set i x).map eP) true rfl rfl rfl rfl rfl (map_at (by simpa using hy)) rfl rfl (by simp [eP]) (by rw [map_set]; simp [patch, eP]) (fun _ => noOwnR_map _ eP_noOwn _)) ?_
    refine rn rfl ?_
    refine round_keep (xs.length - (i + 1)) [4, 3, 0] [0] (by omega) rfl ⟨_, i + 1, xs.length, ys.set i x, ?_, rfl, by omega, rfl, by simp [hys], take_set_step xs ys i x hx hys hpre, rfl⟩
    exact wrap64 (by omega) (by omega)
  · refine rn rfl ?_
    refine round_ext ?_
    refine rn rfl (fin_is [0] rfl ⟨rfl, ?_⟩)
    rw [show i = xs.length by omega, List.take_length, ← hys, List.take_length] at hpre
    rw [hpre]; rfl

/-- A flat of own slices: objects 0 and 1. -/
def rF (f : Flat) : T := .agg [.os 0 0 f.places.length f.places.length, .os 1 0 f.named.length f.named.length]
def oF (f : Flat) : List (Option AObj) := [ownI f.places, ownP f.named]

theorem toFlat_ct (f : Flat) (h1 : f.places.length ≤ 2097152) (h2 : f.named.length ≤ 2097152) :
    ACalls pk 21 [.agg (eF f)] [] (fun r o => r = rF f ∧ o = oF f) := by
  refine acalls_of_body Try.func21 rfl (by kernel_rfl) rfl ?_
  refine rn rfl ?_
  refine goal_step (step_call [] rfl rfl rfl rfl rfl rfl (toIntS_ct f.places h1)) ?_
  rintro σ2 ⟨r, o', ⟨rfl, rfl⟩, hσ⟩
  obtain rfl := Option.some.inj hσ
  refine rn rfl ?_
  refine goal_step (step_call [] rfl rfl rfl rfl rfl rfl (toPairS_ct f.named h2)) ?_
  rintro σ2 ⟨r, o', ⟨rfl, rfl⟩, hσ⟩
  obtain rfl := Option.some.inj hσ
  exact rn rfl (fin_is [3, 4] rfl ⟨rfl, rfl⟩)
end Go.Proofs.Ytkjbjgndinjdpaa
