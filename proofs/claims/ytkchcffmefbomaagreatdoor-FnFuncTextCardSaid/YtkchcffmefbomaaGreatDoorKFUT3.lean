/- Part 3 of the proof: an abstract machine over the model; contracts of the functions that the law reaches. -/
import Derived.Test.YtkchcffmefbomaaGreatDoorKFUT2
set_option linter.unusedVariables false
set_option linter.unusedSimpArgs false
namespace Go.Proofs.YtkchcffmefbomaaGreatDoor
open Go
set_option maxRecDepth 100000
set_option maxHeartbeats 1000000

def okQ (p : Param) : Bool := okName p.name && inR p.kind 0 4 && okVal p.dflt && (p.hasD || p.dflt == 0) && (singleQ p || !p.hasD)

def nextQ (l p : Param) : Bool := decide (l.kind ≤ p.kind) && (p.kind != l.kind || singleQ p) && (!placedQ p || !l.hasD || p.hasD)

def stepQ (pre : Sig) (p : Param) : Bool := okQ p && !pre.any (qIs p.name) && (match pre.getLast? with
  | none => true
  | some l => nextQ l p)

def okQs : Sig → Sig → Bool
  | _, [] => true
  | pre, p :: r => stepQ pre p && okQs (pre ++ [p]) r

def okSig (s : Sig) : Bool := okQs [] s && decide (s.length ≤ 8)

theorem take_snoc {α : Type} {xs : List α} {i : Nat} {x : α} (h : xs[i]? = some x) : xs.take i ++ [x] = xs.take (i + 1) := by
  rw [List.take_add_one, h]; rfl

theorem okQs_at {s : Sig} {i : Nat} {p : Param} (h : okQs [] s = okQs (s.take i) (s.drop i)) (hp : s[i]? = some p) : okQs [] s = (stepQ (s.take i) p && okQs (s.take (i + 1)) (s.drop (i + 1))) := by
  rw [h, drop_at hp, okQs, take_snoc hp]

theorem okSig_stop {s : Sig} {i : Nat} {p : Param} (h : okQs [] s = okQs (s.take i) (s.drop i)) (hp : s[i]? = some p) (hf : stepQ (s.take i) p = false) : okSig s = false := by
  rw [okSig, okQs_at h hp, hf]; rfl

theorem okQs_go {s : Sig} {i : Nat} {p : Param} (h : okQs [] s = okQs (s.take i) (s.drop i)) (hp : s[i]? = some p) (hf : stepQ (s.take i) p = true) : okQs [] s = okQs (s.take (i + 1)) (s.drop (i + 1)) := by
  rw [okQs_at h hp, hf]; rfl

theorem last_take {α : Type} {xs : List α} {i : Nat} {x : α} (h : xs[i]? = some x) : (xs.take (i + 1)).getLast? = some x := by
  rw [← take_snoc h]; simp

theorem ivalidSig_ct (s : Sig) (hb : s.length ≤ 9223372036854775807) (hn : ∀ p ∈ s, p.name.length ≤ 9223372036854775807) :
    ACalls pk 15 [.agg (eG s)] [] (fun r o => r = .one (.bool (okSig s)) ∧ o = []) := by
  refine acalls_of_body Tryz.func15 rfl (by kernel_rfl) rfl ?_
  refine rn rfl ?_
  refine goal_loop_keep (fun m σ => ∃ (n L : Int) (i : Nat) (ob : Bool), n = i ∧ L = s.length ∧ i ≤ s.length ∧ m = s.length - i ∧ okQs [] s = okQs (s.take i) (s.drop i) ∧
      (∀ l, (s.take i).getLast? = some l → okQ l = true ∧ (placedQ l = true → ob = l.hasD)) ∧ (i = 0 → ob = false) ∧
      σ = ⟨[(10, .one (.int .i64 n)), (9, .one (.int .i64 L)), (8, .one (.fs (s.map eQ))), (3, .one (.bool ob)), (1, .one (.op 0 0 0))], [some ⟨1, [eG s], false, false, true⟩], []⟩) s.length [10, 9, 8, 3, 1] [0] rfl
    ⟨_, _, 0, _, rfl, by simp, by omega, by omega, by simp, by simp, fun _ => rfl, rfl⟩ ?_
  rintro m σ ⟨n, L, i, ob, rfl, rfl, hi, rfl, hok, hlast, hzero, rfl⟩
  refine rn rfl ?_
  refine goal_cond rfl (fun h => ?_) (fun h => ?_) <;> (try simp only [gt_iff_lt, ge_iff_le, bne_iff_ne, ne_eq, bne_eq_false_iff_eq, beq_iff_eq, beq_eq_false_iff_ne, Bool.not_eq_true', Bool.not_eq_false', decide_eq_true_eq, decide_eq_false_iff_not, List.length_map] at h)
  · obtain ⟨p, hp⟩ := at_some (xs := s) (i := i) (by omega)
    have hstop := okSig_stop hok hp
    have hgo := okQs_go hok hp
    have hpn := hn p (List.mem_of_getElem? hp)
    refine rn rfl ?_
    refine goal_did rfl rfl (dA_index (eQ p) rfl rfl rfl rfl rfl rfl rfl (by omega) (by (try simp); omega) (map_at (by simpa using hp)) rfl) ?_
    refine rt 5 rfl ?_
    refine goal_cutR (fun σ => okQ p = true ∧ σ = ⟨[(10, .one (.int .i64 i)), (9, .one (.int .i64 s.length)), (8, .one (.fs (s.map eQ))), (5, .one (.op 1 0 0)), (4, .one (.int .i64 i)), (3, .one (.bool ob)), (1, .one (.op 0 0 0))],
      [some ⟨1, [eG s], false, false, true⟩, some ⟨4, [eQ p], false, false, true⟩], []⟩) ?_ ?_
    · refine rn rfl ?_
      refine goal_step (step_call [] rfl rfl rfl rfl rfl rfl (isName_ct p.name hpn)) ?_
      rintro σ2 ⟨r, o', ⟨rfl, rfl⟩, hσ⟩
      obtain rfl := Option.some.inj hσ
      clear hσ
      refine rn rfl ?_
      refine goal_guard rfl rfl rfl (fun h1 => ?_) (fun h1 => ?_) <;> (try simp only [gt_iff_lt, ge_iff_le, bne_iff_ne, ne_eq, bne_eq_false_iff_eq, beq_iff_eq, beq_eq_false_iff_ne, Bool.not_eq_true', Bool.not_eq_false', decide_eq_true_eq, decide_eq_false_iff_not, List.length_map] at h1)
      · refine rn rfl ?_
        refine cut_ret ?_
        refine round_ret ?_
        refine fin_is [] rfl ⟨?_, rfl⟩
        rw [hstop (by simp [stepQ, okQ, h1])]
      refine rn rfl ?_
      refine goal_step (step_call [] rfl rfl rfl rfl rfl rfl (iin_ct p.kind 0 4)) ?_
      rintro σ2 ⟨r, o', ⟨rfl, rfl⟩, hσ⟩
      obtain rfl := Option.some.inj hσ
      clear hσ
      refine rn rfl ?_
      refine goal_guard rfl rfl rfl (fun h2 => ?_) (fun h2 => ?_) <;> (try simp only [gt_iff_lt, ge_iff_le, bne_iff_ne, ne_eq, bne_eq_false_iff_eq, beq_iff_eq, beq_eq_false_iff_ne, Bool.not_eq_true', Bool.not_eq_false', decide_eq_true_eq, decide_eq_false_iff_not, List.length_map] at h2)
      · refine rn rfl ?_
        refine cut_ret ?_
        refine round_ret ?_
        refine fin_is [] rfl ⟨?_, rfl⟩
        rw [hstop (by simp [stepQ, okQ, h2])]
      refine rn rfl ?_
      refine goal_step (step_call [] rfl rfl rfl rfl rfl rfl (isValue_ct p.dflt)) ?_
      rintro σ2 ⟨r, o', ⟨rfl, rfl⟩, hσ⟩
      obtain rfl := Option.some.inj hσ
      clear hσ
      refine rn rfl ?_
      refine goal_guard rfl rfl rfl (fun h3 => ?_) (fun h3 => ?_) <;> (try simp only [gt_iff_lt, ge_iff_le, bne_iff_ne, ne_eq, bne_eq_false_iff_eq, beq_iff_eq, beq_eq_false_iff_ne, Bool.not_eq_true', Bool.not_eq_false', decide_eq_true_eq, decide_eq_false_iff_not, List.length_map] at h3)
      · refine rn rfl ?_
        refine cut_ret ?_
        refine round_ret ?_
        refine fin_is [] rfl ⟨?_, rfl⟩
        rw [hstop (by simp [stepQ, okQ, h3])]
      refine rn rfl ?_
      refine goal_guard rfl rfl rfl (fun h4 => ?_) (fun h4 => ?_) <;> (try simp only [gt_iff_lt, ge_iff_le, bne_iff_ne, ne_eq, bne_eq_false_iff_eq, beq_iff_eq, beq_eq_false_iff_ne, Bool.not_eq_true', Bool.not_eq_false', decide_eq_true_eq, decide_eq_false_iff_not, List.length_map] at h4)
      · refine rn rfl ?_
        refine goal_guard rfl rfl rfl (fun h5 => ?_) (fun h5 => ?_) <;> (try simp only [gt_iff_lt, ge_iff_le, bne_iff_ne, ne_eq, bne_eq_false_iff_eq, beq_iff_eq, beq_eq_false_iff_ne, Bool.not_eq_true', Bool.not_eq_false', decide_eq_true_eq, decide_eq_false_iff_not, List.length_map] at h5)
        · refine rn rfl ?_
          refine cut_ret ?_
          refine round_ret ?_
          refine fin_is [] rfl ⟨?_, rfl⟩
          rw [hstop (by simp [stepQ, okQ, h4, h5])]
        · refine rn rfl ?_
          refine goal_guard rfl rfl rfl (fun h6 => by rw [h4] at h6; cases h6) (fun h6 => ?_)
          refine rn rfl ?_
          exact cut_nrm [10, 9, 8, 5, 4, 3, 1] [0, 1] rfl ⟨by rw [h5] at h3; simp [okQ, h1, h2, h3, h4, h5], rfl⟩
      · refine rn rfl ?_
        refine goal_guard rfl rfl rfl (fun h6 => ?_) (fun h6 => by rw [h4] at h6; cases h6)
        refine rn rfl ?_
        refine goal_step (step_call [] rfl rfl rfl rfl rfl rfl (isingle_ct p)) ?_
        rintro σ2 ⟨r, o', ⟨rfl, rfl⟩, hσ⟩
        obtain rfl := Option.some.inj hσ
        clear hσ
        refine rn rfl ?_
        refine goal_cond rfl (fun h7 => ?_) (fun h7 => ?_) <;> (try simp only [gt_iff_lt, ge_iff_le, bne_iff_ne, ne_eq, bne_eq_false_iff_eq, beq_iff_eq, beq_eq_false_iff_ne, Bool.not_eq_true', Bool.not_eq_false', decide_eq_true_eq, decide_eq_false_iff_not, List.length_map] at h7)
        · refine rn rfl ?_
          refine cut_ret ?_
          refine round_ret ?_
          refine fin_is [] rfl ⟨?_, rfl⟩
          rw [hstop (by simp [stepQ, okQ, h4, h7])]
        · refine rn rfl ?_
          exact cut_nrm [10, 9, 8, 5, 4, 3, 1] [0, 1] rfl ⟨by simp [okQ, h1, h2, h3, h4, h7], rfl⟩
    rintro _ ⟨hokq, rfl⟩
    refine rt 7 rfl ?_
    refine goal_cutR (fun σ => ∃ ob' : Bool, (placedQ p = true → ob = true → p.hasD = true) ∧ (placedQ p = true → ob' = p.hasD) ∧ (placedQ p = false → ob' = ob) ∧ σ = ⟨[(10, .one (.int .i64 i)), (9, .one (.int .i64 s.length)), (8, .one (.fs (s.map eQ))), (5, .one (.op 1 0 0)), (4, .one (.int .i64 i)), (3, .one (.bool ob')), (1, .one (.op 0 0 0))],
      [some ⟨1, [eG s], false, false, true⟩, some ⟨4, [eQ p], false, false, true⟩], []⟩) ?_ ?_
    · refine rn rfl ?_
      refine goal_step (step_call [] rfl rfl rfl rfl rfl rfl (iplaced_ct p)) ?_
      rintro σ2 ⟨r, o', ⟨rfl, rfl⟩, hσ⟩
      obtain rfl := Option.some.inj hσ
      clear hσ
      refine rn rfl ?_
      refine goal_cond rfl (fun h1 => ?_) (fun h1 => ?_) <;> (try simp only [gt_iff_lt, ge_iff_le, bne_iff_ne, ne_eq, bne_eq_false_iff_eq, beq_iff_eq, beq_eq_false_iff_ne, Bool.not_eq_true', Bool.not_eq_false', decide_eq_true_eq, decide_eq_false_iff_not, List.length_map] at h1)
      · refine rn rfl ?_
        refine goal_guard rfl rfl rfl (fun h2 => ?_) (fun h2 => ?_) <;> (try simp only [gt_iff_lt, ge_iff_le, bne_iff_ne, ne_eq, bne_eq_false_iff_eq, beq_iff_eq, beq_eq_false_iff_ne, Bool.not_eq_true', Bool.not_eq_false', decide_eq_true_eq, decide_eq_false_iff_not, List.length_map] at h2)
        · refine rn rfl ?_
          refine goal_cond rfl (fun h3 => ?_) (fun h3 => ?_) <;> (try simp only [gt_iff_lt, ge_iff_le, bne_iff_ne, ne_eq, bne_eq_false_iff_eq, beq_iff_eq, beq_eq_false_iff_ne, Bool.not_eq_true', Bool.not_eq_false', decide_eq_true_eq, decide_eq_false_iff_not, List.length_map] at h3)
          · refine rn rfl ?_
            refine cut_ret ?_
            refine round_ret ?_
            refine fin_is [] rfl ⟨?_, rfl⟩
            have hpre : i ≠ 0 := fun h0 => by rw [hzero h0] at h2; cases h2
            obtain ⟨l, hl⟩ := at_some (xs := s) (i := i - 1) (by omega)
            have hl' := last_take hl
            rw [show i - 1 + 1 = i by omega] at hl'
            obtain ⟨hlq, hlp⟩ := hlast l hl'
            rw [hstop ?_]
            have hk : nextQ l p = false := by
              cases hpl : placedQ l with
              | true => simp [nextQ, h1, h3, ← hlp hpl, h2]
              | false =>
                simp only [okQ, inR, Bool.and_eq_true, decide_eq_true_eq] at hlq
                simp only [placedQ, Bool.or_eq_true, Bool.or_eq_false_iff, beq_iff_eq, beq_eq_false_iff_ne] at hpl h1
                simp only [nextQ, Bool.and_eq_false_iff, decide_eq_false_iff_not]
                exact .inl (.inl (by omega))
            simp [stepQ, hl', hk]
          · refine rn rfl ?_
            refine cut_nrm [10, 9, 8, 5, 4, 3, 1] [0, 1] rfl ⟨_, ?_, ?_, ?_, rfl⟩ <;> simp [h1, h2, h3]
        · refine rn rfl ?_
          refine cut_nrm [10, 9, 8, 5, 4, 3, 1] [0, 1] rfl ⟨_, ?_, ?_, ?_, rfl⟩ <;> simp [h1, h2]
      · refine rn rfl ?_
        refine cut_nrm [10, 9, 8, 5, 4, 3, 1] [0, 1] rfl ⟨_, ?_, ?_, ?_, rfl⟩ <;> simp [h1]
    rintro _ ⟨ob', hd1, hd2, hd3, rfl⟩
    refine rt 11 rfl ?_
    refine goal_cutR (fun σ => (∀ l, (s.take i).getLast? = some l → l.kind ≤ p.kind ∧ (p.kind = l.kind → singleQ p = true)) ∧ σ = ⟨[(10, .one (.int .i64 i)), (9, .one (.int .i64 s.length)), (8, .one (.fs (s.map eQ))), (5, .one (.op 1 0 0)), (4, .one (.int .i64 i)), (3, .one (.bool ob')), (1, .one (.op 0 0 0))],
      [some ⟨1, [eG s], false, false, true⟩, some ⟨4, [eQ p], false, false, true⟩], []⟩) ?_ ?_
    · refine rn rfl ?_
      refine goal_cond rfl (fun h1 => ?_) (fun h1 => ?_) <;> (try simp only [gt_iff_lt, ge_iff_le, bne_iff_ne, ne_eq, bne_eq_false_iff_eq, beq_iff_eq, beq_eq_false_iff_ne, Bool.not_eq_true', Bool.not_eq_false', decide_eq_true_eq, decide_eq_false_iff_not, List.length_map] at h1)
      · obtain ⟨l, hl⟩ := at_some (xs := s) (i := i - 1) (by omega)
        have hl' := last_take hl
        rw [show i - 1 + 1 = i by omega] at hl'
        have hw : IntKind.i64.wrap ((i : Int) - 1) = ((i - 1 : Nat) : Int) := by rw [wrap64] <;> omega
        refine rn rfl ?_
        refine goal_did rfl rfl (dA_index (eQ l) rfl rfl rfl rfl rfl rfl rfl (by rw [hw]; omega) (by rw [hw]; simp; omega) (map_at (by rw [hw]; simpa using hl)) rfl) ?_
        refine rn rfl ?_
        refine goal_guard rfl rfl rfl (fun h2 => ?_) (fun h2 => ?_) <;> (try simp only [gt_iff_lt, ge_iff_le, bne_iff_ne, ne_eq, bne_eq_false_iff_eq, beq_iff_eq, beq_eq_false_iff_ne, Bool.not_eq_true', Bool.not_eq_false', decide_eq_true_eq, decide_eq_false_iff_not, List.length_map] at h2)
        · refine rn rfl ?_
          refine cut_ret ?_
          refine round_ret ?_
          refine fin_is [] rfl ⟨?_, rfl⟩
          rw [hstop (by simp [stepQ, hl', nextQ, show ¬ l.kind ≤ p.kind by omega])]
        · refine rn rfl ?_
          refine goal_guard rfl rfl rfl (fun h3 => ?_) (fun h3 => ?_) <;> (try simp only [gt_iff_lt, ge_iff_le, bne_iff_ne, ne_eq, bne_eq_false_iff_eq, beq_iff_eq, beq_eq_false_iff_ne, Bool.not_eq_true', Bool.not_eq_false', decide_eq_true_eq, decide_eq_false_iff_not, List.length_map] at h3)
          · refine rn rfl ?_
            refine goal_step (step_call [] rfl rfl rfl rfl rfl rfl (isingle_ct p)) ?_
            rintro σ2 ⟨r, o', ⟨rfl, rfl⟩, hσ⟩
            obtain rfl := Option.some.inj hσ
            clear hσ
            refine rn rfl ?_
            refine goal_cond rfl (fun h4 => ?_) (fun h4 => ?_) <;> (try simp only [gt_iff_lt, ge_iff_le, bne_iff_ne, ne_eq, bne_eq_false_iff_eq, beq_iff_eq, beq_eq_false_iff_ne, Bool.not_eq_true', Bool.not_eq_false', decide_eq_true_eq, decide_eq_false_iff_not, List.length_map] at h4)
            · refine rn rfl ?_
              refine cut_ret ?_
              refine round_ret ?_
              refine fin_is [] rfl ⟨?_, rfl⟩
              rw [hstop (by simp [stepQ, hl', nextQ, h3, h4])]
            · refine rn rfl ?_
              refine cut_nrm [10, 9, 8, 5, 4, 3, 1] [0, 1] rfl ⟨?_, rfl⟩
              intro l2 h0; rw [hl'] at h0; cases h0; exact ⟨by omega, fun _ => h4⟩
          · refine rn rfl ?_
            refine cut_nrm [10, 9, 8, 5, 4, 3, 1] [0, 1] rfl ⟨?_, rfl⟩
            intro l2 h0; rw [hl'] at h0; cases h0; exact ⟨by omega, fun h0 => absurd h0 h3⟩
      · refine rn rfl ?_
        refine cut_nrm [10, 9, 8, 5, 4, 3, 1] [0, 1] rfl ⟨?_, rfl⟩
        intro l2 h0; rw [show i = 0 by omega] at h0; simp at h0
    rintro _ ⟨hkind, rfl⟩
    refine rn rfl ?_
    refine goal_draw' [0, 1] 8 rfl ?_
    refine drn [0, 1, 2, 4, 5] (by kernel_rfl) (by kernel_rfl) rfl rfl ?_
    refine AH_did 3 rfl (by kernel_rfl) (by kernel_rfl) (by kernel_rfl) rfl rfl (dA_slice 0 i ((s.take i).map eQ) rfl rfl rfl rfl rfl Bnd.none_ (Bnd.some_ rfl rfl) (rows_len eQ_len _) (by omega) (by simp; omega) rfl (by simp)) ?_
    refine AH_one (i := 6) (by kernel_rfl) (step_call [] rfl rfl rfl rfl rfl rfl (find_ct (s.take i) p.name (by simp; omega))) (by simp) ?_
    rintro σ2 ⟨r, o', ⟨rfl, rfl⟩, hσ⟩
    obtain rfl := Option.some.inj hσ
    clear hσ
    refine drn [7] (by kernel_rfl) (by kernel_rfl) rfl rfl ?_
    refine AH_end (by kernel_rfl) ?_
    refine rn rfl ?_
    refine goal_cond rfl (fun h5 => ?_) (fun h5 => ?_) <;> (try simp only [gt_iff_lt, ge_iff_le, bne_iff_ne, ne_eq, bne_eq_false_iff_eq, beq_iff_eq, beq_eq_false_iff_ne, Bool.not_eq_true', Bool.not_eq_false', decide_eq_true_eq, decide_eq_false_iff_not, List.length_map, idxI_ge] at h5)
    · refine rn rfl ?_
      refine round_ret ?_
      refine fin_is [] rfl ⟨?_, rfl⟩
      rw [hstop (by simp [stepQ, h5])]
    · refine rn rfl ?_
      have hnx : stepQ (s.take i) p = true := by
        have hne : (s.take i).any (qIs p.name) = false := by
          cases hb : (s.take i).any (qIs p.name) with
          | false => rfl
          | true => exact absurd hb h5
        simp only [stepQ, hokq, hne, Bool.true_and, Bool.not_false]
        split
        · rfl
        · rename_i l hl
          obtain ⟨hk1, hk2⟩ := hkind l hl
          obtain ⟨hlq, hlp⟩ := hlast l hl
          simp only [nextQ, Bool.and_eq_true, decide_eq_true_eq, Bool.or_eq_true, bne_iff_ne, ne_eq, Bool.not_eq_true']
          refine ⟨⟨hk1, ?_⟩, ?_⟩
          · by_cases h0 : p.kind = l.kind
            · exact .inr (hk2 h0)
            · exact .inl h0
          · cases hpp : placedQ p with
            | false => exact .inl (.inl rfl)
            | true =>
              have hpl : placedQ l = true := by
                simp only [okQ, inR, Bool.and_eq_true, decide_eq_true_eq] at hlq
                simp only [placedQ, Bool.or_eq_true, beq_iff_eq] at hpp ⊢
                omega
              cases hld : l.hasD with
              | false => exact .inl (.inr rfl)
              | true => exact .inr (hd1 hpp ((hlp hpl).trans hld))
      refine round_keep (s.length - (i + 1)) [10, 9, 8, 3, 1] [0] (by omega) rfl ⟨_, _, i + 1, ob', wrap64 (by omega) (by omega), rfl, by omega, rfl, hgo hnx, ?_, fun h0 => by omega, rfl⟩
      intro l hl
      rw [last_take hp] at hl
      cases hl
      exact ⟨hokq, hd2⟩
  · refine rn rfl ?_
    refine round_ext ?_
    refine rn rfl (fin_is [] rfl ⟨?_, rfl⟩)
    rw [show i = s.length by omega, List.take_length, List.drop_length] at hok
    simp only [okSig, hok, okQs, List.length_map, Bool.true_and]
    congr 2
    rw [decide_eq_decide]
    omega

theorem svalidParam_ct (p : Param) (hpn : p.name.length ≤ 9223372036854775807) : ACalls pk 86 [.agg (eQ p)] [] (fun r o => r = .one (.bool (okQ p)) ∧ o = []) := by
  refine acalls_of_body Tryz.func86 rfl (by kernel_rfl) rfl ?_
  refine rn rfl ?_
  refine goal_step (step_call [] rfl rfl rfl rfl rfl rfl (validName_ct p.name hpn)) ?_
  rintro σ2 ⟨r, o', ⟨rfl, rfl⟩, hσ⟩
  obtain rfl := Option.some.inj hσ
  clear hσ
  refine rn rfl ?_
  refine goal_guard rfl rfl rfl (fun h1 => ?_) (fun h1 => ?_) <;> (try simp only [gt_iff_lt, ge_iff_le, bne_iff_ne, ne_eq, bne_eq_false_iff_eq, beq_iff_eq, beq_eq_false_iff_ne, Bool.not_eq_true', Bool.not_eq_false', decide_eq_true_eq, decide_eq_false_iff_not, List.length_map] at h1)
  · refine rn rfl ?_
    refine goal_step (step_call [] rfl rfl rfl rfl rfl rfl (sin_ct p.kind 0 4)) ?_
    rintro σ2 ⟨r, o', ⟨rfl, rfl⟩, hσ⟩
    obtain rfl := Option.some.inj hσ
    clear hσ
    refine rn rfl ?_
    refine goal_guard rfl rfl rfl (fun h2 => ?_) (fun h2 => ?_) <;> (try simp only [gt_iff_lt, ge_iff_le, bne_iff_ne, ne_eq, bne_eq_false_iff_eq, beq_iff_eq, beq_eq_false_iff_ne, Bool.not_eq_true', Bool.not_eq_false', decide_eq_true_eq, decide_eq_false_iff_not, List.length_map] at h2)
    · refine rn rfl ?_
      refine goal_step (step_call [] rfl rfl rfl rfl rfl rfl (validNumber_ct p.dflt)) ?_
      rintro σ2 ⟨r, o', ⟨rfl, rfl⟩, hσ⟩
      obtain rfl := Option.some.inj hσ
      clear hσ
      refine rn rfl ?_
      refine goal_guard rfl rfl rfl (fun h3 => ?_) (fun h3 => ?_) <;> (try simp only [gt_iff_lt, ge_iff_le, bne_iff_ne, ne_eq, bne_eq_false_iff_eq, beq_iff_eq, beq_eq_false_iff_ne, Bool.not_eq_true', Bool.not_eq_false', decide_eq_true_eq, decide_eq_false_iff_not, List.length_map] at h3)
      · refine rn rfl ?_
        refine goal_guard rfl rfl rfl (fun h4 => ?_) (fun h4 => ?_) <;> (try simp only [gt_iff_lt, ge_iff_le, bne_iff_ne, ne_eq, bne_eq_false_iff_eq, beq_iff_eq, beq_eq_false_iff_ne, Bool.not_eq_true', Bool.not_eq_false', decide_eq_true_eq, decide_eq_false_iff_not, List.length_map] at h4)
        · refine rn rfl ?_
          refine goal_step (step_call [] rfl rfl rfl rfl rfl rfl (ssingle_ct p)) ?_
          rintro σ2 ⟨r, o', ⟨rfl, rfl⟩, hσ⟩
          obtain rfl := Option.some.inj hσ
          clear hσ
          refine rn rfl ?_
          refine goal_guard rfl rfl rfl (fun h5 => ?_) (fun h5 => ?_) <;> (try simp only [gt_iff_lt, ge_iff_le, bne_iff_ne, ne_eq, bne_eq_false_iff_eq, beq_iff_eq, beq_eq_false_iff_ne, Bool.not_eq_true', Bool.not_eq_false', decide_eq_true_eq, decide_eq_false_iff_not, List.length_map] at h5)
          · refine rn rfl (fin_is [] rfl ⟨?_, rfl⟩)
            simp [okQ, h1, h2, h3, h4, h5]
          · refine rn rfl (fin_is [] rfl ⟨?_, rfl⟩)
            simp [okQ, h1, h2, h3, h4, h5]
        · refine rn rfl ?_
          refine goal_guard rfl rfl rfl (fun h5 => ?_) (fun h5 => ?_) <;> (try simp only [gt_iff_lt, ge_iff_le, bne_iff_ne, ne_eq, bne_eq_false_iff_eq, beq_iff_eq, beq_eq_false_iff_ne, Bool.not_eq_true', Bool.not_eq_false', decide_eq_true_eq, decide_eq_false_iff_not, List.length_map] at h5)
          · refine rn rfl ?_
            refine goal_step (step_call [] rfl rfl rfl rfl rfl rfl (ssingle_ct p)) ?_
            rintro σ2 ⟨r, o', ⟨rfl, rfl⟩, hσ⟩
            obtain rfl := Option.some.inj hσ
            clear hσ
            refine rn rfl ?_
            refine goal_guard rfl rfl rfl (fun h6 => ?_) (fun h6 => ?_) <;> (try simp only [gt_iff_lt, ge_iff_le, bne_iff_ne, ne_eq, bne_eq_false_iff_eq, beq_iff_eq, beq_eq_false_iff_ne, Bool.not_eq_true', Bool.not_eq_false', decide_eq_true_eq, decide_eq_false_iff_not, List.length_map] at h6)
            · refine rn rfl (fin_is [] rfl ⟨?_, rfl⟩)
              rw [h5] at h3
              simp [okQ, h1, h2, h3, h4, h5, h6]
            · refine rn rfl (fin_is [] rfl ⟨?_, rfl⟩)
              rw [h5] at h3
              simp [okQ, h1, h2, h3, h4, h5, h6]
          · refine rn rfl (fin_is [] rfl ⟨?_, rfl⟩)
            simp [okQ, h4, h5]
      · refine rn rfl (fin_is [] rfl ⟨?_, rfl⟩)
        simp [okQ, h3]
    · refine rn rfl (fin_is [] rfl ⟨?_, rfl⟩)
      simp [okQ, h2]
  · refine rn rfl (fin_is [] rfl ⟨?_, rfl⟩)
    simp [okQ, h1]

theorem svalidParams_ct (s : Sig) (hb : s.length ≤ 9223372036854775807) (hn : ∀ p ∈ s, p.name.length ≤ 9223372036854775807) :
    ACalls pk 63 [.one (.fs (s.map eQ))] [] (fun r o => r = .one (.bool (okSig s)) ∧ o = []) := by
  refine acalls_of_body Tryz.func63 rfl (by kernel_rfl) rfl ?_
  refine rn rfl ?_
  refine goal_loop_keep (fun m σ => ∃ (n : Int) (i : Nat), n = i ∧ i ≤ s.length ∧ m = s.length - i ∧ okQs [] s = okQs (s.take i) (s.drop i) ∧
      σ = ⟨[(3, .one (.int .i64 n)), (0, .one (.fs (s.map eQ)))], [], []⟩) s.length [3, 0] [] rfl
    ⟨_, 0, rfl, by omega, by omega, by simp, rfl⟩ ?_
  rintro m σ ⟨n, i, rfl, hi, rfl, hok, rfl⟩
  refine rn rfl ?_
  refine goal_cond rfl (fun h => ?_) (fun h => ?_) <;> (try simp only [gt_iff_lt, ge_iff_le, bne_iff_ne, ne_eq, bne_eq_false_iff_eq, beq_iff_eq, beq_eq_false_iff_ne, Bool.not_eq_true', Bool.not_eq_false', decide_eq_true_eq, decide_eq_false_iff_not, List.length_map] at h)
  · obtain ⟨p, hp⟩ := at_some (xs := s) (i := i) (by omega)
    have hstop := okSig_stop hok hp
    have hgo := okQs_go hok hp
    have hpn := hn p (List.mem_of_getElem? hp)
    have hend : stepQ (s.take i) p = true → okQs [] s = okQs (s.take (i + 1)) (s.drop (i + 1)) := hgo
    refine rn rfl ?_
    refine goal_did rfl rfl (dA_index (eQ p) rfl rfl rfl rfl rfl rfl rfl (by omega) (by (try simp); omega) (map_at (by simpa using hp)) rfl) ?_
    refine rn rfl ?_
    refine goal_draw' [0] 12 rfl ?_
    refine drn [0] (by kernel_rfl) (by kernel_rfl) rfl rfl ?_
    refine AH_one (i := 1) (by kernel_rfl) (step_call [] rfl rfl rfl rfl rfl rfl (svalidParam_ct p hpn)) (by simp) ?_
    rintro σ2 ⟨r, o', ⟨rfl, rfl⟩, hσ⟩
    obtain rfl := Option.some.inj hσ
    clear hσ
    refine drn [2, 3] (by kernel_rfl) (by kernel_rfl) rfl rfl ?_
    refine AH_guard (i := 4) rfl rfl rfl (fun h1 => ?_) (fun h1 => ?_) <;> (try simp only [gt_iff_lt, ge_iff_le, bne_iff_ne, ne_eq, bne_eq_false_iff_eq, beq_iff_eq, beq_eq_false_iff_ne, Bool.not_eq_true', Bool.not_eq_false', decide_eq_true_eq, decide_eq_false_iff_not, List.length_map] at h1)
    · refine drn [4, 5, 6, 7, 8, 9, 10, 11] (by kernel_rfl) (by kernel_rfl) rfl rfl ?_
      refine AH_end (by kernel_rfl) ?_
      refine rn rfl ?_
      refine rn rfl ?_
      refine round_ret ?_
      refine fin_is [] rfl ⟨?_, rfl⟩
      rw [hstop (by simp [stepQ, h1])]
    refine drn [4, 5, 7, 8] (by kernel_rfl) (by kernel_rfl) rfl rfl ?_
    refine AH_did 6 rfl (by kernel_rfl) (by kernel_rfl) (by kernel_rfl) rfl rfl (dA_slice 0 i ((s.take i).map eQ) rfl rfl rfl rfl rfl Bnd.none_ (Bnd.some_ rfl rfl) (rows_len eQ_len _) (by omega) (by simp; omega) rfl (by simp)) ?_
    refine AH_one (i := 9) (by kernel_rfl) (step_call [] rfl rfl rfl rfl rfl rfl (sfind_ct (s.take i) p.name (by simp; omega))) (by simp) ?_
    rintro σ2 ⟨r, o', ⟨rfl, rfl⟩, hσ⟩
    obtain rfl := Option.some.inj hσ
    clear hσ
    refine drn [10, 11] (by kernel_rfl) (by kernel_rfl) rfl rfl ?_
    refine AH_end (by kernel_rfl) ?_
    refine rn rfl ?_
    refine goal_cond rfl (fun h2 => ?_) (fun h2 => ?_) <;> (try simp only [gt_iff_lt, ge_iff_le, bne_iff_ne, ne_eq, bne_eq_false_iff_eq, beq_iff_eq, beq_eq_false_iff_ne, Bool.not_eq_true', Bool.not_eq_false', decide_eq_true_eq, decide_eq_false_iff_not, List.length_map, idxI_ge] at h2)
    · refine rn rfl ?_
      refine round_ret ?_
      refine fin_is [] rfl ⟨?_, rfl⟩
      rw [hstop (by simp [stepQ, h2])]
    refine rn rfl ?_
    refine goal_cond rfl (fun h3 => ?_) (fun h3 => ?_) <;> (try simp only [gt_iff_lt, ge_iff_le, bne_iff_ne, ne_eq, bne_eq_false_iff_eq, beq_iff_eq, beq_eq_false_iff_ne, Bool.not_eq_true', Bool.not_eq_false', decide_eq_true_eq, decide_eq_false_iff_not, List.length_map] at h3)
    · refine rn rfl ?_
      refine round_keep (s.length - (i + 1)) [3, 0] [] (by omega) rfl ⟨_, i + 1, wrap64 (by omega) (by omega), by omega, rfl, hgo ?_, rfl⟩
      rw [show i = 0 by omega] at h2 ⊢
      simp [stepQ, h1]
    obtain ⟨l, hl⟩ := at_some (xs := s) (i := i - 1) (by omega)
    have hl' := last_take hl
    rw [show i - 1 + 1 = i by omega] at hl'
    have hw : IntKind.i64.wrap ((i : Int) - 1) = ((i - 1 : Nat) : Int) := by rw [wrap64] <;> omega
    have hsn : nextQ l p = true → stepQ (s.take i) p = true := fun hx => by simp [stepQ, h1, h2, hl', hx]
    have hsf : nextQ l p = false → stepQ (s.take i) p = false := fun hx => by simp [stepQ, hl', hx]
    refine rn rfl ?_
    refine goal_did rfl rfl (dA_index (eQ l) rfl rfl rfl rfl rfl rfl rfl (by rw [hw]; omega) (by rw [hw]; simp; omega) (map_at (by rw [hw]; simpa using hl)) rfl) ?_
    refine rn rfl ?_
    refine goal_guard rfl rfl rfl (fun h4 => ?_) (fun h4 => ?_) <;> (try simp only [gt_iff_lt, ge_iff_le, bne_iff_ne, ne_eq, bne_eq_false_iff_eq, beq_iff_eq, beq_eq_false_iff_ne, Bool.not_eq_true', Bool.not_eq_false', decide_eq_true_eq, decide_eq_false_iff_not, List.length_map] at h4)
    · refine rn rfl ?_
      refine round_ret ?_
      refine fin_is [] rfl ⟨?_, rfl⟩
      rw [hstop (hsf (by simp [nextQ, show ¬ l.kind ≤ p.kind by omega]))]
    have part2 : (p.kind = l.kind → singleQ p = true) → (placedQ p = true → l.hasD = true → p.hasD = true) → stepQ (s.take i) p = true := fun ha hb => hsn (by
      simp only [nextQ, Bool.and_eq_true, decide_eq_true_eq, Bool.or_eq_true, bne_iff_ne, ne_eq, Bool.not_eq_true']
      refine ⟨⟨by omega, ?_⟩, ?_⟩
      · by_cases h0 : p.kind = l.kind
        · exact .inr (ha h0)
        · exact .inl h0
      · cases h7 : placedQ p with
        | false => exact .inl (.inl rfl)
        | true => cases h8 : l.hasD with
          | false => exact .inl (.inr rfl)
          | true => exact .inr (hb h7 h8))
    refine rn rfl ?_
    refine goal_guard rfl rfl rfl (fun h5 => ?_) (fun h5 => ?_) <;> (try simp only [gt_iff_lt, ge_iff_le, bne_iff_ne, ne_eq, bne_eq_false_iff_eq, beq_iff_eq, beq_eq_false_iff_ne, Bool.not_eq_true', Bool.not_eq_false', decide_eq_true_eq, decide_eq_false_iff_not, List.length_map] at h5)
    · refine rn rfl ?_
      refine goal_step (step_call [] rfl rfl rfl rfl rfl rfl (ssingle_ct p)) ?_
      rintro σ2 ⟨r, o', ⟨rfl, rfl⟩, hσ⟩
      obtain rfl := Option.some.inj hσ
      clear hσ
      refine rn rfl ?_
      refine goal_guard rfl rfl rfl (fun h6 => ?_) (fun h6 => ?_) <;> (try simp only [gt_iff_lt, ge_iff_le, bne_iff_ne, ne_eq, bne_eq_false_iff_eq, beq_iff_eq, beq_eq_false_iff_ne, Bool.not_eq_true', Bool.not_eq_false', decide_eq_true_eq, decide_eq_false_iff_not, List.length_map] at h6)
      · refine rn rfl ?_
        refine round_ret ?_
        refine fin_is [] rfl ⟨?_, rfl⟩
        rw [hstop (hsf (by simp [nextQ, h5, h6]))]
      refine rn rfl ?_
      refine goal_step (step_call [] rfl rfl rfl rfl rfl rfl (splaced_ct p)) ?_
      rintro σ2 ⟨r, o', ⟨rfl, rfl⟩, hσ⟩
      obtain rfl := Option.some.inj hσ
      clear hσ
      refine rn rfl ?_
      refine goal_guard rfl rfl rfl (fun h7 => ?_) (fun h7 => ?_) <;> (try simp only [gt_iff_lt, ge_iff_le, bne_iff_ne, ne_eq, bne_eq_false_iff_eq, beq_iff_eq, beq_eq_false_iff_ne, Bool.not_eq_true', Bool.not_eq_false', decide_eq_true_eq, decide_eq_false_iff_not, List.length_map] at h7)
      · refine rn rfl ?_
        refine goal_guard rfl rfl rfl (fun h8 => ?_) (fun h8 => ?_) <;> (try simp only [gt_iff_lt, ge_iff_le, bne_iff_ne, ne_eq, bne_eq_false_iff_eq, beq_iff_eq, beq_eq_false_iff_ne, Bool.not_eq_true', Bool.not_eq_false', decide_eq_true_eq, decide_eq_false_iff_not, List.length_map] at h8)
        · refine rn rfl ?_
          refine goal_cond rfl (fun h9 => ?_) (fun h9 => ?_) <;> (try simp only [gt_iff_lt, ge_iff_le, bne_iff_ne, ne_eq, bne_eq_false_iff_eq, beq_iff_eq, beq_eq_false_iff_ne, Bool.not_eq_true', Bool.not_eq_false', decide_eq_true_eq, decide_eq_false_iff_not, List.length_map] at h9)
          · refine rn rfl ?_
            refine round_ret ?_
            refine fin_is [] rfl ⟨?_, rfl⟩
            rw [hstop (hsf (by simp [nextQ, h7, h8, h9]))]
          · refine rn rfl ?_
            refine round_keep (s.length - (i + 1)) [3, 0] [] (by omega) rfl ⟨_, i + 1, wrap64 (by omega) (by omega), by omega, rfl, hgo (part2 (fun _ => h6) (fun _ _ => h9)), rfl⟩
        · refine rn rfl ?_
          refine round_keep (s.length - (i + 1)) [3, 0] [] (by omega) rfl ⟨_, i + 1, wrap64 (by omega) (by omega), by omega, rfl, hgo (part2 (fun _ => h6) (fun _ h0 => by rw [h8] at h0; cases h0)), rfl⟩
      · refine rn rfl ?_
        refine round_keep (s.length - (i + 1)) [3, 0] [] (by omega) rfl ⟨_, i + 1, wrap64 (by omega) (by omega), by omega, rfl, hgo (part2 (fun _ => h6) (fun h0 => by rw [h7] at h0; cases h0)), rfl⟩
    · refine rn rfl ?_
      refine goal_step (step_call [] rfl rfl rfl rfl rfl rfl (splaced_ct p)) ?_
      rintro σ2 ⟨r, o', ⟨rfl, rfl⟩, hσ⟩
      obtain rfl := Option.some.inj hσ
      clear hσ
      refine rn rfl ?_
      refine goal_guard rfl rfl rfl (fun h7 => ?_) (fun h7 => ?_) <;> (try simp only [gt_iff_lt, ge_iff_le, bne_iff_ne, ne_eq, bne_eq_false_iff_eq, beq_iff_eq, beq_eq_false_iff_ne, Bool.not_eq_true', Bool.not_eq_false', decide_eq_true_eq, decide_eq_false_iff_not, List.length_map] at h7)
      · refine rn rfl ?_
        refine goal_guard rfl rfl rfl (fun h8 => ?_) (fun h8 => ?_) <;> (try simp only [gt_iff_lt, ge_iff_le, bne_iff_ne, ne_eq, bne_eq_false_iff_eq, beq_iff_eq, beq_eq_false_iff_ne, Bool.not_eq_true', Bool.not_eq_false', decide_eq_true_eq, decide_eq_false_iff_not, List.length_map] at h8)
        · refine rn rfl ?_
          refine goal_cond rfl (fun h9 => ?_) (fun h9 => ?_) <;> (try simp only [gt_iff_lt, ge_iff_le, bne_iff_ne, ne_eq, bne_eq_false_iff_eq, beq_iff_eq, beq_eq_false_iff_ne, Bool.not_eq_true', Bool.not_eq_false', decide_eq_true_eq, decide_eq_false_iff_not, List.length_map] at h9)
          · refine rn rfl ?_
            refine round_ret ?_
            refine fin_is [] rfl ⟨?_, rfl⟩
            rw [hstop (hsf (by simp [nextQ, h7, h8, h9]))]
          · refine rn rfl ?_
            refine round_keep (s.length - (i + 1)) [3, 0] [] (by omega) rfl ⟨_, i + 1, wrap64 (by omega) (by omega), by omega, rfl, hgo (part2 (fun h0 => absurd h0 h5) (fun _ _ => h9)), rfl⟩
        · refine rn rfl ?_
          refine round_keep (s.length - (i + 1)) [3, 0] [] (by omega) rfl ⟨_, i + 1, wrap64 (by omega) (by omega), by omega, rfl, hgo (part2 (fun h0 => absurd h0 h5) (fun _ h0 => by rw [h8] at h0; cases h0)), rfl⟩
      · refine rn rfl ?_
        refine round_keep (s.length - (i + 1)) [3, 0] [] (by omega) rfl ⟨_, i + 1, wrap64 (by omega) (by omega), by omega, rfl, hgo (part2 (fun h0 => absurd h0 h5) (fun h0 => by rw [h7] at h0; cases h0)), rfl⟩
  · refine rn rfl ?_
    refine round_ext ?_
    refine rn rfl (fin_is [] rfl ⟨?_, rfl⟩)
    rw [show i = s.length by omega, List.take_length, List.drop_length] at hok
    simp only [okSig, hok, okQs, List.length_map, Bool.true_and]
    congr 2
    rw [decide_eq_decide]
    omega

theorem svalidSig_ct (s : Sig) (hb : s.length ≤ 9223372036854775807) (hn : ∀ p ∈ s, p.name.length ≤ 9223372036854775807) :
    ACalls pk 39 [.agg (eG s)] [] (fun r o => r = .one (.bool (okSig s)) ∧ o = []) := by
  refine acalls_of_body Tryz.func39 rfl (by kernel_rfl) rfl ?_
  refine rn rfl ?_
  refine goal_step (step_call [] rfl rfl rfl rfl rfl rfl (svalidParams_ct s hb hn)) ?_
  rintro σ2 ⟨r, o', ⟨rfl, rfl⟩, hσ⟩
  obtain rfl := Option.some.inj hσ
  clear hσ
  refine rn rfl ?_
  exact rn rfl (fin_is [] rfl ⟨rfl, rfl⟩)

theorem cloneQ_ct (xs : List Param) (hl : xs.length ≤ 16777216) :
    ACalls pk 77 [.one (.fs (xs.map eQ))] [] (fun r o => r = .one (.os 0 0 xs.length xs.length) ∧ o = [ownQ xs]) := by
  refine acalls_of_body Tryz.func77 rfl (by kernel_rfl) rfl ?_
  refine rn rfl ?_
  refine goal_step (step_eqNil rfl rfl (Src.fs rfl) rfl rfl rfl rfl) ?_
  rintro σ2 ⟨b, hb, rfl⟩
  refine rn rfl ?_
  refine goal_cond rfl (fun h => ?_) (fun h => ?_)
  · have hx : xs = [] := by simpa using hb h
    subst hx
    exact rn rfl (fin_adopt 2 0 4 [0] rfl ⟨rfl, rfl⟩)
  · refine rn rfl ?_
    refine goal_did rfl rfl (dA_append (xs.map eQ) xs.length true (Dst.own rfl rfl rfl rfl rfl (Nat.le_refl 0) rfl) (Src.fs rfl) rfl rfl rfl rfl rfl rfl rfl rfl (by simp) (rows_len eQ_len _) (by simp only [List.length_map, List.take_zero, List.length_nil]; show _ * 40 ≤ _; omega) (by simp; omega) rfl (by simp) (fun _ => noOwnR_map _ eQ_noOwn _)) ?_
    exact rn rfl (fin_is [1] rfl ⟨rfl, rfl⟩)

theorem clipQ_ct (xs : List Param) (kc : Nat) (hk : xs.length ≤ kc) :
    ACalls pk 76 [.one (.os 0 0 xs.length kc)] [ownQ xs] (fun r o => r = .one (.os 0 0 xs.length xs.length) ∧ o = [ownQ xs]) := by
  refine acalls_of_body Tryz.func76 rfl (by kernel_rfl) rfl ?_
  refine rn rfl ?_
  refine goal_did rfl rfl (dA_sliceOwn 0 xs.length xs.length 0 xs.length xs.length rfl rfl rfl rfl rfl rfl rfl Bnd.none_ (Bnd.some_ rfl rfl) (.inr ⟨by simp, by simp, Bnd.some_ rfl rfl⟩) (by omega) (by omega) hk (by simp) rfl rfl rfl rfl) ?_
  exact rn rfl (fin_is [] rfl ⟨rfl, rfl⟩)

theorem clonQ_ct (xs : List Param) (hl : xs.length ≤ 16777216) :
    ACalls pk 49 [.one (.fs (xs.map eQ))] [] (fun r o => r = .one (.os 0 0 xs.length xs.length) ∧ o = [ownQ xs]) := by
  refine acalls_of_body Tryz.func49 rfl (by kernel_rfl) rfl ?_
  refine rn rfl ?_
  refine goal_step (step_call [] rfl rfl rfl rfl rfl rfl (cloneQ_ct xs hl)) ?_
  rintro σ2 ⟨r, o', ⟨rfl, rfl⟩, hσ⟩
  obtain rfl := Option.some.inj hσ
  clear hσ
  refine rn rfl ?_
  refine goal_step (step_call [0] rfl rfl rfl rfl rfl rfl (clipQ_ct xs xs.length (Nat.le_refl _))) ?_
  rintro σ2 ⟨r, o', ⟨rfl, rfl⟩, hσ⟩
  obtain rfl := Option.some.inj hσ
  clear hσ
  refine rn rfl ?_
  exact rn rfl (fin_is [0] rfl ⟨rfl, rfl⟩)

theorem icopySig_ct (s : Sig) (hl : s.length ≤ 16777216) : ACalls pk 28 [.agg (eG s)] [] (fun r o => r = .agg [.os 0 0 s.length s.length] ∧ o = [ownQ s]) := by
  refine acalls_of_body Tryz.func28 rfl (by kernel_rfl) rfl ?_
  refine rn rfl ?_
  refine goal_step (step_call [] rfl rfl rfl rfl rfl rfl (clonQ_ct s hl)) ?_
  rintro σ2 ⟨r, o', ⟨rfl, rfl⟩, hσ⟩
  obtain rfl := Option.some.inj hσ
  clear hσ
  refine rn rfl ?_
  exact rn rfl (fin_is [2] rfl ⟨rfl, rfl⟩)

theorem copyParams_ct (s : Sig) (hl : s.length ≤ 16777216) : ACalls pk 84 [.one (.fs (s.map eQ))] [] (fun r o => r = .one (.os 0 0 s.length s.length) ∧ o = [ownQ s]) := by
  refine acalls_of_body Tryz.func84 rfl (by kernel_rfl) rfl ?_
  refine rn rfl ?_
  refine goal_did rfl rfl (dA_append (old := []) (rows := (s : List Param).map eQ) ((s : List Param).map eQ) (s.length) true (Dst.own rfl rfl rfl rfl rfl (Nat.le_refl 0) rfl) (Src.fs rfl) rfl rfl rfl rfl rfl rfl rfl rfl (by simp) (rows_len eQ_len _) (by (try simp only [List.length_map, List.length_append, List.length_cons, List.length_nil, List.length_take, List.length_drop]); show _ * 40 ≤ _; omega) (by first | (simp; done) | (simp; omega)) (by simp) (by first | (simp; done) | (simp; omega)) (fun _ => noOwnR_map _ eQ_noOwn _)) ?_
  refine rn rfl ?_
  exact rn rfl (fin_is [1] rfl ⟨rfl, rfl⟩)

theorem okQs_all : ∀ (r pre : Sig), okQs pre r = true → ∀ (i : Nat) (p : Param), r[i]? = some p → stepQ (pre ++ r.take i) p = true
  | [], pre, _, i, p, hp => by simp at hp
  | q :: r, pre, h, 0, p, hp => by simp at hp; subst hp; simp only [okQs, Bool.and_eq_true] at h; simpa using h.1
  | q :: r, pre, h, i + 1, p, hp => by
    simp only [okQs, Bool.and_eq_true] at h
    have := okQs_all r (pre ++ [q]) h.2 i p (by simpa using hp)
    simpa using this

theorem okQs_of_all : ∀ (r pre : Sig), (∀ (i : Nat) (p : Param), r[i]? = some p → stepQ (pre ++ r.take i) p = true) → okQs pre r = true
  | [], pre, _ => rfl
  | q :: r, pre, h => by
    simp only [okQs, Bool.and_eq_true]
    refine ⟨by simpa using h 0 q rfl, okQs_of_all r (pre ++ [q]) fun i p hp => ?_⟩
    have := h (i + 1) p (by simpa using hp)
    simpa using this

structure OkS (s : Sig) : Prop where
  params : ∀ p ∈ s, okQ p = true
  nodup : (s.map Param.name).Nodup
  next : ∀ (i : Nat) (l p : Param), s[i]? = some l → s[i + 1]? = some p → nextQ l p = true
  len : s.length ≤ 8

theorem okSig_iff {s : Sig} : okSig s = true ↔ OkS s := by
  simp only [okSig, Bool.and_eq_true, decide_eq_true_eq]
  constructor
  · rintro ⟨h, hl⟩
    have hall := okQs_all s [] h
    simp only [List.nil_append] at hall
    refine ⟨fun p hp => ?_, ?_, fun i l p hl hp => ?_, hl⟩
    · obtain ⟨i, hi⟩ := List.getElem?_of_mem hp
      have := hall i p hi
      simp only [stepQ, Bool.and_eq_true] at this
      exact this.1.1
    · rw [List.nodup_iff_pairwise_ne, List.pairwise_iff_getElem]
      intro i j hi hj hij he
      simp only [List.length_map] at hi hj
      have := hall j s[j] (List.getElem?_eq_getElem hj)
      simp only [stepQ, Bool.and_eq_true, Bool.not_eq_true'] at this
      have h2 := this.1.2
      rw [List.any_eq_false] at h2
      refine h2 s[i] ?_ ?_
      · rw [List.mem_iff_getElem?]; exact ⟨i, by rw [List.getElem?_take, if_pos hij]; exact List.getElem?_eq_getElem hi⟩
      · simpa [qIs] using he
    · have := hall (i + 1) p hp
      simp only [stepQ, last_take hl, Bool.and_eq_true] at this
      exact this.2
  · intro h
    refine ⟨okQs_of_all s [] fun i p hp => ?_, h.len⟩
    simp only [List.nil_append, stepQ, Bool.and_eq_true, Bool.not_eq_true']
    refine ⟨⟨h.params p (List.mem_of_getElem? hp), ?_⟩, ?_⟩
    · rw [List.any_eq_false]
      intro q hq hqn
      obtain ⟨j, hj⟩ := List.getElem?_of_mem hq
      rw [List.getElem?_take] at hj
      split at hj
      · rename_i hji
        have hn := h.nodup
        rw [List.nodup_iff_pairwise_ne, List.pairwise_iff_getElem] at hn
        have hil := lt_of_some hp
        have hjl := lt_of_some hj
        refine hn j i (by simpa using hjl) (by simpa using hil) hji ?_
        rw [List.getElem?_eq_getElem hil] at hp
        rw [List.getElem?_eq_getElem hjl] at hj
        simp only [Option.some.injEq] at hp hj
        simp only [List.getElem_map, hp, hj]
        simpa [qIs] using hqn
      · cases hj
    · split
      · rfl
      · rename_i l hl
        cases i with
        | zero => simp at hl
        | succ i =>
          obtain ⟨l', hl'⟩ := at_some (xs := s) (i := i) (by have := lt_of_some hp; omega)
          rw [last_take hl'] at hl
          cases hl
          exact h.next i _ p hl' hp

theorem nextQ_kind {l p : Param} (h : nextQ l p = true) : l.kind ≤ p.kind ∧ (singleQ p = false → l.kind < p.kind) ∧ (placedQ p = true → l.hasD = true → p.hasD = true) := by
  simp only [nextQ, Bool.and_eq_true, decide_eq_true_eq, Bool.or_eq_true, bne_iff_ne, ne_eq, Bool.not_eq_true'] at h
  refine ⟨h.1.1, fun hs => ?_, fun h1 h2 => ?_⟩
  · rcases h.1.2 with h3 | h3
    · omega
    · rw [hs] at h3; cases h3
  · rcases h.2 with (h3 | h3) | h3
    · rw [h1] at h3; cases h3
    · rw [h2] at h3; cases h3
    · exact h3

theorem OkS.sorted {s : Sig} (h : OkS s) : ∀ (d i : Nat) (l p : Param), s[i]? = some l → s[i + d]? = some p → l.kind ≤ p.kind
  | 0, i, l, p, hl, hp => by rw [Nat.add_zero, hl] at hp; cases hp; exact Int.le_refl _
  | d + 1, i, l, p, hl, hp => by
    obtain ⟨q, hq⟩ := at_some (xs := s) (i := i + d) (by have := lt_of_some hp; omega)
    have h1 := OkS.sorted h d i l q hl hq
    have h2 := (nextQ_kind (h.next (i + d) q p hq hp)).1
    omega

theorem OkS.sortedLt {s : Sig} (h : OkS s) {i j : Nat} {l p : Param} (hij : i < j) (hl : s[i]? = some l) (hp : s[j]? = some p) (hs : singleQ p = false) : l.kind < p.kind := by
  obtain ⟨q, hq⟩ := at_some (xs := s) (i := j - 1) (by have := lt_of_some hp; omega)
  have h1 := h.sorted (j - 1 - i) i l q hl (by rw [show i + (j - 1 - i) = j - 1 by omega]; exact hq)
  have h2 := (nextQ_kind (h.next (j - 1) q p hq (by rw [show j - 1 + 1 = j by omega]; exact hp))).2.1 hs
  omega

theorem OkS.kindRange {s : Sig} (h : OkS s) {p : Param} (hp : p ∈ s) : 0 ≤ p.kind ∧ p.kind ≤ 4 := by
  have := h.params p hp
  simp only [okQ, inR, Bool.and_eq_true, decide_eq_true_eq] at this
  exact this.1.1.1.2

theorem OkS.nameLen {s : Sig} (h : OkS s) {p : Param} (hp : p ∈ s) : p.name.length ≤ 6 ∧ 1 ≤ p.name.length := by
  have := h.params p hp
  simp only [okQ, okName, inR, Bool.and_eq_true, decide_eq_true_eq] at this
  omega

theorem single_kind {p : Param} : singleQ p = true ↔ p.kind = 0 ∨ p.kind = 1 ∨ p.kind = 3 := by
  simp only [singleQ, placedQ, Bool.or_eq_true, beq_iff_eq]; omega

/-- Of the kinds of which there is one parameter at most. -/
theorem OkS.one {s : Sig} (h : OkS s) {i j : Nat} {l p : Param} (hl : s[i]? = some l) (hp : s[j]? = some p) (hk : l.kind = p.kind) (hs : singleQ p = false) : i = j := by
  have hs' : singleQ l = false := by
    cases hx : singleQ l with
    | false => rfl
    | true => rw [single_kind, hk, ← single_kind, hs] at hx; cases hx
  rcases Nat.lt_trichotomy i j with h1 | h1 | h1
  · have := h.sortedLt h1 hl hp hs; omega
  · exact h1
  · have := h.sortedLt h1 hp hl hs'; omega

def prmT (p : Param) : Str := if p.kind = 2 then [42] ++ p.name else if p.kind = 4 then [42, 42] ++ p.name else if p.hasD = true then p.name ++ [61] ++ Lib.itoa p.dflt else p.name

theorem okQ_parts {p : Param} (h : okQ p = true) : okName p.name = true ∧ 0 ≤ p.kind ∧ p.kind ≤ 4 ∧ -99 ≤ p.dflt ∧ p.dflt ≤ 99 ∧ p.name.length ≤ 6 := by
  have h0 := h
  simp only [okQ, Bool.and_eq_true] at h0
  refine ⟨h0.1.1.1.1, ?_⟩
  simp only [okQ, okName, okVal, inR, Bool.and_eq_true, decide_eq_true_eq] at h
  omega

theorem itext_ct (p : Param) (hn : p.name.length ≤ 1000) (h1 : -9223372036854775808 ≤ p.dflt) (h2 : p.dflt ≤ 9223372036854775807) : ACalls pk 31 [.agg (eQ p)] [] (fun r o => r = .one (.str (prmT p)) ∧ o = []) := by
  have hi := Lib.itoa_length_le p.dflt h1 h2
  refine acalls_of_body Tryz.func31 rfl (by kernel_rfl) rfl ?_
  refine rn rfl ?_
  refine goal_cond rfl (fun k2 => ?_) (fun k2 => ?_) <;> (try simp only [gt_iff_lt, ge_iff_le, bne_iff_ne, ne_eq, bne_eq_false_iff_eq, beq_iff_eq, beq_eq_false_iff_ne, Bool.not_eq_true', Bool.not_eq_false', decide_eq_true_eq, decide_eq_false_iff_not, List.length_map] at k2)
  · refine rn rfl ?_
    refine goal_did rfl rfl (dA_concat ([42] ++ p.name) rfl rfl rfl (by simp; omega) rfl rfl) ?_
    refine rn rfl ?_
    refine rn rfl (fin_is [] rfl ⟨?_, rfl⟩)
    rw [prmT, if_pos k2]
  · refine rn rfl ?_
    refine goal_cond rfl (fun k4 => ?_) (fun k4 => ?_) <;> (try simp only [gt_iff_lt, ge_iff_le, bne_iff_ne, ne_eq, bne_eq_false_iff_eq, beq_iff_eq, beq_eq_false_iff_ne, Bool.not_eq_true', Bool.not_eq_false', decide_eq_true_eq, decide_eq_false_iff_not, List.length_map] at k4)
    · refine rn rfl ?_
      refine goal_did rfl rfl (dA_concat ([42, 42] ++ p.name) rfl rfl rfl (by simp; omega) rfl rfl) ?_
      refine rn rfl ?_
      refine rn rfl (fin_is [] rfl ⟨?_, rfl⟩)
      rw [prmT, if_neg k2, if_pos k4]
    · refine rn rfl ?_
      refine goal_cond rfl (fun hd => ?_) (fun hd => ?_) <;> (try simp only [gt_iff_lt, ge_iff_le, bne_iff_ne, ne_eq, bne_eq_false_iff_eq, beq_iff_eq, beq_eq_false_iff_ne, Bool.not_eq_true', Bool.not_eq_false', decide_eq_true_eq, decide_eq_false_iff_not, List.length_map] at hd)
      · refine rn rfl ?_
        refine goal_draw' [0] 8 rfl ?_
        refine drn [0, 1, 3, 4] (by kernel_rfl) (by kernel_rfl) rfl rfl ?_
        refine AH_did 2 rfl (by kernel_rfl) (by kernel_rfl) (by kernel_rfl) rfl rfl (dA_concat (p.name ++ [61]) rfl rfl rfl (by simp; omega) rfl rfl) ?_
        refine AH_one (i := 5) (by kernel_rfl) (step_call [] rfl rfl rfl rfl rfl rfl (itoa_ct p.dflt h1 h2)) (by simp) ?_
        rintro σ2 ⟨r, o', ⟨rfl, rfl⟩, hσ⟩
        obtain rfl := Option.some.inj hσ
        clear hσ
        refine AH_did 6 rfl (by kernel_rfl) (by kernel_rfl) (by kernel_rfl) rfl rfl (dA_concat (p.name ++ [61] ++ Lib.itoa p.dflt) rfl rfl rfl (by simp; omega) rfl rfl) ?_
        refine drn [7] (by kernel_rfl) (by kernel_rfl) rfl rfl ?_
        refine AH_end (by kernel_rfl) ?_
        refine rn rfl ?_
        refine rn rfl (fin_is [] rfl ⟨?_, rfl⟩)
        rw [prmT, if_neg k2, if_neg k4, if_pos hd]
      · refine rn rfl ?_
        refine rn rfl (fin_is [] rfl ⟨?_, rfl⟩)
        rw [prmT, if_neg k2, if_neg k4, if_neg (by simp [hd])]

theorem stext_ct (p : Param) (hn : p.name.length ≤ 1000) (h1 : -9223372036854775807 ≤ p.dflt) (h2 : p.dflt ≤ 9223372036854775807) : ACalls pk 65 [.agg (eQ p)] [] (fun r o => r = .one (.str (prmT p)) ∧ o = []) := by
  have hi := Lib.itoa_length_le p.dflt (by omega) h2
  refine acalls_of_body Tryz.func65 rfl (by kernel_rfl) rfl ?_
  refine rn rfl ?_
  refine goal_cond rfl (fun k2 => ?_) (fun k2 => ?_) <;> (try simp only [gt_iff_lt, ge_iff_le, bne_iff_ne, ne_eq, bne_eq_false_iff_eq, beq_iff_eq, beq_eq_false_iff_ne, Bool.not_eq_true', Bool.not_eq_false', decide_eq_true_eq, decide_eq_false_iff_not, List.length_map] at k2)
  · refine rn rfl ?_
    refine goal_did rfl rfl (dA_concat ([42] ++ p.name) rfl rfl rfl (by simp; omega) rfl rfl) ?_
    refine rn rfl ?_
    refine rn rfl (fin_is [] rfl ⟨?_, rfl⟩)
    rw [prmT, if_pos k2]
  · refine rn rfl ?_
    refine goal_cond rfl (fun k4 => ?_) (fun k4 => ?_) <;> (try simp only [gt_iff_lt, ge_iff_le, bne_iff_ne, ne_eq, bne_eq_false_iff_eq, beq_iff_eq, beq_eq_false_iff_ne, Bool.not_eq_true', Bool.not_eq_false', decide_eq_true_eq, decide_eq_false_iff_not, List.length_map] at k4)
    · refine rn rfl ?_
      refine goal_did rfl rfl (dA_concat ([42, 42] ++ p.name) rfl rfl rfl (by simp; omega) rfl rfl) ?_
      refine rn rfl ?_
      refine rn rfl (fin_is [] rfl ⟨?_, rfl⟩)
      rw [prmT, if_neg k2, if_pos k4]
    · refine rn rfl ?_
      refine goal_cond rfl (fun hd => ?_) (fun hd => ?_) <;> (try simp only [gt_iff_lt, ge_iff_le, bne_iff_ne, ne_eq, bne_eq_false_iff_eq, beq_iff_eq, beq_eq_false_iff_ne, Bool.not_eq_true', Bool.not_eq_false', decide_eq_true_eq, decide_eq_false_iff_not, List.length_map] at hd)
      · refine rn rfl ?_
        refine goal_draw' [0] 8 rfl ?_
        refine drn [0, 1, 3, 4] (by kernel_rfl) (by kernel_rfl) rfl rfl ?_
        refine AH_did 2 rfl (by kernel_rfl) (by kernel_rfl) (by kernel_rfl) rfl rfl (dA_concat (p.name ++ [61]) rfl rfl rfl (by simp; omega) rfl rfl) ?_
        refine AH_one (i := 5) (by kernel_rfl) (step_call [] rfl rfl rfl rfl rfl rfl (number_ct p.dflt h1 h2)) (by simp) ?_
        rintro σ2 ⟨r, o', ⟨rfl, rfl⟩, hσ⟩
        obtain rfl := Option.some.inj hσ
        clear hσ
        refine AH_did 6 rfl (by kernel_rfl) (by kernel_rfl) (by kernel_rfl) rfl rfl (dA_concat (p.name ++ [61] ++ Lib.itoa p.dflt) rfl rfl rfl (by simp; omega) rfl rfl) ?_
        refine drn [7] (by kernel_rfl) (by kernel_rfl) rfl rfl ?_
        refine AH_end (by kernel_rfl) ?_
        refine rn rfl ?_
        refine rn rfl (fin_is [] rfl ⟨?_, rfl⟩)
        rw [prmT, if_neg k2, if_neg k4, if_pos hd]
      · refine rn rfl ?_
        refine rn rfl (fin_is [] rfl ⟨?_, rfl⟩)
        rw [prmT, if_neg k2, if_neg k4, if_neg (by simp [hd])]

def starAt (s : Sig) (i : Nat) (p : Param) : Bool := p.kind == 3 && (!(s.any (kIs 2)) && (i == 0 || (s[i - 1]?.map Param.kind) != some 3))

def slashAt (s : Sig) (i : Nat) (p : Param) : Bool := p.kind == 0 && (i + 1 == s.length || (s[i + 1]?.map Param.kind) != some 0)

def starS (s : Sig) (i : Nat) (p : Param) : List Str := if starAt s i p = true then [[42]] else []

def slashS (s : Sig) (i : Nat) (p : Param) : List Str := if slashAt s i p = true then [[47]] else []

def ptAt (s : Sig) (i : Nat) (p : Param) : List Str := starS s i p ++ [prmT p] ++ slashS s i p

def pts (s : Sig) (n : Nat) : List Str := ((s.zipIdx.take n).map fun x => ptAt s x.2 x.1).flatten

def SgT (s : Sig) : Str := Lib.join (pts s s.length) [44, 32]

def SgF (s : Sig) : Str := if okSig s = true then SgT s else []

theorem pts_succ {s : Sig} {i : Nat} {p : Param} (h : s[i]? = some p) : pts s (i + 1) = pts s i ++ ptAt s i p := by
  have hz : s.zipIdx[i]? = some (p, i) := by rw [List.getElem?_zipIdx, h]; simp
  unfold pts
  rw [← take_snoc hz]
  simp

theorem prmT_len {p : Param} (h : okQ p = true) : (prmT p).length ≤ 30 := by
  obtain ⟨_, _, _, h1, h2, h3⟩ := okQ_parts h
  have := Lib.itoa_length_le p.dflt (by omega) (by omega)
  unfold prmT
  split
  · simp; omega
  · split
    · simp; omega
    · split
      · simp; omega
      · omega

theorem pts_len {s : Sig} (h : ∀ p ∈ s, okQ p = true) : ∀ i, i ≤ s.length → (pts s i).length ≤ 3 * i ∧ ∀ t ∈ pts s i, t.length ≤ 30 := by
  intro i
  induction i with
  | zero => intro _; simp [pts]
  | succ i ih =>
    intro hi
    obtain ⟨p, hp⟩ := at_some (xs := s) (i := i) (by omega)
    obtain ⟨i1, i2⟩ := ih (by omega)
    rw [pts_succ hp]
    have hpl := prmT_len (h p (List.mem_of_getElem? hp))
    have hs : (starS s i p).length ≤ 1 ∧ ∀ t ∈ starS s i p, t.length ≤ 30 := by unfold starS; split <;> simp
    have hl : (slashS s i p).length ≤ 1 ∧ ∀ t ∈ slashS s i p, t.length ≤ 30 := by unfold slashS; split <;> simp
    unfold ptAt
    refine ⟨by simp only [List.length_append, List.length_cons, List.length_nil]; omega, fun t ht => ?_⟩
    simp only [List.mem_append, List.mem_singleton] at ht
    rcases ht with ht | (ht | ht) | ht
    · exact i2 t ht
    · exact hs.2 t ht
    · subst ht; exact hpl
    · exact hl.2 t ht

theorem joinTail_len2 (sep : Str) : ∀ (r : List Str) (k : Nat), (∀ n ∈ r, n.length ≤ k) → (Lib.joinTail sep r).length ≤ (k + sep.length) * r.length := by
  intro r k hr
  induction r with
  | nil => simp [Lib.joinTail]
  | cons y r ih =>
    have h1 := hr y (by simp)
    have h2 := ih (fun n hn => hr n (by simp [hn]))
    have e : Lib.joinTail sep (y :: r) = sep ++ y ++ Lib.joinTail sep r := by simp [Lib.joinTail]
    rw [e, List.length_append, List.length_append, List.length_cons, Nat.mul_add]
    omega

theorem join_len2 (sep : Str) (r : List Str) (k : Nat) (hr : ∀ n ∈ r, n.length ≤ k) : (Lib.join r sep).length ≤ (k + sep.length) * r.length := by
  cases r with
  | nil => simp [Lib.join_nil]
  | cons x r =>
    rw [Lib.join_cons, List.length_append, List.length_cons, Nat.mul_add]
    have := joinTail_len2 sep r k (fun n hn => hr n (by simp [hn]))
    have := hr x (by simp)
    omega

theorem iSigText_ct (s : Sig) (hb : s.length ≤ 9223372036854775807) (hn : ∀ p ∈ s, p.name.length ≤ 9223372036854775807) : ACalls pk 14 [.agg (eG s)] [] (fun r o => r = .one (.str (SgF s)) ∧ o = []) := by
  refine acalls_of_body Tryz.func14 rfl (by kernel_rfl) rfl ?_
  refine rn rfl ?_
  refine goal_step (step_call [] rfl rfl rfl rfl rfl rfl (ivalidSig_ct s hb hn)) ?_
  rintro σ2 ⟨r, o', ⟨rfl, rfl⟩, hσ⟩
  obtain rfl := Option.some.inj hσ
  clear hσ
  refine rn rfl ?_
  cases hv : okSig s with
  | false =>
    refine goal_cond rfl (fun _ => ?_) (fun h => by simp at h)
    refine rn rfl (fin_is [] rfl ⟨?_, rfl⟩)
    rw [SgF, hv]; rfl
  | true =>
    refine goal_cond rfl (fun h => by simp at h) (fun _ => ?_)
    have hS := okSig_iff.1 hv
    have h8 := hS.len
    refine rn rfl ?_
    refine goal_weakCod (Weak.adopt 3 0 1) ?_
    refine goal_loop_keep (fun m σ => ∃ (n L : Int) (i len : Nat), n = i ∧ L = s.length ∧ i ≤ s.length ∧ m = s.length - i ∧ len = (pts s i).length ∧
        σ = ⟨[(12, .one (.int .i64 n)), (11, .one (.int .i64 L)), (10, .one (.fs (s.map eQ))), (3, .one (.os 0 0 len len)), (1, .one (.op 1 0 0))], [ownS (pts s i), some ⟨1, [eG s], false, false, true⟩], []⟩) s.length [12, 11, 10, 3, 1] [1, 0] rfl
      ⟨_, _, 0, _, rfl, by simp, by omega, by omega, rfl, rfl⟩ ?_
    rintro m σ ⟨n, L, i, len, rfl, rfl, hi, rfl, rfl, rfl⟩
    obtain ⟨hpl, hpt⟩ := pts_len hS.params i hi
    refine rn rfl ?_
    refine goal_cond rfl (fun h => ?_) (fun h => ?_) <;> (try simp only [gt_iff_lt, ge_iff_le, bne_iff_ne, ne_eq, bne_eq_false_iff_eq, beq_iff_eq, beq_eq_false_iff_ne, Bool.not_eq_true', Bool.not_eq_false', decide_eq_true_eq, decide_eq_false_iff_not, List.length_map] at h)
    · obtain ⟨p, hp⟩ := at_some (xs := s) (i := i) (by omega)
      obtain ⟨q1, q2, q3, q4, q5, q6⟩ := okQ_parts (hS.params p (List.mem_of_getElem? hp))
      have hst := pts_succ hp
      refine rn rfl ?_
      refine goal_did rfl rfl (dA_index (eQ p) rfl rfl rfl rfl rfl rfl rfl (by omega) (by (try simp); omega) (map_at (by simpa using hp)) rfl) ?_
      refine rt 7 rfl ?_
      refine goal_cutR (fun σ => ∃ l : Nat, l = (pts s i ++ starS s i p).length ∧ σ = ⟨[(12, .one (.int .i64 i)), (11, .one (.int .i64 s.length)), (10, .one (.fs (s.map eQ))), (5, .one (.op 2 0 0)), (4, .one (.int .i64 i)), (3, .one (.os 0 0 l l)), (1, .one (.op 1 0 0))],
        [ownS (pts s i ++ starS s i p), some ⟨1, [eG s], false, false, true⟩, some ⟨4, [eQ p], false, false, true⟩], []⟩) ?_ ?_
      · refine rn rfl ?_
        refine goal_guard rfl rfl rfl (fun h1 => ?_) (fun h1 => ?_) <;> (try simp only [gt_iff_lt, ge_iff_le, bne_iff_ne, ne_eq, bne_eq_false_iff_eq, beq_iff_eq, beq_eq_false_iff_ne, Bool.not_eq_true', Bool.not_eq_false', decide_eq_true_eq, decide_eq_false_iff_not, List.length_map] at h1)
        · refine rn rfl ?_
          refine goal_step (step_call [] rfl rfl rfl rfl rfl rfl (has_ct s 2 hb)) ?_
          rintro σ2 ⟨r, o', ⟨rfl, rfl⟩, hσ⟩
          obtain rfl := Option.some.inj hσ
          clear hσ
          refine rn rfl ?_
          refine goal_guard rfl rfl rfl (fun h2 => ?_) (fun h2 => ?_) <;> (try simp only [gt_iff_lt, ge_iff_le, bne_iff_ne, ne_eq, bne_eq_false_iff_eq, beq_iff_eq, beq_eq_false_iff_ne, Bool.not_eq_true', Bool.not_eq_false', decide_eq_true_eq, decide_eq_false_iff_not, List.length_map] at h2)
          · refine rn rfl ?_
            refine goal_guard rfl rfl rfl (fun h3 => ?_) (fun h3 => ?_) <;> (try simp only [gt_iff_lt, ge_iff_le, bne_iff_ne, ne_eq, bne_eq_false_iff_eq, beq_iff_eq, beq_eq_false_iff_ne, Bool.not_eq_true', Bool.not_eq_false', decide_eq_true_eq, decide_eq_false_iff_not, List.length_map] at h3)
            · have e : starS s i p = [[42]] := by rw [starS, if_pos (by simp [starAt, h1, h2, show i = 0 by omega])]
              rw [e]
              refine rn rfl ?_
              refine goal_did rfl rfl (dA_append (old := (pts s i).map eS) (rows := ([[42]] : List Str).map eS) (((pts s i) ++ ([[42]] : List Str)).map eS) ((pts s i).length + 1) true (Dst.own rfl rfl rfl rfl rfl (by first | (simp; done) | (simp; omega)) (whole (by first | (simp; done) | (simp; omega)))) (Src.os rfl rfl (Nat.le_refl 1) rfl) rfl rfl rfl rfl rfl rfl rfl rfl (rows_len eS_len _) (rows_len eS_len _) (by (try simp only [List.length_map, List.length_append, List.length_cons, List.length_nil, List.length_take, List.length_drop]); show _ * 16 ≤ _; omega) (by first | (simp; done) | (simp; omega)) (by simp) (by first | (simp; done) | (simp; omega)) (fun _ => noOwnR_map _ eS_noOwn _)) ?_
              refine rn rfl ?_
              exact cut_nrm [12, 11, 10, 5, 4, 3, 1] [4, 1, 2] rfl ⟨(pts s i).length + 1, by simp, rfl⟩
            · obtain ⟨l, hl⟩ := at_some (xs := s) (i := i - 1) (by omega)
              have hw : IntKind.i64.wrap ((i : Int) - 1) = ((i - 1 : Nat) : Int) := by rw [wrap64] <;> omega
              refine rn rfl ?_
              refine goal_did rfl rfl (dA_index (eQ l) rfl rfl rfl rfl rfl rfl rfl (by rw [hw]; omega) (by rw [hw]; simp; omega) (map_at (by rw [hw]; simpa using hl)) rfl) ?_
              refine rn rfl ?_
              refine goal_cond rfl (fun h4 => ?_) (fun h4 => ?_) <;> (try simp only [gt_iff_lt, ge_iff_le, bne_iff_ne, ne_eq, bne_eq_false_iff_eq, beq_iff_eq, beq_eq_false_iff_ne, Bool.not_eq_true', Bool.not_eq_false', decide_eq_true_eq, decide_eq_false_iff_not, List.length_map] at h4)
              · have e : starS s i p = [[42]] := by rw [starS, if_pos (by simp [starAt, h1, h2, hl, h4])]
                rw [e]
                refine rn rfl ?_
                refine goal_did rfl rfl (dA_append (old := (pts s i).map eS) (rows := ([[42]] : List Str).map eS) (((pts s i) ++ ([[42]] : List Str)).map eS) ((pts s i).length + 1) true (Dst.own rfl rfl rfl rfl rfl (by first | (simp; done) | (simp; omega)) (whole (by first | (simp; done) | (simp; omega)))) (Src.os rfl rfl (Nat.le_refl 1) rfl) rfl rfl rfl rfl rfl rfl rfl rfl (rows_len eS_len _) (rows_len eS_len _) (by (try simp only [List.length_map, List.length_append, List.length_cons, List.length_nil, List.length_take, List.length_drop]); show _ * 16 ≤ _; omega) (by first | (simp; done) | (simp; omega)) (by simp) (by first | (simp; done) | (simp; omega)) (fun _ => noOwnR_map _ eS_noOwn _)) ?_
                refine rn rfl ?_
                exact cut_nrm [12, 11, 10, 5, 4, 3, 1] [4, 1, 2] rfl ⟨(pts s i).length + 1, by simp, rfl⟩
              · have e : starS s i p = [] := by rw [starS, if_neg (by simp [starAt, h1, h2, hl, h4, show ¬ i = 0 by omega])]
                rw [e, List.append_nil]
                refine rn rfl ?_
                exact cut_nrm [12, 11, 10, 5, 4, 3, 1] [0, 1, 2] rfl ⟨_, rfl, rfl⟩
          · have e : starS s i p = [] := by rw [starS, if_neg (by simp [starAt, h2])]
            rw [e, List.append_nil]
            refine rn rfl ?_
            exact cut_nrm [12, 11, 10, 5, 4, 3, 1] [0, 1, 2] rfl ⟨_, rfl, rfl⟩
        · have e : starS s i p = [] := by rw [starS, if_neg (by simp [starAt, h1])]
          rw [e, List.append_nil]
          refine rn rfl ?_
          exact cut_nrm [12, 11, 10, 5, 4, 3, 1] [0, 1, 2] rfl ⟨_, rfl, rfl⟩
      rintro _ ⟨l, rfl, rfl⟩
      have hsl : (starS s i p).length ≤ 1 := by unfold starS; split <;> simp
      generalize hA : pts s i ++ starS s i p = A at *
      have hAl : A.length ≤ 100 := by rw [← hA]; simp; omega
      refine rn rfl ?_
      refine goal_step (step_call [] rfl rfl rfl rfl rfl rfl (itext_ct p (by omega) (by omega) (by omega))) ?_
      rintro σ2 ⟨r, o', ⟨rfl, rfl⟩, hσ⟩
      obtain rfl := Option.some.inj hσ
      clear hσ
      refine rn rfl ?_
      refine goal_did rfl rfl (dA_append (old := (A).map eS) (rows := ([prmT p] : List Str).map eS) (((A) ++ ([prmT p] : List Str)).map eS) (A.length + 1) true (Dst.own rfl rfl rfl rfl rfl (by first | (simp; done) | (simp; omega)) (whole (by first | (simp; done) | (simp; omega)))) (Src.os rfl rfl (Nat.le_refl 1) rfl) rfl rfl rfl rfl rfl rfl rfl rfl (rows_len eS_len _) (rows_len eS_len _) (by (try simp only [List.length_map, List.length_append, List.length_cons, List.length_nil, List.length_take, List.length_drop]); show _ * 16 ≤ _; omega) (by first | (simp; done) | (simp; omega)) (by simp) (by first | (simp; done) | (simp; omega)) (fun _ => noOwnR_map _ eS_noOwn _)) ?_
      refine rn rfl ?_
      have hend : pts s (i + 1) = A ++ [prmT p] ++ slashS s i p := by rw [hst, ptAt, ← hA]; simp
      generalize hB : A ++ [prmT p] = B at *
      have hBl : B.length = A.length + 1 := by rw [← hB]; simp
      rw [← hBl]
      refine rn rfl ?_
      have hw0 : IntKind.i64.wrap ((s.length : Int) - 1) = (s.length : Int) - 1 := wrap64 (by omega) (by omega)
      refine goal_guard rfl rfl rfl (fun h1 => ?_) (fun h1 => ?_) <;> (try simp only [gt_iff_lt, ge_iff_le, bne_iff_ne, ne_eq, bne_eq_false_iff_eq, beq_iff_eq, beq_eq_false_iff_ne, Bool.not_eq_true', Bool.not_eq_false', decide_eq_true_eq, decide_eq_false_iff_not, List.length_map] at h1)
      · refine rn rfl ?_
        refine goal_guard rfl rfl rfl (fun h2 => ?_) (fun h2 => ?_) <;> (try simp only [gt_iff_lt, ge_iff_le, bne_iff_ne, ne_eq, bne_eq_false_iff_eq, beq_iff_eq, beq_eq_false_iff_ne, Bool.not_eq_true', Bool.not_eq_false', decide_eq_true_eq, decide_eq_false_iff_not, List.length_map] at h2)
        · have e : slashS s i p = [[47]] := by rw [slashS, if_pos (by simp [slashAt, h1, show i + 1 = s.length by omega])]
          rw [e] at hend
          refine rn rfl ?_
          refine goal_did rfl rfl (dA_append (old := (B).map eS) (rows := ([[47]] : List Str).map eS) (((B) ++ ([[47]] : List Str)).map eS) (B.length + 1) true (Dst.own rfl rfl rfl rfl rfl (by first | (simp; done) | (simp; omega)) (whole (by first | (simp; done) | (simp; omega)))) (Src.os rfl rfl (Nat.le_refl 1) rfl) rfl rfl rfl rfl rfl rfl rfl rfl (rows_len eS_len _) (rows_len eS_len _) (by (try simp only [List.length_map, List.length_append, List.length_cons, List.length_nil, List.length_take, List.length_drop]); show _ * 16 ≤ _; omega) (by first | (simp; done) | (simp; omega)) (by simp) (by first | (simp; done) | (simp; omega)) (fun _ => noOwnR_map _ eS_noOwn _)) ?_
          refine rn rfl ?_
          refine round_keep (s.length - (i + 1)) [12, 11, 10, 3, 1] [6, 1] (by omega) rfl ⟨_, _, i + 1, B.length + 1, wrap64 (by omega) (by omega), rfl, by omega, rfl, by rw [hend]; simp, by rw [hend]; rfl⟩
        · obtain ⟨l, hl⟩ := at_some (xs := s) (i := i + 1) (by omega)
          have hw : IntKind.i64.wrap ((i : Int) + 1) = ((i + 1 : Nat) : Int) := by rw [wrap64] <;> omega
          refine rn rfl ?_
          refine goal_did rfl rfl (dA_index (eQ l) rfl rfl rfl rfl rfl rfl rfl (by rw [hw]; omega) (by rw [hw]; simp; omega) (map_at (by rw [hw]; simpa using hl)) rfl) ?_
          refine rn rfl ?_
          refine goal_cond rfl (fun h4 => ?_) (fun h4 => ?_) <;> (try simp only [gt_iff_lt, ge_iff_le, bne_iff_ne, ne_eq, bne_eq_false_iff_eq, beq_iff_eq, beq_eq_false_iff_ne, Bool.not_eq_true', Bool.not_eq_false', decide_eq_true_eq, decide_eq_false_iff_not, List.length_map] at h4)
          · have e : slashS s i p = [[47]] := by rw [slashS, if_pos (by simp [slashAt, h1, hl, h4])]
            rw [e] at hend
            refine rn rfl ?_
            refine goal_did rfl rfl (dA_append (old := (B).map eS) (rows := ([[47]] : List Str).map eS) (((B) ++ ([[47]] : List Str)).map eS) (B.length + 1) true (Dst.own rfl rfl rfl rfl rfl (by first | (simp; done) | (simp; omega)) (whole (by first | (simp; done) | (simp; omega)))) (Src.os rfl rfl (Nat.le_refl 1) rfl) rfl rfl rfl rfl rfl rfl rfl rfl (rows_len eS_len _) (rows_len eS_len _) (by (try simp only [List.length_map, List.length_append, List.length_cons, List.length_nil, List.length_take, List.length_drop]); show _ * 16 ≤ _; omega) (by first | (simp; done) | (simp; omega)) (by simp) (by first | (simp; done) | (simp; omega)) (fun _ => noOwnR_map _ eS_noOwn _)) ?_
            refine rn rfl ?_
            refine round_keep (s.length - (i + 1)) [12, 11, 10, 3, 1] [6, 1] (by omega) rfl ⟨_, _, i + 1, B.length + 1, wrap64 (by omega) (by omega), rfl, by omega, rfl, by rw [hend]; simp, by rw [hend]; rfl⟩
          · have e : slashS s i p = [] := by rw [slashS, if_neg (by simp [slashAt, h1, hl, h4]; omega)]
            rw [e, List.append_nil] at hend
            refine rn rfl ?_
            refine round_keep (s.length - (i + 1)) [12, 11, 10, 3, 1] [4, 1] (by omega) rfl ⟨_, _, i + 1, _, wrap64 (by omega) (by omega), rfl, by omega, rfl, by rw [hend], by rw [hend]; rfl⟩
      · have e : slashS s i p = [] := by rw [slashS, if_neg (by simp [slashAt, h1])]
        rw [e, List.append_nil] at hend
        refine rn rfl ?_
        refine round_keep (s.length - (i + 1)) [12, 11, 10, 3, 1] [4, 1] (by omega) rfl ⟨_, _, i + 1, _, wrap64 (by omega) (by omega), rfl, by omega, rfl, by rw [hend], by rw [hend]; rfl⟩
    · have hil : i = s.length := by omega
      subst hil
      have hj := join_len2 [44, 32] (pts s s.length) 30 hpt
      have hj2 : (30 + [(44 : UInt8), 32].length) * (pts s s.length).length ≤ 32 * 24 := Nat.mul_le_mul_left _ (by omega)
      have e : SgF s = Lib.join (pts s s.length) [44, 32] := by rw [SgF, if_pos hv]; rfl
      rw [e]
      generalize pts s s.length = A at *
      refine rn rfl ?_
      refine round_ext ?_
      refine rn rfl ?_
      refine goal_step (step_callE [] rfl rfl rfl rfl rfl rfl (congrArg (fun z => [T.one (C.fs z), T.one (C.str [44, 32])]) (takeAll eS _ _ rfl)) (join_ct A [44, 32] (by omega) (by omega))) ?_
      rintro σ2 ⟨r, o', ⟨rfl, rfl⟩, hσ⟩
      obtain rfl := Option.some.inj hσ
      clear hσ
      refine rn rfl ?_
      exact rn rfl (fin_is [] rfl ⟨rfl, rfl⟩)

theorem named_first {s : Sig} {i : Nat} {p : Param} (hS : OkS s) (hp : s[i]? = some p) (hk : p.kind = 3) : (idxI (kIs 3) s 0 == (i : Int)) = (i == 0 || (s[i - 1]?.map Param.kind) != some 3) := by
  have hany : s.any (kIs 3) = true := List.any_eq_true.2 ⟨p, List.mem_of_getElem? hp, by simp [kIs, hk]⟩
  rw [idxI_some hany, Nat.zero_add]
  have hil := lt_of_some hp
  have hpi : kIs 3 s[i] = true := by
    rw [List.getElem?_eq_getElem hil] at hp; cases hp; simp [kIs, hk]
  have hle : s.findIdx (kIs 3) ≤ i := by
    by_cases h : i < s.findIdx (kIs 3)
    · have := List.not_of_lt_findIdx h
      simp [hpi] at this
    · omega
  by_cases h0 : i = 0
  · subst h0
    have : s.findIdx (kIs 3) = 0 := by omega
    rw [this]; simp
  · obtain ⟨l, hl⟩ := at_some (xs := s) (i := i - 1) (by omega)
    have hb : (i == 0) = false := by simpa using h0
    rw [hb, hl, Bool.false_or, Option.map_some]
    by_cases h3 : l.kind = 3
    · have : s.findIdx (kIs 3) ≤ i - 1 := by
        by_cases h : i - 1 < s.findIdx (kIs 3)
        · have := List.not_of_lt_findIdx h
          have hl2 : s[i - 1]'(by omega) = l := by
            have h5 := List.getElem?_eq_getElem (l := s) (i := i - 1) (by omega)
            rw [hl] at h5
            exact (Option.some.inj h5).symm
          simp [kIs, hl2, h3] at this
        · omega
      rw [h3]
      simp
      omega
    · have : s.findIdx (kIs 3) = i := by
        refine Nat.le_antisymm hle (Nat.le_of_not_lt fun hlt => ?_)
        have hf : kIs 3 s[s.findIdx (kIs 3)] = true := List.findIdx_getElem (w := by omega)
        have h1 := hS.sorted (i - 1 - s.findIdx (kIs 3)) (s.findIdx (kIs 3)) _ l (List.getElem?_eq_getElem (by omega)) (by rw [show s.findIdx (kIs 3) + (i - 1 - s.findIdx (kIs 3)) = i - 1 by omega]; exact hl)
        have h2 := hS.sorted 1 (i - 1) l p hl (by rw [show i - 1 + 1 = i by omega]; exact hp)
        have h4 : (s[s.findIdx (kIs 3)]'(by omega)).kind = 3 := by simpa [kIs] using hf
        omega
      rw [this]
      simp [h3]

theorem join_snoc2 (A : List Str) (n sep : Str) : Lib.join (A ++ [n]) sep = if A = [] then n else Lib.join A sep ++ sep ++ n := by
  cases A with
  | nil => rw [List.nil_append, Lib.join_one, if_pos rfl]
  | cons x r =>
    rw [if_neg (by simp), List.cons_append, Lib.join_cons, Lib.join_cons]
    simp [Lib.joinTail]

theorem sjoin_ct (xs : List Str) (sep : Str) (hl : xs.length ≤ 1000) (hk : ∀ x ∈ xs, x.length ≤ 1000) (hs : sep.length ≤ 100) : ACalls pk 66 [.one (.fs (xs.map eS)), .one (.str sep)] [] (fun r o => r = .one (.str (Lib.join xs sep)) ∧ o = []) := by
  refine acalls_of_body Tryz.func66 rfl (by kernel_rfl) rfl ?_
  refine rn rfl ?_
  refine goal_loop_keep (fun m σ => ∃ (n : Int) (i : Nat) (acc : Str), n = i ∧ i ≤ xs.length ∧ m = xs.length - i ∧ acc = Lib.join (xs.take i) sep ∧
      σ = ⟨[(6, .one (.int .i64 n)), (5, .one (.str acc)), (1, .one (.str sep)), (0, .one (.fs (xs.map eS)))], [], []⟩) xs.length [6, 5, 1, 0] [] rfl
    ⟨_, 0, _, rfl, by omega, by omega, by rw [List.take_zero, Lib.join_nil], rfl⟩ ?_
  rintro m σ ⟨n, i, acc, rfl, hi, rfl, hacc, rfl⟩
  have hal : acc.length ≤ 1100 * 1000 := by
    have h1 := join_len2 sep (xs.take i) 1000 (fun n h => hk n (List.mem_of_mem_take h))
    have h2 : (xs.take i).length ≤ 1000 := by rw [List.length_take]; omega
    have h3 : (1000 + sep.length) * (xs.take i).length ≤ 1100 * 1000 := Nat.mul_le_mul (by omega) h2
    rw [hacc]; omega
  refine rn rfl ?_
  refine goal_cond rfl (fun h => ?_) (fun h => ?_) <;> (try simp only [gt_iff_lt, ge_iff_le, bne_iff_ne, ne_eq, bne_eq_false_iff_eq, beq_iff_eq, beq_eq_false_iff_ne, Bool.not_eq_true', Bool.not_eq_false', decide_eq_true_eq, decide_eq_false_iff_not, List.length_map] at h)
  · obtain ⟨x, hx⟩ := at_some (xs := xs) (i := i) (by omega)
    have hxl := hk x (List.mem_of_getElem? hx)
    have hst := join_snoc2 (xs.take i) x sep
    rw [take_snoc hx, ← hacc] at hst
    refine rn rfl ?_
    refine goal_cond rfl (fun h1 => ?_) (fun h1 => ?_) <;> (try simp only [gt_iff_lt, ge_iff_le, bne_iff_ne, ne_eq, bne_eq_false_iff_eq, beq_iff_eq, beq_eq_false_iff_ne, Bool.not_eq_true', Bool.not_eq_false', decide_eq_true_eq, decide_eq_false_iff_not, List.length_map] at h1)
    · have hne : ¬ xs.take i = [] := fun h0 => by
        have := congrArg List.length h0
        rw [List.length_take, List.length_nil] at this
        omega
      rw [if_neg hne] at hst
      refine rn rfl ?_
      refine goal_did rfl rfl (dA_concat (acc ++ sep) rfl rfl rfl (by (try simp); omega) rfl rfl) ?_
      refine rn rfl ?_
      refine goal_did rfl rfl (dA_index (eS x) rfl rfl rfl rfl rfl rfl rfl (by omega) (by (try simp); omega) (map_at (by simpa using hx)) rfl) ?_
      refine rn rfl ?_
      refine goal_did rfl rfl (dA_concat (acc ++ sep ++ x) rfl rfl rfl (by (try simp); omega) rfl rfl) ?_
      refine rn rfl ?_
      refine round_keep (xs.length - (i + 1)) [6, 5, 1, 0] [] (by omega) rfl ⟨_, i + 1, _, wrap64 (by omega) (by omega), by omega, rfl, hst.symm, rfl⟩
    · have h0 : i = 0 := by omega
      subst h0
      rw [List.take_zero, Lib.join_nil] at hacc
      subst hacc
      rw [List.take_zero, if_pos rfl] at hst
      refine rn rfl ?_
      refine goal_did rfl rfl (dA_index (eS x) rfl rfl rfl rfl rfl rfl rfl (by omega) (by (try simp); omega) (map_at (by simpa using hx)) rfl) ?_
      refine rn rfl ?_
      refine goal_did rfl rfl (dA_concat ([] ++ x) rfl rfl rfl (by simp; omega) rfl rfl) ?_
      refine rn rfl ?_
      refine round_keep (xs.length - (0 + 1)) [6, 5, 1, 0] [] (by omega) rfl ⟨_, 0 + 1, _, wrap64 (by omega) (by omega), by omega, rfl, by rw [hst]; rfl, rfl⟩
  · rw [show i = xs.length by omega, List.take_length] at hacc
    subst hacc
    refine rn rfl ?_
    refine round_ext ?_
    exact rn rfl (fin_is [] rfl ⟨rfl, rfl⟩)

theorem sSigText_ct (s : Sig) (hS : OkS s) : ACalls pk 40 [.agg (eG s)] [] (fun r o => r = .one (.str (SgT s)) ∧ o = []) := by
  have h8 := hS.len
  have hb : s.length ≤ 9223372036854775807 := by omega
  have hidx := fun i p (hp : s[i]? = some p) => named_first hS hp
  have hge := idxI_ge (pred := kIs 2) (xs := s) (i := 0)
  refine acalls_of_body Tryz.func40 rfl (by kernel_rfl) rfl ?_
  refine rn rfl ?_
  refine goal_loop_keep (fun m σ => ∃ (n : Int) (i len : Nat), n = i ∧ i ≤ s.length ∧ m = s.length - i ∧ len = (pts s i).length ∧
      σ = ⟨[(4, .one (.int .i64 n)), (3, .one (.os 0 0 len len)), (1, .one (.op 1 0 0))], [ownS (pts s i), some ⟨1, [eG s], false, false, true⟩], []⟩) s.length [4, 3, 1] [1, 0] rfl
    ⟨_, 0, _, rfl, by omega, by omega, rfl, rfl⟩ ?_
  rintro m σ ⟨n, i, len, rfl, hi, rfl, rfl, rfl⟩
  obtain ⟨hpl, hpt⟩ := pts_len hS.params i hi
  refine rn rfl ?_
  refine goal_cond rfl (fun h => ?_) (fun h => ?_) <;> (try simp only [gt_iff_lt, ge_iff_le, bne_iff_ne, ne_eq, bne_eq_false_iff_eq, beq_iff_eq, beq_eq_false_iff_ne, Bool.not_eq_true', Bool.not_eq_false', decide_eq_true_eq, decide_eq_false_iff_not, List.length_map] at h)
  · obtain ⟨p, hp⟩ := at_some (xs := s) (i := i) (by omega)
    obtain ⟨q1, q2, q3, q4, q5, q6⟩ := okQ_parts (hS.params p (List.mem_of_getElem? hp))
    have hst := pts_succ hp
    refine rn rfl ?_
    refine goal_did rfl rfl (dA_index (eQ p) rfl rfl rfl rfl rfl rfl rfl (by omega) (by (try simp); omega) (map_at (by simpa using hp)) rfl) ?_
    refine rt 6 rfl ?_
    refine goal_cutR (fun σ => ∃ l : Nat, l = (pts s i ++ starS s i p).length ∧ σ = ⟨[(5, .one (.op 2 0 0)), (4, .one (.int .i64 i)), (3, .one (.os 0 0 l l)), (1, .one (.op 1 0 0))],
      [ownS (pts s i ++ starS s i p), some ⟨1, [eG s], false, false, true⟩, some ⟨4, [eQ p], false, false, true⟩], []⟩) ?_ ?_
    · refine rn rfl ?_
      refine goal_guard rfl rfl rfl (fun h1 => ?_) (fun h1 => ?_) <;> (try simp only [gt_iff_lt, ge_iff_le, bne_iff_ne, ne_eq, bne_eq_false_iff_eq, beq_iff_eq, beq_eq_false_iff_ne, Bool.not_eq_true', Bool.not_eq_false', decide_eq_true_eq, decide_eq_false_iff_not, List.length_map] at h1)
      · refine rn rfl ?_
        refine goal_step (step_call [] rfl rfl rfl rfl rfl rfl (kindAt_ct s 2 hb)) ?_
        rintro σ2 ⟨r, o', ⟨rfl, rfl⟩, hσ⟩
        obtain rfl := Option.some.inj hσ
        clear hσ
        refine rn rfl ?_
        refine goal_guard rfl rfl rfl (fun h2 => ?_) (fun h2 => ?_) <;> (try simp only [gt_iff_lt, ge_iff_le, bne_iff_ne, ne_eq, bne_eq_false_iff_eq, beq_iff_eq, beq_eq_false_iff_ne, Bool.not_eq_true', Bool.not_eq_false', decide_eq_true_eq, decide_eq_false_iff_not, List.length_map] at h2)
        · refine rn rfl ?_
          refine goal_step (step_call [] rfl rfl rfl rfl rfl rfl (kindAt_ct s 3 hb)) ?_
          rintro σ2 ⟨r, o', ⟨rfl, rfl⟩, hσ⟩
          obtain rfl := Option.some.inj hσ
          clear hσ
          refine rn rfl ?_
          refine goal_cond rfl (fun h3 => ?_) (fun h3 => ?_) <;> (try simp only [gt_iff_lt, ge_iff_le, bne_iff_ne, ne_eq, bne_eq_false_iff_eq, beq_iff_eq, beq_eq_false_iff_ne, Bool.not_eq_true', Bool.not_eq_false', decide_eq_true_eq, decide_eq_false_iff_not, List.length_map] at h3)
          · have e : starS s i p = [[42]] := by
              have e1 : s.any (kIs 2) = false := by
                cases hb : s.any (kIs 2) with
                | false => rfl
                | true => have := hge.2 hb; omega
              rw [starS, if_pos ?_]
              rw [starAt, e1, ← hidx i p hp h1, h3]
              simp [h1]
            rw [e]
            refine rn rfl ?_
            refine goal_did rfl rfl (dA_append (old := (pts s i).map eS) (rows := ([[42]] : List Str).map eS) (((pts s i) ++ ([[42]] : List Str)).map eS) ((pts s i).length + 1) true (Dst.own rfl rfl rfl rfl rfl (by first | (simp; done) | (simp; omega)) (whole (by first | (simp; done) | (simp; omega)))) (Src.os rfl rfl (Nat.le_refl 1) rfl) rfl rfl rfl rfl rfl rfl rfl rfl (rows_len eS_len _) (rows_len eS_len _) (by (try simp only [List.length_map, List.length_append, List.length_cons, List.length_nil, List.length_take, List.length_drop]); show _ * 16 ≤ _; omega) (by first | (simp; done) | (simp; omega)) (by simp) (by first | (simp; done) | (simp; omega)) (fun _ => noOwnR_map _ eS_noOwn _)) ?_
            refine rn rfl ?_
            exact cut_nrm [5, 4, 3, 1] [4, 1, 2] rfl ⟨(pts s i).length + 1, by simp, rfl⟩
          · have e : starS s i p = [] := by
              have e2 : (idxI (kIs 3) s 0 == (i : Int)) = false := by simpa using h3
              rw [starS, if_neg ?_]
              rw [starAt, ← hidx i p hp h1, e2]
              simp
            rw [e, List.append_nil]
            refine rn rfl ?_
            exact cut_nrm [5, 4, 3, 1] [0, 1, 2] rfl ⟨_, rfl, rfl⟩
        · have e : starS s i p = [] := by
            rw [starS, if_neg ?_]
            rw [starAt, hge.1 (by omega)]
            simp
          rw [e, List.append_nil]
          refine rn rfl ?_
          exact cut_nrm [5, 4, 3, 1] [0, 1, 2] rfl ⟨_, rfl, rfl⟩
      · have e : starS s i p = [] := by rw [starS, if_neg (by simp [starAt, h1])]
        rw [e, List.append_nil]
        refine rn rfl ?_
        exact cut_nrm [5, 4, 3, 1] [0, 1, 2] rfl ⟨_, rfl, rfl⟩
    rintro _ ⟨l, rfl, rfl⟩
    have hsl : (starS s i p).length ≤ 1 := by unfold starS; split <;> simp
    generalize hA : pts s i ++ starS s i p = A at *
    have hAl : A.length ≤ 100 := by rw [← hA]; simp; omega
    refine rn rfl ?_
    refine goal_step (step_call [] rfl rfl rfl rfl rfl rfl (stext_ct p (by omega) (by omega) (by omega))) ?_
    rintro σ2 ⟨r, o', ⟨rfl, rfl⟩, hσ⟩
    obtain rfl := Option.some.inj hσ
    clear hσ
    refine rn rfl ?_
    refine goal_did rfl rfl (dA_append (old := (A).map eS) (rows := ([prmT p] : List Str).map eS) (((A) ++ ([prmT p] : List Str)).map eS) (A.length + 1) true (Dst.own rfl rfl rfl rfl rfl (by first | (simp; done) | (simp; omega)) (whole (by first | (simp; done) | (simp; omega)))) (Src.os rfl rfl (Nat.le_refl 1) rfl) rfl rfl rfl rfl rfl rfl rfl rfl (rows_len eS_len _) (rows_len eS_len _) (by (try simp only [List.length_map, List.length_append, List.length_cons, List.length_nil, List.length_take, List.length_drop]); show _ * 16 ≤ _; omega) (by first | (simp; done) | (simp; omega)) (by simp) (by first | (simp; done) | (simp; omega)) (fun _ => noOwnR_map _ eS_noOwn _)) ?_
    refine rn rfl ?_
    have hend : pts s (i + 1) = A ++ [prmT p] ++ slashS s i p := by rw [hst, ptAt, ← hA]; simp
    generalize hB : A ++ [prmT p] = B at *
    have hBl : B.length = A.length + 1 := by rw [← hB]; simp
    rw [← hBl]
    refine rn rfl ?_
    have hw0 : IntKind.i64.wrap ((i : Int) + 1) = (i : Int) + 1 := wrap64 (by omega) (by omega)
    refine goal_guard rfl rfl rfl (fun h1 => ?_) (fun h1 => ?_) <;> (try simp only [gt_iff_lt, ge_iff_le, bne_iff_ne, ne_eq, bne_eq_false_iff_eq, beq_iff_eq, beq_eq_false_iff_ne, Bool.not_eq_true', Bool.not_eq_false', decide_eq_true_eq, decide_eq_false_iff_not, List.length_map] at h1)
    · refine rn rfl ?_
      refine goal_guard rfl rfl rfl (fun h2 => ?_) (fun h2 => ?_) <;> (try simp only [gt_iff_lt, ge_iff_le, bne_iff_ne, ne_eq, bne_eq_false_iff_eq, beq_iff_eq, beq_eq_false_iff_ne, Bool.not_eq_true', Bool.not_eq_false', decide_eq_true_eq, decide_eq_false_iff_not, List.length_map] at h2)
      · have e : slashS s i p = [[47]] := by rw [slashS, if_pos (by simp [slashAt, h1, show i + 1 = s.length by omega])]
        rw [e] at hend
        refine rn rfl ?_
        refine goal_did rfl rfl (dA_append (old := (B).map eS) (rows := ([[47]] : List Str).map eS) (((B) ++ ([[47]] : List Str)).map eS) (B.length + 1) true (Dst.own rfl rfl rfl rfl rfl (by first | (simp; done) | (simp; omega)) (whole (by first | (simp; done) | (simp; omega)))) (Src.os rfl rfl (Nat.le_refl 1) rfl) rfl rfl rfl rfl rfl rfl rfl rfl (rows_len eS_len _) (rows_len eS_len _) (by (try simp only [List.length_map, List.length_append, List.length_cons, List.length_nil, List.length_take, List.length_drop]); show _ * 16 ≤ _; omega) (by first | (simp; done) | (simp; omega)) (by simp) (by first | (simp; done) | (simp; omega)) (fun _ => noOwnR_map _ eS_noOwn _)) ?_
        refine rn rfl ?_
        refine round_keep (s.length - (i + 1)) [4, 3, 1] [6, 1] (by omega) rfl ⟨_, i + 1, B.length + 1, wrap64 (by omega) (by omega), by omega, rfl, by rw [hend]; simp, by rw [hend]; rfl⟩
      · obtain ⟨l, hl⟩ := at_some (xs := s) (i := i + 1) (by omega)
        have hw : IntKind.i64.wrap ((i : Int) + 1) = ((i + 1 : Nat) : Int) := by rw [wrap64] <;> omega
        refine rn rfl ?_
        refine goal_did rfl rfl (dA_index (eQ l) rfl rfl rfl rfl rfl rfl rfl (by rw [hw]; omega) (by rw [hw]; simp; omega) (map_at (by rw [hw]; simpa using hl)) rfl) ?_
        refine rn rfl ?_
        refine goal_cond rfl (fun h4 => ?_) (fun h4 => ?_) <;> (try simp only [gt_iff_lt, ge_iff_le, bne_iff_ne, ne_eq, bne_eq_false_iff_eq, beq_iff_eq, beq_eq_false_iff_ne, Bool.not_eq_true', Bool.not_eq_false', decide_eq_true_eq, decide_eq_false_iff_not, List.length_map] at h4)
        · have e : slashS s i p = [[47]] := by rw [slashS, if_pos (by simp [slashAt, h1, hl, h4])]
          rw [e] at hend
          refine rn rfl ?_
          refine goal_did rfl rfl (dA_append (old := (B).map eS) (rows := ([[47]] : List Str).map eS) (((B) ++ ([[47]] : List Str)).map eS) (B.length + 1) true (Dst.own rfl rfl rfl rfl rfl (by first | (simp; done) | (simp; omega)) (whole (by first | (simp; done) | (simp; omega)))) (Src.os rfl rfl (Nat.le_refl 1) rfl) rfl rfl rfl rfl rfl rfl rfl rfl (rows_len eS_len _) (rows_len eS_len _) (by (try simp only [List.length_map, List.length_append, List.length_cons, List.length_nil, List.length_take, List.length_drop]); show _ * 16 ≤ _; omega) (by first | (simp; done) | (simp; omega)) (by simp) (by first | (simp; done) | (simp; omega)) (fun _ => noOwnR_map _ eS_noOwn _)) ?_
          refine rn rfl ?_
          refine round_keep (s.length - (i + 1)) [4, 3, 1] [6, 1] (by omega) rfl ⟨_, i + 1, B.length + 1, wrap64 (by omega) (by omega), by omega, rfl, by rw [hend]; simp, by rw [hend]; rfl⟩
        · have e : slashS s i p = [] := by rw [slashS, if_neg (by simp [slashAt, h1, hl, h4]; omega)]
          rw [e, List.append_nil] at hend
          refine rn rfl ?_
          refine round_keep (s.length - (i + 1)) [4, 3, 1] [4, 1] (by omega) rfl ⟨_, i + 1, _, wrap64 (by omega) (by omega), by omega, rfl, by rw [hend], by rw [hend]; rfl⟩
    · have e : slashS s i p = [] := by rw [slashS, if_neg (by simp [slashAt, h1])]
      rw [e, List.append_nil] at hend
      refine rn rfl ?_
      refine round_keep (s.length - (i + 1)) [4, 3, 1] [4, 1] (by omega) rfl ⟨_, i + 1, _, wrap64 (by omega) (by omega), by omega, rfl, by rw [hend], by rw [hend]; rfl⟩

  · have hil : i = s.length := by omega
    subst hil
    have e : SgT s = Lib.join (pts s s.length) [44, 32] := rfl
    rw [e]
    generalize pts s s.length = A at *
    refine rn rfl ?_
    refine round_ext ?_
    refine rn rfl ?_
    refine goal_step (step_callE [] rfl rfl rfl rfl rfl rfl (congrArg (fun z => [T.one (C.fs z), T.one (C.str [44, 32])]) (takeAll eS _ _ rfl)) (sjoin_ct A [44, 32] (by omega) (fun x hx => by have := hpt x hx; omega) (by simp))) ?_
    rintro σ2 ⟨r, o', ⟨rfl, rfl⟩, hσ⟩
    obtain rfl := Option.some.inj hσ
    clear hσ
    refine rn rfl ?_
    exact rn rfl (fin_is [] rfl ⟨rfl, rfl⟩)

def cut2 : Str → Str → List Str
  | cur, [] => [cur]
  | cur, [x] => [cur ++ [x]]
  | cur, x :: y :: l => if x = 44 ∧ y = 32 then cur :: cut2 [] l else cut2 (cur ++ [x]) (y :: l)

theorem cut2_nil (cur : Str) : cut2 cur [] = [cur] := by rw [cut2]

theorem cut2_one (cur : Str) (x : UInt8) : cut2 cur [x] = [cur ++ [x]] := by rw [cut2]

theorem cut2_eq (cur l : Str) : cut2 cur (44 :: 32 :: l) = cur :: cut2 [] l := by rw [cut2, if_pos ⟨rfl, rfl⟩]

theorem cut2_ne {x y : UInt8} (h : ¬ (x = 44 ∧ y = 32)) (cur l : Str) : cut2 cur (x :: y :: l) = cut2 (cur ++ [x]) (y :: l) := by rw [cut2, if_neg h]

def hdApp2 (a : Str) : List Str → List Str
  | [] => []
  | h :: t => (a ++ h) :: t

theorem cut2_hd : ∀ (k : Nat) (l cur : Str), l.length ≤ k → cut2 cur l = hdApp2 cur (cut2 [] l)
  | k, [], cur, _ => by simp [cut2_nil, hdApp2]
  | k, [x], cur, _ => by simp [cut2_one, hdApp2]
  | 0, x :: y :: l, cur, h => by simp at h
  | k + 1, x :: y :: l, cur, h => by
    by_cases he : x = 44 ∧ y = 32
    · obtain ⟨rfl, rfl⟩ := he
      rw [cut2_eq, cut2_eq]; simp [hdApp2]
    · have hl : (y :: l).length ≤ k := by simp at h ⊢; omega
      rw [cut2_ne he, cut2_ne he, cut2_hd k _ (cur ++ [x]) hl, cut2_hd k _ ([] ++ [x]) hl]
      cases cut2 [] (y :: l) with
      | nil => rfl
      | cons a t => simp [hdApp2]

theorem pre2 {x y : UInt8} {l : Str} (h : ¬ (x = 44 ∧ y = 32)) : ([44, 32] : Str).isPrefixOf (x :: y :: l) = false := by
  by_cases h1 : x = 44
  · have h2 : ¬ y = 32 := fun h2 => h ⟨h1, h2⟩
    simp [List.isPrefixOf, Ne.symm h2]
  · simp [List.isPrefixOf, Ne.symm h1]

theorem index_skip {b : UInt8} {l : Str} (hp : ([44, 32] : Str).isPrefixOf (b :: l) = false) : Lib.index (b :: l) [44, 32] = if Lib.index l [44, 32] == -1 then -1 else Lib.index l [44, 32] + 1 := by
  rw [Lib.index, hp]; simp

theorem count_skip {b : UInt8} {l : Str} (hp : ([44, 32] : Str).isPrefixOf (b :: l) = false) : Lib.count (b :: l) [44, 32] = Lib.count l [44, 32] := by
  have hi := index_skip hp
  have hge := Lib.index_ge l [44, 32]
  by_cases h : Lib.index l [44, 32] = -1
  · rw [h] at hi
    rw [Lib.count_miss hi, Lib.count_miss h]
  · obtain ⟨i, hi2⟩ : ∃ i : Nat, Lib.index l [44, 32] = i := ⟨(Lib.index l [44, 32]).toNat, by omega⟩
    have hb : (Lib.index l [44, 32] == -1) = false := by simpa using h
    rw [hb, hi2] at hi
    rw [Lib.count_hit (i := i + 1) (by simp) (by rw [hi]; simp), Lib.count_hit (by simp) hi2]
    congr 2

theorem split_skip {b : UInt8} {l : Str} (hp : ([44, 32] : Str).isPrefixOf (b :: l) = false) : Lib.split (b :: l) [44, 32] = hdApp2 [b] (Lib.split l [44, 32]) := by
  unfold Lib.split
  rw [count_skip hp]
  cases hk : Lib.count l [44, 32] with
  | zero => rfl
  | succ k =>
    have hne : ¬ Lib.index l [44, 32] = -1 := fun h0 => by rw [Lib.count_miss h0] at hk; cases hk
    have hge := Lib.index_ge l [44, 32]
    have hb : (Lib.index l [44, 32] == -1) = false := by simpa using hne
    rw [Lib.splitK, Lib.splitK, index_skip hp, hb]
    simp only [Bool.false_eq_true, if_false]
    have h2 : ¬ ((Lib.index l [44, 32] + 1 == -1) = true) := by simp; omega
    rw [if_neg h2]
    simp only [hdApp2]
    have h3 : (Lib.index l [44, 32] + 1).toNat = (Lib.index l [44, 32]).toNat + 1 := by omega
    rw [h3]
    simp [Nat.add_right_comm]

theorem split_cut2 : ∀ (k : Nat) (s : Str), s.length ≤ k → Lib.split s [44, 32] = cut2 [] s
  | k, [], _ => by
    have : Lib.count [] [44, 32] = 0 := Lib.count_miss rfl
    unfold Lib.split
    rw [this, cut2_nil]; rfl
  | k, [x], _ => by
    have hp : ([44, 32] : Str).isPrefixOf [x] = false := by simp [List.isPrefixOf]
    have : Lib.count [] [44, 32] = 0 := Lib.count_miss rfl
    rw [split_skip hp, cut2_one]
    unfold Lib.split
    rw [this]; rfl
  | 0, x :: y :: l, h => by simp at h
  | k + 1, x :: y :: l, h => by
    by_cases he : x = 44 ∧ y = 32
    · obtain ⟨rfl, rfl⟩ := he
      have hi : Lib.index (44 :: 32 :: l) [44, 32] = ((0 : Nat) : Int) := by rw [Lib.index]; simp [List.isPrefixOf]
      have ih := split_cut2 k l (by simp at h; omega)
      unfold Lib.split at ih ⊢
      rw [Lib.count_hit (by simp) hi, Nat.add_comm, Lib.splitK, cut2_eq, ← ih, hi]
      simp
    · have ih := split_cut2 k (y :: l) (by simp at h ⊢; omega)
      rw [split_skip (pre2 he), ih, cut2_ne he, cut2_hd _ _ ([] ++ [x]) (Nat.le_refl _)]
      rfl

theorem cut2_len : ∀ (k : Nat) (l cur : Str), l.length ≤ k → (cut2 cur l).length ≤ l.length + 1 ∧ ∀ p ∈ cut2 cur l, p.length ≤ cur.length + l.length
  | k, [], cur, _ => by simp [cut2_nil]
  | k, [x], cur, _ => by simp [cut2_one]
  | 0, x :: y :: l, cur, h => by simp at h
  | k + 1, x :: y :: l, cur, h => by
    by_cases he : x = 44 ∧ y = 32
    · obtain ⟨rfl, rfl⟩ := he
      rw [cut2_eq]
      obtain ⟨i1, i2⟩ := cut2_len k l [] (by simp at h; omega)
      refine ⟨by simp only [List.length_cons]; omega, fun p hp => ?_⟩
      rcases List.mem_cons.1 hp with rfl | hp
      · omega
      · have := i2 p hp; simp only [List.length_nil, List.length_cons] at *; omega
    · rw [cut2_ne he]
      obtain ⟨i1, i2⟩ := cut2_len k (y :: l) (cur ++ [x]) (by simp at h ⊢; omega)
      refine ⟨by simp at i1 ⊢; omega, fun p hp => ?_⟩
      have := i2 p hp; simp at this ⊢; omega

theorem no_cut2 : ∀ {l cur : Str}, (44 : UInt8) ∉ l → cut2 cur l = [cur ++ l]
  | [], cur, _ => by simp [cut2_nil]
  | [x], cur, _ => by simp [cut2_one]
  | x :: y :: l, cur, h => by
    have hx : ¬ (x = 44 ∧ y = 32) := fun he => h (by simp [he.1])
    rw [cut2_ne hx, no_cut2 (fun hm => h (List.mem_cons_of_mem _ hm))]; simp

theorem cut2_app : ∀ {a cur l : Str}, (44 : UInt8) ∉ a → cut2 cur (a ++ 44 :: 32 :: l) = (cur ++ a) :: cut2 [] l
  | [], cur, l, _ => by rw [List.nil_append, cut2_eq]; simp
  | x :: a, cur, l, h => by
    simp only [List.mem_cons, not_or] at h
    have hx : ∀ y, ¬ (x = 44 ∧ y = (32 : UInt8)) := fun y he => h.1 he.1.symm
    have ih := cut2_app (a := a) (cur := cur ++ [x]) (l := l) h.2
    cases a with
    | nil =>
      rw [List.cons_append, List.nil_append, cut2_ne (hx 44), cut2_eq]
    | cons y a =>
      rw [List.cons_append, List.cons_append, cut2_ne (hx y)]
      rw [List.cons_append] at ih
      rw [ih]; simp

/-- What is joined is cut into the same. -/
theorem cut2_join : ∀ (x : Str) (r : List Str), (44 : UInt8) ∉ x → (∀ p ∈ r, (44 : UInt8) ∉ p) → cut2 [] (Lib.join (x :: r) [44, 32]) = x :: r
  | x, [], hx, _ => by rw [Lib.join_one, no_cut2 hx]; simp
  | x, y :: r, hx, hr => by
    have hj : Lib.join (x :: y :: r) [44, 32] = x ++ 44 :: 32 :: Lib.join (y :: r) [44, 32] := by
      rw [Lib.join_cons, Lib.join_cons]
      simp [Lib.joinTail]
    rw [hj, cut2_app hx, cut2_join y r (hr y (by simp)) (fun p hp => hr p (by simp [hp]))]
    simp

theorem name_no {n : Str} {c : UInt8} (h : okName n = true) (hc : letter c = false) : c ∉ n := fun hm => by
  unfold okName at h
  simp only [Bool.and_eq_true, List.all_eq_true] at h
  have := h.1 c hm
  rw [hc] at this
  cases this

def itoaC (c : UInt8) : Bool := c == 45 || (decide (48 ≤ c) && decide (c ≤ 57))

theorem digit_C : ∀ k, k < 10 → itoaC (UInt8.ofNat (48 + k)) = true := by decide

theorem dec_mem {n : Nat} (h : n ≤ 99) {c : UInt8} (hc : c ∈ Lib.decDigits n) : itoaC c = true := by
  by_cases h1 : n < 10
  · rw [Lib.decDigits_one h1, List.mem_singleton] at hc
    subst hc
    exact digit_C n h1
  · rw [Lib.decDigits_two h1 (by omega)] at hc
    simp only [List.mem_cons, List.not_mem_nil, or_false] at hc
    rcases hc with rfl | rfl
    · exact digit_C _ (by omega)
    · exact digit_C _ (by omega)

theorem itoa_mem {n : Int} (h1 : -99 ≤ n) (h2 : n ≤ 99) {c : UInt8} (hc : c ∈ Lib.itoa n) : itoaC c = true := by
  have hn := itoa_nat n.natAbs
  by_cases h : n < 0
  · have e : Lib.itoa n = [45] ++ Lib.itoa ((n.natAbs : Nat) : Int) := by
      rw [itoa_nat]; unfold Lib.itoa; rw [if_pos h]; rfl
    rw [e, hn] at hc
    simp only [List.singleton_append, List.mem_cons] at hc
    rcases hc with rfl | hc
    · rfl
    · exact dec_mem (by omega) hc
  · rw [show n = ((n.natAbs : Nat) : Int) by omega, hn] at hc
    exact dec_mem (by omega) hc

/-- What a parameter's text holds. -/
theorem prm_no {p : Param} {c : UInt8} (h : okQ p = true) (h1 : letter c = false) (h2 : itoaC c = false) (h3 : c ≠ 42) (h4 : c ≠ 61) : c ∉ prmT p := by
  obtain ⟨k1, _, _, k2, k3, _⟩ := okQ_parts h
  have hn := name_no k1 h1
  have hi : c ∉ Lib.itoa p.dflt := fun hm => by rw [itoa_mem k2 k3 hm] at h2; cases h2
  unfold prmT
  split
  · simp [h3, hn]
  · split
    · simp [h3, hn]
    · split
      · simp [h4, hn, hi]
      · exact hn

theorem pts_no {s : Sig} {c : UInt8} (h : ∀ p ∈ s, okQ p = true) (h1 : letter c = false) (h2 : itoaC c = false) (h3 : c ≠ 42) (h4 : c ≠ 61) (h5 : c ≠ 47) : ∀ i, i ≤ s.length → ∀ t ∈ pts s i, c ∉ t := by
  intro i
  induction i with
  | zero => intro _ t ht; simp [pts] at ht
  | succ i ih =>
    intro hi t ht
    obtain ⟨p, hp⟩ := at_some (xs := s) (i := i) (by omega)
    rw [pts_succ hp, ptAt] at ht
    have hpn := prm_no (h p (List.mem_of_getElem? hp)) h1 h2 h3 h4
    simp only [List.mem_append, List.mem_singleton] at ht
    rcases ht with ht | (ht | ht) | ht
    · exact ih (by omega) t ht
    · unfold starS at ht
      split at ht
      · simp only [List.mem_singleton] at ht; subst ht; simp [h3]
      · cases ht
    · subst ht; exact hpn
    · unfold slashS at ht
      split at ht
      · simp only [List.mem_singleton] at ht; subst ht; simp [h5]
      · cases ht

theorem pts_ne {s : Sig} (h : s ≠ []) : pts s s.length ≠ [] := by
  obtain ⟨p, hp⟩ := at_some (xs := s) (i := s.length - 1) (by have := List.length_pos_iff.2 h; omega)
  have hl := List.length_pos_iff.2 h
  have e := pts_succ hp
  rw [show s.length - 1 + 1 = s.length by omega] at e
  rw [e, ptAt]
  simp

theorem cut_SgT {s : Sig} (hS : OkS s) (h : s ≠ []) : cut2 [] (SgT s) = pts s s.length := by
  have hno := pts_no (c := 44) hS.params (by decide) (by decide) (by decide) (by decide) (by decide) s.length (Nat.le_refl _)
  have hne := pts_ne h
  unfold SgT
  generalize pts s s.length = A at *
  cases A with
  | nil => exact absurd rfl hne
  | cons x r => exact cut2_join x r (hno x (by simp)) (fun p hp => hno p (by simp [hp]))

def okIs (s : Str) (n : Int) : Bool := match Lib.atoiAll s with
  | .ok v => v == n
  | _ => false

theorem okIs_eq {s : Str} {n : Int} (h : okIs s n = true) : Lib.atoiAll s = .ok n := by
  unfold okIs at h
  split at h
  · rename_i v hv
    rw [hv, beq_iff_eq.1 h]
  · cases h

theorem atoi1 : ∀ a, a < 10 → okIs [UInt8.ofNat (48 + a)] (a : Nat) = true ∧ okIs [45, UInt8.ofNat (48 + a)] (-(a : Int)) = true := by decide +kernel

theorem atoi2 : ∀ a, a < 10 → ∀ b, b < 10 → okIs [UInt8.ofNat (48 + a), UInt8.ofNat (48 + b)] ((10 * a + b : Nat) : Int) = true ∧ okIs [45, UInt8.ofNat (48 + a), UInt8.ofNat (48 + b)] (-((10 * a + b : Nat) : Int)) = true := by decide +kernel

theorem itoa_forms {n : Int} (h1 : -99 ≤ n) (h2 : n ≤ 99) : (∃ a : Nat, a < 10 ∧ n = a ∧ Lib.itoa n = [UInt8.ofNat (48 + a)]) ∨ (∃ a : Nat, a < 10 ∧ n = -(a : Int) ∧ Lib.itoa n = [45, UInt8.ofNat (48 + a)]) ∨
    (∃ a b : Nat, 1 ≤ a ∧ a < 10 ∧ b < 10 ∧ n = ((10 * a + b : Nat) : Int) ∧ Lib.itoa n = [UInt8.ofNat (48 + a), UInt8.ofNat (48 + b)]) ∨ (∃ a b : Nat, 1 ≤ a ∧ a < 10 ∧ b < 10 ∧ n = -((10 * a + b : Nat) : Int) ∧ Lib.itoa n = [45, UInt8.ofNat (48 + a), UInt8.ofNat (48 + b)]) := by
  have hn := itoa_nat n.natAbs
  by_cases h : n < 0
  · have e : Lib.itoa n = [45] ++ Lib.itoa ((n.natAbs : Nat) : Int) := by
      rw [itoa_nat]; unfold Lib.itoa; rw [if_pos h]; rfl
    rw [hn] at e
    by_cases h3 : n.natAbs < 10
    · rw [Lib.decDigits_one h3] at e
      exact .inr (.inl ⟨n.natAbs, h3, by omega, e⟩)
    · rw [Lib.decDigits_two h3 (by omega)] at e
      exact .inr (.inr (.inr ⟨n.natAbs / 10, n.natAbs % 10, by omega, by omega, by omega, by omega, e⟩))
  · have e : Lib.itoa n = Lib.decDigits n.natAbs := by rw [← hn]; congr 1; omega
    by_cases h3 : n.natAbs < 10
    · rw [Lib.decDigits_one h3] at e
      exact .inl ⟨n.natAbs, h3, by omega, e⟩
    · rw [Lib.decDigits_two h3 (by omega)] at e
      exact .inr (.inr (.inl ⟨n.natAbs / 10, n.natAbs % 10, by omega, by omega, by omega, by omega, e⟩))

theorem atoi_itoa {n : Int} (h1 : -99 ≤ n) (h2 : n ≤ 99) : Lib.atoiAll (Lib.itoa n) = .ok n := by
  rcases itoa_forms h1 h2 with ⟨a, ha, hn, e⟩ | ⟨a, ha, hn, e⟩ | ⟨a, b, _, ha, hb, hn, e⟩ | ⟨a, b, _, ha, hb, hn, e⟩
  · rw [e, hn]; exact okIs_eq (atoi1 a ha).1
  · rw [e, hn]; exact okIs_eq (atoi1 a ha).2
  · rw [e, hn]; exact okIs_eq (atoi2 a ha b hb).1
  · rw [e, hn]; exact okIs_eq (atoi2 a ha b hb).2

theorem fold1 : ∀ a, a < 10 → foldD 0 [UInt8.ofNat (48 + a)] = some a ∧ sgnAt [UInt8.ofNat (48 + a)] = 0 := by decide +kernel

theorem fold2 : ∀ a, a < 10 → ∀ b, b < 10 → foldD 0 [UInt8.ofNat (48 + a), UInt8.ofNat (48 + b)] = some (10 * a + b) ∧ sgnAt [UInt8.ofNat (48 + a), UInt8.ofNat (48 + b)] = 0 := by decide +kernel

theorem rd_of {s : Str} {n : Nat} {m : Int} (hf : foldD 0 (s.drop (sgnAt s)) = some n) (hg : sgQ s n = m) (hs : s = Lib.itoa m) : RdS s = (m, true) := by
  unfold RdS
  rw [hf]
  simp only
  rw [hg, ← hs]
  simp

theorem rd_itoa {n : Int} (h1 : -99 ≤ n) (h2 : n ≤ 99) : RdS (Lib.itoa n) = (n, true) := by
  have hsg : ∀ l : Str, sgnAt (45 :: l) = 1 := fun l => rfl
  rcases itoa_forms h1 h2 with ⟨a, ha, hn, e⟩ | ⟨a, ha, hn, e⟩ | ⟨a, b, _, ha, hb, hn, e⟩ | ⟨a, b, _, ha, hb, hn, e⟩
  · obtain ⟨f1, f2⟩ := fold1 a ha
    refine rd_of (n := a) ?_ ?_ rfl
    · rw [e, f2]; exact f1
    · rw [e, sgQ, f2, if_neg (by decide), hn]
  · obtain ⟨f1, f2⟩ := fold1 a ha
    refine rd_of (n := a) ?_ ?_ rfl
    · rw [e, hsg]; exact f1
    · rw [e, sgQ, hsg, if_pos rfl, hn]
  · obtain ⟨f1, f2⟩ := fold2 a ha b hb
    refine rd_of (n := 10 * a + b) ?_ ?_ rfl
    · rw [e, f2]; exact f1
    · rw [e, sgQ, f2, if_neg (by decide), hn]
  · obtain ⟨f1, f2⟩ := fold2 a ha b hb
    refine rd_of (n := 10 * a + b) ?_ ?_ rfl
    · rw [e, hsg]; exact f1
    · rw [e, sgQ, hsg, if_pos rfl, hn]

def cutQ (t : Str) : Str × Str × Bool := Lib.cut t [61]

def setK (k : Int) (p : Param) : Param := ⟨p.name, k, p.hasD, p.dflt⟩

def stepP (st : Sig × Int) (t : Str) : Sig × Int :=
  if t = [47] then (st.1.map (setK 0), st.2)
  else if t = [42] then (st.1, 3)
  else if Lib.hasPrefix t [42, 42] = true then (st.1 ++ [⟨t.drop 2, 4, false, 0⟩], st.2)
  else if Lib.hasPrefix t [42] = true then (st.1 ++ [⟨t.drop 1, 2, false, 0⟩], 3)
  else (st.1 ++ [⟨(cutQ t).1, st.2, (cutQ t).2.2, if (cutQ t).2.2 = true then (RdS (cutQ t).2.1).1 else 0⟩], st.2)

def exS (s : Sig) (i : Nat) : Sig := if (s[i]?.map Param.kind) = some 0 then (s.take i).map (setK 1) else s.take i

def kdS (s : Sig) (i : Nat) : Int := if (s.take i).any (fun p => p.kind == 2 || p.kind == 3) = true then 3 else 1

theorem index_no {c : UInt8} : ∀ {a : Str}, c ∉ a → Lib.index a [c] = -1
  | [], _ => rfl
  | x :: a, h => by
    simp only [List.mem_cons, not_or] at h
    have hp : ([c] : Str).isPrefixOf (x :: a) = false := by simp [List.isPrefixOf, h.1]
    rw [Lib.index, hp, index_no h.2]; rfl

theorem index_at {c : UInt8} : ∀ {a b : Str}, c ∉ a → Lib.index (a ++ c :: b) [c] = (a.length : Int)
  | [], b, _ => by rw [List.nil_append, Lib.index]; simp [List.isPrefixOf]
  | x :: a, b, h => by
    simp only [List.mem_cons, not_or] at h
    have hp : ([c] : Str).isPrefixOf (x :: (a ++ c :: b)) = false := by simp [List.isPrefixOf, h.1]
    rw [List.cons_append, Lib.index, hp, index_at h.2]
    have : ¬ ((a.length : Int) == -1) = true := by simp
    rw [if_neg (by simp), if_neg this]
    simp

theorem cutQ_no {a : Str} (h : (61 : UInt8) ∉ a) : cutQ a = (a, [], false) := by
  unfold cutQ Lib.cut
  rw [index_no h]; rfl

theorem cutQ_at {a b : Str} (h : (61 : UInt8) ∉ a) : cutQ (a ++ [61] ++ b) = (a, b, true) := by
  have e : a ++ [61] ++ b = a ++ 61 :: b := by simp
  unfold cutQ Lib.cut
  rw [e, index_at h, if_pos (by omega)]
  simp

theorem name_head {n : Str} (h : okName n = true) : ∃ c r, n = c :: r ∧ letter c = true := by
  have h0 := h
  unfold okName inR at h
  simp only [Bool.and_eq_true, List.all_eq_true, decide_eq_true_eq] at h
  cases n with
  | nil => simp at h
  | cons c r => exact ⟨c, r, rfl, h.1 c (by simp)⟩

theorem step_one {p : Param} (h : okQ p = true) (hs : singleQ p = true) (ps : Sig) (k : Int) : stepP (ps, k) (prmT p) = (ps ++ [setK k p], k) := by
  obtain ⟨k1, _, _, k2, k3, _⟩ := okQ_parts h
  obtain ⟨c, r, hn, hc⟩ := name_head k1
  have hk := single_kind.1 hs
  have h61 : (61 : UInt8) ∉ p.name := name_no k1 (by decide)
  have c47 : ¬ c = 47 := fun h0 => by rw [h0] at hc; revert hc; decide
  have c42 : ¬ c = 42 := fun h0 => by rw [h0] at hc; revert hc; decide
  have hp : ∃ r', prmT p = c :: r' := by
    unfold prmT
    rw [if_neg (by omega), if_neg (by omega), hn]
    split
    · exact ⟨_, rfl⟩
    · exact ⟨_, rfl⟩
  obtain ⟨r', hr⟩ := hp
  unfold stepP
  rw [if_neg (by rw [hr]; simp [c47]), if_neg (by rw [hr]; simp [c42]), if_neg (by rw [hr]; simp [Lib.hasPrefix, List.isPrefixOf, Ne.symm c42]), if_neg (by rw [hr]; simp [Lib.hasPrefix, List.isPrefixOf, Ne.symm c42])]
  unfold prmT setK
  rw [if_neg (by omega), if_neg (by omega)]
  cases hd : p.hasD with
  | true =>
    rw [if_pos rfl, cutQ_at h61]
    simp [rd_itoa k2 k3]
  | false =>
    have h0 : p.dflt = 0 := by
      simp only [okQ, hd, Bool.and_eq_true, Bool.false_or, beq_iff_eq] at h
      exact h.1.2
    rw [if_neg (by simp), cutQ_no h61]
    simp [h0]

theorem step_rest {p : Param} (h : okQ p = true) (hk : p.kind = 2) (ps : Sig) (k : Int) : stepP (ps, k) (prmT p) = (ps ++ [p], 3) := by
  obtain ⟨k1, _, _, k2, k3, _⟩ := okQ_parts h
  obtain ⟨c, r, hn, hc⟩ := name_head k1
  have c42 : ¬ c = 42 := fun h0 => by rw [h0] at hc; revert hc; decide
  have hd : p.hasD = false := by
    have hs : singleQ p = false := by
      cases hs : singleQ p with
      | false => rfl
      | true => have := single_kind.1 hs; omega
    simp only [okQ, hs, Bool.and_eq_true, Bool.false_or, Bool.not_eq_true'] at h
    exact h.2
  have h0 : p.dflt = 0 := by
    simp only [okQ, hd, Bool.and_eq_true, Bool.false_or, beq_iff_eq] at h
    exact h.1.2
  unfold stepP prmT
  rw [if_pos hk, hn]
  have e : p = ⟨c :: r, 2, false, 0⟩ := by rw [← hn, ← hk, ← hd, ← h0]
  rw [if_neg (by simp), if_neg (by simp), if_neg (by simp [Lib.hasPrefix, List.isPrefixOf, Ne.symm c42]), if_pos (by simp [Lib.hasPrefix, List.isPrefixOf]), e]
  simp

theorem step_map {p : Param} (h : okQ p = true) (hk : p.kind = 4) (ps : Sig) (k : Int) : stepP (ps, k) (prmT p) = (ps ++ [p], k) := by
  obtain ⟨k1, _, _, k2, k3, _⟩ := okQ_parts h
  obtain ⟨c, r, hn, hc⟩ := name_head k1
  have hd : p.hasD = false := by
    have hs : singleQ p = false := by
      cases hs : singleQ p with
      | false => rfl
      | true => have := single_kind.1 hs; omega
    simp only [okQ, hs, Bool.and_eq_true, Bool.false_or, Bool.not_eq_true'] at h
    exact h.2
  have h0 : p.dflt = 0 := by
    simp only [okQ, hd, Bool.and_eq_true, Bool.false_or, beq_iff_eq] at h
    exact h.1.2
  have et : prmT p = 42 :: 42 :: c :: r := by unfold prmT; rw [if_neg (by omega), if_pos hk, hn]; rfl
  unfold stepP
  rw [et]
  have e : p = ⟨c :: r, 4, false, 0⟩ := by rw [← hn, ← hk, ← hd, ← h0]
  rw [if_neg (by simp), if_neg (by simp), if_pos (by simp [Lib.hasPrefix, List.isPrefixOf]), e]
  simp

theorem setK_same {p : Param} {k : Int} (h : p.kind = k) : setK k p = p := by subst h; rfl

theorem kdS_succ {s : Sig} {i : Nat} {p : Param} (hp : s[i]? = some p) : kdS s (i + 1) = if p.kind = 2 ∨ p.kind = 3 then 3 else kdS s i := by
  unfold kdS
  rw [← take_snoc hp, List.any_append]
  cases h : (s.take i).any (fun p => p.kind == 2 || p.kind == 3) with
  | true => simp
  | false =>
    by_cases hk : p.kind = 2 ∨ p.kind = 3
    · rw [if_pos hk]; rcases hk with hk | hk <;> simp [hk]
    · rw [if_neg hk]; simp only [not_or] at hk; simp [hk.1, hk.2]

theorem kdS_low {s : Sig} {i : Nat} {p : Param} (hS : OkS s) (hp : s[i]? = some p) (hk : p.kind ≤ 1) : kdS s i = 1 := by
  unfold kdS
  rw [if_neg]
  intro h
  rw [List.any_eq_true] at h
  obtain ⟨q, hq, hqk⟩ := h
  obtain ⟨j, hj⟩ := List.getElem?_of_mem hq
  rw [List.getElem?_take] at hj
  split at hj
  · rename_i hji
    have := hS.sorted (i - j) j q p hj (by rw [show j + (i - j) = i by omega]; exact hp)
    simp only [Bool.or_eq_true, beq_iff_eq] at hqk
    omega
  · cases hj

theorem exS_next {s : Sig} {i : Nat} (h : ∀ q, s[i]? = some q → q.kind ≠ 0) : exS s i = s.take i := by
  unfold exS
  rw [if_neg]
  cases hq : s[i]? with
  | none => simp
  | some q => simp [h q hq]

theorem fold_pts {s : Sig} (hS : OkS s) : ∀ i, i ≤ s.length → (pts s i).foldl stepP ([], 1) = (exS s i, kdS s i)
  | 0, _ => by simp [pts, exS, kdS]
  | i + 1, hi => by
    obtain ⟨p, hp⟩ := at_some (xs := s) (i := i) (by omega)
    have hq := hS.params p (List.mem_of_getElem? hp)
    have hkr := hS.kindRange (List.mem_of_getElem? hp)
    have ih := fold_pts hS i (by omega)
    rw [pts_succ hp, List.foldl_append, ih, ptAt, List.foldl_append, List.foldl_append, List.foldl_cons, List.foldl_nil]
    have hnext : ∀ q, s[i + 1]? = some q → p.kind ≤ q.kind := fun q hq2 => hS.sorted 1 i p q hp hq2
    have hslash : p.kind ≠ 0 → slashS s i p = [] := fun h0 => by rw [slashS, if_neg (by simp [slashAt, h0])]
    have hstar : p.kind ≠ 3 → starS s i p = [] := fun h0 => by rw [starS, if_neg (by simp [starAt, h0])]
    have hex : p.kind ≠ 0 → exS s i = s.take i ∧ exS s (i + 1) = s.take i ++ [p] := fun h0 => by
      refine ⟨exS_next fun q hq2 => ?_, ?_⟩
      · rw [hp] at hq2; cases hq2; exact h0
      · rw [exS_next fun q hq2 => ?_, take_snoc hp]
        have := hnext q hq2; omega
    rw [kdS_succ hp]
    by_cases h0 : p.kind = 0
    · rw [hstar (by omega), List.foldl_nil, step_one hq (single_kind.2 (.inl h0)), kdS_low hS hp (by omega), if_neg (by omega)]
      have e1 : exS s i = (s.take i).map (setK 1) := by unfold exS; rw [hp]; simp [h0]
      have hall : ∀ q ∈ s.take (i + 1), q.kind = 0 := fun q hq2 => by
        obtain ⟨j, hj⟩ := List.getElem?_of_mem hq2
        rw [List.getElem?_take] at hj
        split at hj
        · rename_i hji
          have h1 := hS.sorted (i - j) j q p hj (by rw [show j + (i - j) = i by omega]; exact hp)
          have h2 := (hS.kindRange (List.mem_of_getElem? hj)).1
          omega
        · cases hj
      have e2 : (s.take i).map (setK 1) ++ [setK 1 p] = (s.take (i + 1)).map (setK 1) := by rw [← take_snoc hp]; simp
      rw [e1, e2]
      by_cases hsl : slashAt s i p = true
      · have e3 : slashS s i p = [[47]] := by rw [slashS, if_pos hsl]
        have e4 : exS s (i + 1) = s.take (i + 1) := exS_next fun q hq2 h => by
          simp only [slashAt, h0, hq2, h, Bool.and_eq_true, Bool.or_eq_true, beq_iff_eq] at hsl
          have := lt_of_some hq2
          rcases hsl.2 with h1 | h1
          · omega
          · simp at h1
            exact h1 h
        rw [e3, e4, List.foldl_cons, List.foldl_nil]
        unfold stepP
        rw [if_pos rfl]
        have e5 : ((s.take (i + 1)).map (setK 1)).map (setK 0) = s.take (i + 1) := by
          rw [List.map_map]
          have : (s.take (i + 1)).map (setK 0 ∘ setK 1) = (s.take (i + 1)).map id := List.map_congr_left fun q hq2 => by
            simp only [Function.comp, setK, id]
            have := hall q hq2
            rw [← this]
          rw [this, List.map_id]
        rw [e5]
      · have e3 : slashS s i p = [] := by rw [slashS, if_neg hsl]
        have e4 : exS s (i + 1) = (s.take (i + 1)).map (setK 1) := by
          unfold exS
          rw [if_pos]
          simp only [slashAt, h0, Bool.and_eq_true, Bool.or_eq_true, beq_iff_eq, not_and, not_or] at hsl
          have := (hsl trivial).2
          simpa using this
        rw [e3, e4, List.foldl_nil]
    · obtain ⟨x1, x2⟩ := hex h0
      rw [hslash h0, x1, x2, List.foldl_nil]
      by_cases h1 : p.kind = 1
      · rw [hstar (by omega), List.foldl_nil, step_one hq (single_kind.2 (.inr (.inl h1))), kdS_low hS hp (by omega), if_neg (by omega), setK_same h1]
      · by_cases h2 : p.kind = 2
        · rw [hstar (by omega), List.foldl_nil, step_rest hq h2, if_pos (.inl h2)]
        · by_cases h3 : p.kind = 3
          · rw [if_pos (.inr h3)]
            by_cases hst : starAt s i p = true
            · rw [starS, if_pos hst, List.foldl_cons, List.foldl_nil]
              have : stepP (s.take i, kdS s i) [42] = (s.take i, 3) := by unfold stepP; rw [if_neg (by decide), if_pos rfl]
              rw [this, step_one hq (single_kind.2 (.inr (.inr h3))), setK_same h3]
            · rw [starS, if_neg hst, List.foldl_nil]
              have hk : kdS s i = 3 := by
                unfold kdS
                rw [if_pos]
                rw [List.any_eq_true]
                simp only [starAt, h3, Bool.and_eq_true, Bool.or_eq_true, Bool.not_eq_true', beq_iff_eq, not_and, not_or] at hst
                by_cases hany : s.any (kIs 2) = true
                · obtain ⟨q, hqm, hqk⟩ := List.any_eq_true.1 hany
                  obtain ⟨j, hj⟩ := List.getElem?_of_mem hqm
                  have hqk2 : q.kind = 2 := by simpa [kIs] using hqk
                  have hji : j < i := by
                    by_cases hji : j < i
                    · exact hji
                    · have := hS.sorted (j - i) i p q hp (by rw [show i + (j - i) = j by omega]; exact hj)
                      omega
                  refine ⟨q, ?_, by simp [hqk2]⟩
                  exact List.mem_of_getElem? (i := j) (by rw [List.getElem?_take, if_pos hji]; exact hj)
                · have h5 := hst trivial (by simpa using hany)
                  have hi0 : ¬ i = 0 := h5.1
                  obtain ⟨l, hl⟩ := at_some (xs := s) (i := i - 1) (by omega)
                  have h6 := h5.2
                  rw [hl] at h6
                  refine ⟨l, List.mem_of_getElem? (i := i - 1) (by rw [List.getElem?_take, if_pos (by omega)]; exact hl), ?_⟩
                  simp at h6
                  simp [h6]
              rw [hk, step_one hq (single_kind.2 (.inr (.inr h3))), setK_same h3]
          · have h4 : p.kind = 4 := by omega
            rw [hstar h3, List.foldl_nil, step_map hq h4, if_neg (by omega)]

theorem fold_all {s : Sig} (hS : OkS s) : ((pts s s.length).foldl stepP ([], 1)).1 = s := by
  rw [fold_pts hS s.length (Nat.le_refl _), exS_next (fun q hq => by simp at hq), List.take_length]

def foldS (t : Str) : Sig := ((cut2 [] t).foldl stepP ([], 1)).1

def isS (t : Str) : Bool := okSig (foldS t) && (SgT (foldS t) == t)

def ParS (t : Str) : Sig × Bool := if t = [] then ([], true) else if isS t = true then (foldS t, true) else ([], false)

theorem SgT_nil : SgT [] = [] := rfl

theorem isS_of {s : Sig} {t : Str} (hS : OkS s) (h : SgT s = t) (h0 : t ≠ []) : isS t = true ∧ foldS t = s ∧ cut2 [] t = pts s s.length := by
  have hne : s ≠ [] := fun h1 => by subst h1; exact h0 (h.symm.trans SgT_nil)
  have hc := cut_SgT hS hne
  rw [h] at hc
  have hf : foldS t = s := by unfold foldS; rw [hc]; exact fold_all hS
  refine ⟨?_, hf, hc⟩
  unfold isS
  rw [hf, h, okSig_iff.2 hS]
  simp

theorem isS_is {t : Str} (h : isS t = true) : OkS (foldS t) ∧ SgT (foldS t) = t := by
  unfold isS at h
  simp only [Bool.and_eq_true, beq_iff_eq] at h
  exact ⟨okSig_iff.1 h.1, h.2⟩

theorem ParS_of {s : Sig} (h : okSig s = true) : ParS (SgF s) = (s, true) := by
  have hS := okSig_iff.1 h
  have e : SgF s = SgT s := by unfold SgF; rw [if_pos h]
  rw [e]
  unfold ParS
  by_cases h0 : s = []
  · subst h0; rw [if_pos SgT_nil]
  · have hne : SgT s ≠ [] := fun h1 => by
      have := cut_SgT hS h0
      rw [h1, cut2_nil] at this
      have h2 := fold_all hS
      rw [← this] at h2
      have h3 := hS.params
      rw [← h2] at h3
      have e0 : ([[]] : List Str).foldl stepP ([], 1) = ([⟨[], 1, false, 0⟩], 1) := rfl
      rw [e0] at h3
      have h4 := (okQ_parts (h3 _ (List.mem_singleton.2 rfl))).1
      revert h4
      decide
    obtain ⟨a1, a2, _⟩ := isS_of hS rfl hne
    rw [if_neg hne, if_pos a1, a2]

theorem pts_mem {s : Sig} : ∀ i, i ≤ s.length → ∀ t ∈ pts s i, t = [47] ∨ t = [42] ∨ ∃ p ∈ s, t = prmT p := by
  intro i
  induction i with
  | zero => intro _ t ht; simp [pts] at ht
  | succ i ih =>
    intro hi t ht
    obtain ⟨p, hp⟩ := at_some (xs := s) (i := i) (by omega)
    rw [pts_succ hp, ptAt] at ht
    simp only [List.mem_append, List.mem_singleton] at ht
    rcases ht with ht | (ht | ht) | ht
    · exact ih (by omega) t ht
    · unfold starS at ht
      split at ht
      · simp only [List.mem_singleton] at ht; exact .inr (.inl ht)
      · cases ht
    · exact .inr (.inr ⟨p, List.mem_of_getElem? hp, ht⟩)
    · unfold slashS at ht
      split at ht
      · simp only [List.mem_singleton] at ht; exact .inl ht
      · cases ht

theorem prmT_rest {p : Param} (hk : p.kind = 2) : prmT p = 42 :: p.name := by unfold prmT; rw [if_pos hk]; rfl

theorem prmT_map {p : Param} (hk : p.kind = 4) : prmT p = 42 :: 42 :: p.name := by unfold prmT; rw [if_neg (by omega), if_pos hk]; rfl

theorem kind_forms {p : Param} (h : okQ p = true) : singleQ p = true ∨ p.kind = 2 ∨ p.kind = 4 := by
  obtain ⟨_, k0, k4, _⟩ := okQ_parts h
  by_cases h2 : p.kind = 2
  · exact .inr (.inl h2)
  · by_cases h4 : p.kind = 4
    · exact .inr (.inr h4)
    · exact .inl (single_kind.2 (by omega))

/-- What a part can be. -/
theorem part_forms {t : Str} (h : isS t = true) (h0 : t ≠ []) {x : Str} (hx : x ∈ cut2 [] t) : x = [47] ∨ x = [42] ∨ ∃ p, okQ p = true ∧ x = prmT p := by
  obtain ⟨a1, a2⟩ := isS_is h
  rw [(isS_of a1 a2 h0).2.2] at hx
  rcases pts_mem _ (Nat.le_refl _) x hx with h1 | h1 | ⟨p, hp, h1⟩
  · exact .inl h1
  · exact .inr (.inl h1)
  · exact .inr (.inr ⟨p, a1.params p hp, h1⟩)

theorem part_num {t : Str} (h : isS t = true) (h0 : t ≠ []) {x : Str} (hx : x ∈ cut2 [] t) (h1 : x ≠ [47]) (h2 : Lib.hasPrefix x [42] = false) (hc : (cutQ x).2.2 = true) : ∃ d : Int, -99 ≤ d ∧ d ≤ 99 ∧ (cutQ x).2.1 = Lib.itoa d := by
  rcases part_forms h h0 hx with rfl | rfl | ⟨p, hp, rfl⟩
  · exact absurd rfl h1
  · exact absurd h2 (by decide)
  · obtain ⟨k1, _, _, k2, k3, _⟩ := okQ_parts hp
    have h61 : (61 : UInt8) ∉ p.name := name_no k1 (by decide)
    rcases kind_forms hp with hs | hk | hk
    · have hk := single_kind.1 hs
      unfold prmT at hc ⊢
      rw [if_neg (by omega), if_neg (by omega)] at hc ⊢
      cases hd : p.hasD with
      | true => rw [if_pos rfl, cutQ_at h61]; exact ⟨p.dflt, k2, k3, rfl⟩
      | false => rw [hd, if_neg (by simp), cutQ_no h61] at hc; cases hc
    · rw [prmT_rest hk] at h2
      simp [Lib.hasPrefix, List.isPrefixOf] at h2
    · rw [prmT_map hk] at h2
      simp [Lib.hasPrefix, List.isPrefixOf] at h2

theorem pre_take {x : Str} : ∀ {p : Str}, Lib.hasPrefix x p = true → p.length ≤ x.length ∧ x.take p.length = p := fun {p} h => by
  unfold Lib.hasPrefix at h
  have := List.isPrefixOf_iff_prefix.1 h
  exact ⟨this.length_le, (List.prefix_iff_eq_take.1 this).symm⟩

theorem cutQ_len (x : Str) : (cutQ x).1.length ≤ x.length ∧ (cutQ x).2.1.length ≤ x.length := by
  unfold cutQ Lib.cut
  split
  · simp; omega
  · simp

theorem stepP_map {x : Str} (h1 : ¬ x = [47]) (h2 : ¬ x = [42]) (h3 : Lib.hasPrefix x [42, 42] = true) (ps : Sig) (k : Int) : stepP (ps, k) x = (ps ++ [⟨x.drop 2, 4, false, 0⟩], k) := by
  unfold stepP; rw [if_neg h1, if_neg h2, if_pos h3]

theorem stepP_rest {x : Str} (h1 : ¬ x = [47]) (h2 : ¬ x = [42]) (h3 : ¬ Lib.hasPrefix x [42, 42] = true) (h4 : Lib.hasPrefix x [42] = true) (ps : Sig) (k : Int) : stepP (ps, k) x = (ps ++ [⟨x.drop 1, 2, false, 0⟩], 3) := by
  unfold stepP; rw [if_neg h1, if_neg h2, if_neg h3, if_pos h4]

theorem stepP_else {x : Str} (h1 : ¬ x = [47]) (h2 : ¬ x = [42]) (h3 : ¬ Lib.hasPrefix x [42, 42] = true) (h4 : ¬ Lib.hasPrefix x [42] = true) (ps : Sig) (k : Int) : stepP (ps, k) x = (ps ++ [⟨(cutQ x).1, k, (cutQ x).2.2, if (cutQ x).2.2 = true then (RdS (cutQ x).2.1).1 else 0⟩], k) := by
  unfold stepP; rw [if_neg h1, if_neg h2, if_neg h3, if_neg h4]

theorem ParS_not {t : Str} (h0 : t ≠ []) (h : isS t ≠ true) : ParS t = ([], false) := by unfold ParS; rw [if_neg h0, if_neg h]

theorem ParS_yes {t : Str} (h0 : t ≠ []) (h : isS t = true) : ParS t = (foldS t, true) := by unfold ParS; rw [if_neg h0, if_pos h]

/-- What is valid and has the text is what the fold gives. -/
theorem isS_end {t : Str} {ps : Sig} (h0 : t ≠ []) (hS : okSig ps = true) (h : SgF ps = t) : isS t = true ∧ foldS t = ps := by
  unfold SgF at h
  rw [if_pos hS] at h
  obtain ⟨a, b, _⟩ := isS_of (okSig_iff.1 hS) h h0
  exact ⟨a, b⟩

/-- What the fold gives is valid and has the text. -/
theorem isS_fold {t : Str} {ps : Sig} (h : isS t = true) (hf : foldS t = ps) : okSig ps = true ∧ SgF ps = t := by
  obtain ⟨a, b⟩ := isS_is h
  rw [hf] at a b
  refine ⟨okSig_iff.2 a, ?_⟩
  unfold SgF
  rw [if_pos (okSig_iff.2 a)]; exact b

section
open Go Go.RowKit
theorem below_drew {w : World} (k : Nat) : Below w.heap.size w (w.drewN k) := ⟨rfl, rfl, rfl, by simp [World.drewN], fun i hi => by simp only [World.drewN]⟩

theorem cut_ct (s sep : Str) (hs : s.length ≤ 1073741824) : ACalls pk 23 [.one (.str s), .one (.str sep)] [] (fun r o => r = .tup [.one (.str (Lib.cut s sep).1), .one (.str (Lib.cut s sep).2.1), .one (.bool (Lib.cut s sep).2.2)] ∧ o = []) := by
  refine acalls_plain ⟨_, Tryz.func23, rfl, by kernel_rfl⟩ fun D w vals hG hT => ?_
  simp only [TRs, TR, CR] at hT
  obtain ⟨x, r, rfl, rfl, y, r', rfl, rfl, rfl⟩ := hT
  obtain ⟨m, hm⟩ := glob_int hG
  refine (Go.Proofs.Any.strings_Cut lays_n145 ⟨s.toArray⟩ ⟨sep.toArray⟩ m w (by simp [ByteArray.size]; omega) hm).mono ?_
  rintro en w' ⟨rfl, k, rfl⟩
  refine ⟨_, _, rfl, below_drew k, rfl, ?_⟩
  simp only [TR, TRs, CR]
  exact ⟨_, rfl, _, _, rfl, rfl, _, _, rfl, rfl, _, _, rfl, rfl, rfl⟩

theorem hasPrefix_ct (s p : Str) : ACalls pk 26 [.one (.str s), .one (.str p)] [] (fun r o => r = .one (.bool (Lib.hasPrefix s p)) ∧ o = []) := by
  refine acalls_plain ⟨_, Tryz.func26, rfl, by kernel_rfl⟩ fun D w vals hG hT => ?_
  simp only [TRs, TR, CR] at hT
  obtain ⟨x, r, rfl, rfl, y, r', rfl, rfl, rfl⟩ := hT
  refine (Go.Proofs.Any.strings_HasPrefix lays_n99 ⟨s.toArray⟩ ⟨p.toArray⟩ w).mono ?_
  rintro en w' ⟨rfl, rfl⟩
  exact ⟨_, _, rfl, Below.refl _ _, rfl, by simp only [TR, CR]⟩
end

structure Slot where
  given : Bool
  list : List Int
  pairs : List Pair
deriving DecidableEq

abbrev Bnds := List Slot

variable {N np : Nat} {σ : State}

theorem single_four {p : Param} (h : p.kind = 4) : singleQ p = false := by
  cases hz : singleQ p with
  | false => rfl
  | true => rw [single_kind] at hz; omega

/-- What the map has got. -/
def MapHas (s : Sig) (b : Bnds) (ps : List Pair) : Prop := ∀ (i : Nat) (p : Param) (x : Slot), s[i]? = some p → b[i]? = some x → p.kind = 4 → x.pairs = ps

theorem MapHas.set {s : Sig} {b : Bnds} {ps : List Pair} (h : MapHas s b ps) {i : Nat} {p : Param} {y : Slot} (hp : s[i]? = some p) (hk : p.kind ≠ 4) : MapHas s (b.set i y) ps := by
  intro j q x hq hx hqk
  rw [List.getElem?_set] at hx
  by_cases hij : i = j
  · subst hij; rw [hp] at hq; cases hq; exact absurd hqk hk
  · rw [if_neg hij] at hx; exact h j q x hq hx hqk

theorem MapHas.put {s : Sig} (hs : OkS s) {b : Bnds} {ps : List Pair} {i : Nat} {p : Param} {y : Slot} (hp : s[i]? = some p) (hk : p.kind = 4) (hy : y.pairs = ps) : MapHas s (b.set i y) ps := by
  intro j q x hq hx hqk
  have hij : i = j := hs.one hp hq (by omega) (single_four hqk)
  subst hij
  rw [List.getElem?_set] at hx
  split at hx
  · split at hx
    · cases hx; exact hy
    · cases hx
  · rename_i h0; exact absurd rfl h0

structure LenF (f : Flat) : Prop where
  places : f.places.length ≤ 1048576
  named : f.named.length ≤ 1048576
  names : ∀ p ∈ f.named, p.name.length ≤ 9223372036854775807

theorem OkF.len {f : Flat} (h : OkF f) : LenF f := ⟨by have := h.places; omega, by have := h.named; omega, fun p hp => by
  have := h.pairs p hp
  simp only [okPair, okName, inR, Bool.and_eq_true, decide_eq_true_eq] at this
  omega⟩

def overN (ps qs : List Pair) : List Pair := qs.foldl (fun ps p => putP ps p.name p.value) ps

def overQ (f g : Flat) : Flat := ⟨f.places ++ g.places, overN f.named g.named⟩

theorem overN_len : ∀ (qs ps : List Pair), (overN ps qs).length ≤ ps.length + qs.length
  | [], ps => by simp [overN]
  | q :: qs, ps => by
    have h1 := overN_len qs (putP ps q.name q.value)
    have h2 := putP_length ps q.name q.value
    simp only [overN, List.foldl_cons, List.length_cons] at h1 ⊢
    omega

theorem overN_mem : ∀ {qs ps : List Pair} {p : Pair}, p ∈ overN ps qs → (∃ q ∈ ps, p.name = q.name) ∨ ∃ q ∈ qs, p.name = q.name
  | [], ps, p, h => .inl ⟨p, h, rfl⟩
  | q :: qs, ps, p, h => by
    rcases overN_mem (qs := qs) (ps := putP ps q.name q.value) h with ⟨r, hr, hn⟩ | ⟨r, hr, hn⟩
    · rcases putP_mem hr with h1 | ⟨r', hr', h1⟩
      · exact .inr ⟨q, by simp, by rw [hn, h1]⟩
      · exact .inl ⟨r', hr', by rw [hn, h1]⟩
    · exact .inr ⟨r, by simp [hr], hn⟩

theorem LenF.over {f g : Flat} (hf : LenF f) (hg : LenF g) : (overQ f g).places.length ≤ 16777216 ∧ (overQ f g).named.length ≤ 16777216 ∧ ∀ p ∈ (overQ f g).named, p.name.length ≤ 9223372036854775807 := by
  refine ⟨by have := hf.places; have := hg.places; simp [overQ]; omega, by have h := overN_len g.named f.named; have := hf.named; have := hg.named; simp only [overQ]; omega, fun p hp => ?_⟩
  rcases overN_mem hp with ⟨q, hq, hn⟩ | ⟨q, hq, hn⟩
  · rw [hn]; exact hf.names q hq
  · rw [hn]; exact hg.names q hq

/-- All of the memory, zs data. -/
def allD (w : World) (b : Nat) : Prop := b < w.heap.size

/-- A value of type 't' that can be read is some 'a', its cells told by 'enc'. -/
def Opens (P : Program) (t : TypeId) {α : Type} (enc : α → List C) (ok : α → Prop) : Prop :=
  ∀ (H : Type) (en : TypeId × Value → H) (w : World) (fuel : Nat) (cs : List Value) (x : DataW H × List MemPlace), DataW.trod en P w 0 (fun _ => true) true fuel t cs = some x →
    ∃ a : α, ok a ∧ CRp (allD w) w.heap [] (enc a) cs ∧ cs.length = (enc a).length

theorem opens_slice {P : Program} {t e : TypeId} {α : Type} {enc : α → List C} {ok : α → Prop} {sz : Nat} (ht : P.underlying t = some (.slice e)) (hc : P.cellsOf e = sz) (h0 : 0 < sz) (hl : ∀ a, (enc a).length = sz) (he : Opens P e enc ok) :
    Opens P t (fun xs : List α => [.fs (xs.map enc)]) (fun xs => xs.length ≤ 9223372036854775807 ∧ ∀ x ∈ xs, ok x) := by
  intro H en w fuel cs x h
  rcases DataW.trod_slice ht h with ⟨rfl, _⟩ | ⟨a, len, cap, elems, rest, n, _, rfl, _, _, hlc, hm, hlen, hel, _, _⟩
  · refine ⟨[], by simp, ?_, rfl⟩
    simp only [CRp, CR, List.map_nil, List.length_nil, and_true]
    exact ⟨none, 0, rfl, Nat.le_refl _, .inl trivial⟩
  · have each : ∀ i, i < len → ∃ cs' : List Value, w.cells? 0 (a.add (i * sz)) sz = some cs' ∧ ∃ b : α, ok b ∧ CRp (allD w) w.heap [] (enc b) cs' ∧ cs'.length = (enc b).length := by
      intro i hi
      have := hel i hi
      rw [hc] at this
      obtain ⟨y, hy⟩ : ∃ y, elems[i]? = some y := ⟨elems[i], by simp [hlen, hi]⟩
      rw [hy, Option.bind_eq_some_iff] at this
      obtain ⟨cs', h1, h2⟩ := this
      obtain ⟨b, hb⟩ := he H en w n cs' y h2
      exact ⟨cs', h1, b, hb⟩
    have hxs : ∀ k, k ≤ len → ∃ xs : List α, xs.length = k ∧ (∀ x ∈ xs, ok x) ∧ ∀ (i : Nat) (b : α), xs[i]? = some b → ∃ cs', w.cells? 0 (a.add (i * sz)) sz = some cs' ∧ CRp (allD w) w.heap [] (enc b) cs' := by
      intro k
      induction k with
      | zero => intro _; exact ⟨[], rfl, by simp, by simp⟩
      | succ k ih =>
        intro hk
        obtain ⟨xs, q1, q2, q3⟩ := ih (by omega)
        obtain ⟨cs', h1, b, hb1, hb2, _⟩ := each k (by omega)
        refine ⟨xs ++ [b], by simp [q1], ?_, ?_⟩
        · intro x hx
          rcases List.mem_append.1 hx with hx | hx
          · exact q2 x hx
          · simp at hx; subst hx; exact hb1
        · intro i b' hi
          rw [getElem?_app_one] at hi
          split at hi
          · exact q3 i b' hi
          · split at hi
            · rename_i heq
              simp at hi
              subst hi
              rw [heq, q1]
              exact ⟨cs', h1, hb2⟩
            · cases hi
    obtain ⟨xs, q1, q2, q3⟩ := hxs len (Nat.le_refl _)
    refine ⟨xs, ⟨?_, q2⟩, ?_, rfl⟩
    · rw [q1]; exact Nat.le_trans (Nat.le_trans hlc hm) (by decide)
    · simp only [CRp, CR, and_true]
      refine ⟨some a, cap, by simp [q1], by simpa [q1] using hlc, ?_⟩
      rcases Nat.eq_zero_or_pos len with hz | hz
      · left
        have : xs = [] := List.eq_nil_of_length_eq_zero (by omega)
        simp [this]
      · right
        obtain ⟨b0, hb0⟩ : ∃ b, xs[0]? = some b := ⟨xs[0], by simp [q1, hz]⟩
        obtain ⟨cs0, hc0, _⟩ := q3 0 b0 hb0
        have hcell0 := (World.cells?_some hc0).2.2 0 (by omega)
        have hl0 := (World.cells?_some hc0).1
        -- where the row lies
        obtain ⟨cells, tt, fr, hh, hs⟩ : ∃ cells tt fr, w.heap[a.block]? = some (.cells cells tt fr) ∧ a.spot = none := by
          have hv : ∃ v, w.cell? a = some v := by
            have h2 : a.add (0 * sz) = a := by simp [Addr.add]
            rw [h2] at hcell0
            have h3 : a.add 0 = a := by simp [Addr.add]
            rw [h3] at hcell0
            have : cs0[0]? ≠ none := by
              have h4 : cs0.length = sz := by
                have := World.cells?_some hc0
                first | exact this.1 | exact this.2.1
              rw [List.getElem?_eq_getElem (by omega)]; simp
            exact ⟨cs0[0]?.get (by cases hx : cs0[0]? with | none => exact absurd hx this | some v => rfl), by rw [hcell0]; simp⟩
          obtain ⟨v, hv⟩ := hv
          unfold World.cell? at hv
          split at hv
          · rename_i cells tt fr hh
            split at hv
            · cases hv
            · rename_i hsp
              exact ⟨cells, tt, fr, hh, by cases hq : a.spot with | none => rfl | some _ => rw [hq] at hsp; simp at hsp⟩
          · cases hv
        refine ⟨a, cells, tt, fr, sz, rfl, hs, (Array.getElem?_eq_some_iff.1 hh).1, hh, ?_⟩
        rw [CRr_iff]
        intro i r hi
        rw [List.getElem?_map] at hi
        cases hxi : xs[i]? with
        | none => rw [hxi] at hi; simp at hi
        | some b =>
          rw [hxi] at hi
          simp at hi
          subst hi
          obtain ⟨cs', hc', hr'⟩ := q3 i b hxi
          refine ⟨hl b, CRp.congr (fun j hj => ?_) hr'⟩
          rw [hl b] at hj
          have := (World.cells?_some hc').2.2 j hj
          rw [← this]
          have ha : (a.add (i * sz)).add j = ⟨a.block, a.off + i * sz + j, none⟩ := by rw [add_eq a _ hs, add_eq _ _ rfl]
          rw [ha, List.getElem?_drop]
          simp [World.cell?, hh, Nat.add_assoc]

section
open Go Go.ChangeShapes Go.WideShapes Go.ChangeAt Go.RowKit
theorem TIok.cellsOf {P : Program} {t : Nat} {ti : TI} (H : TIok P t ti) : P.cellsOf t = ti.size := by
  obtain ⟨i, z, hi, hs, _⟩ := H.info
  simp [Program.cellsOf, hi, hs]

section

variable {X : Pk} {t : Nat} {ti te : TI}

theorem xo_slice {α : Type} {enc : α → List C} {ok : α → Prop} (h : findTI X.L t = some ti) (hk : ti.kind = 2) (he : findTI X.L ti.elem = some te) (h0 : Nat.blt 0 te.size = true) (hl : ∀ a, (enc a).length = te.size) (hE : Opens X.P ti.elem enc ok) :
    Opens X.P t (fun xs : List α => [.fs (xs.map enc)]) (fun xs => xs.length ≤ 9223372036854775807 ∧ ∀ x ∈ xs, ok x) :=
  opens_slice ((X.tiok h).slice hk) (X.tiok he).cellsOf (by simpa [Nat.blt_eq] using h0) hl hE

end

theorem Opens.map {P : Program} {t : TypeId} {α β : Type} {enc : α → List C} {ok : α → Prop} {enc' : β → List C} {ok' : β → Prop} (h : Opens P t enc ok) (g : α → β) (he : ∀ a, enc' (g a) = enc a) (ho : ∀ a, ok a → ok' (g a)) : Opens P t enc' ok' := by
  intro H en w fuel cs x hx
  obtain ⟨a, h1, h2, h3⟩ := h H en w fuel cs x hx
  exact ⟨g a, ho a h1, by rw [he]; exact h2, by rw [he]; exact h3⟩

/-- A law's contract, zs a call from any memory. -/
theorem law_calls {X : Pk} {f : FuncId} {args : List T} {vals : Array Value} {w : World} (h : ACalls X f args [] (fun r o => r = .one (.bool true) ∧ o = [])) (hgl : GlobOk w []) (ha : TRs (allD w) w.heap [] args vals.toList) :
    Calls X.P f vals w fun e w' => e = .returned (.bool true) ∧ Below w.heap.size w w' := by
  have hsr : SR (allD w) w.heap [] [] := ⟨rfl, by simp, by simp, by simp, fun b hb => hb⟩
  refine (h.2 (allD w) [] w vals.toList hgl hsr ha (by simp)).mono ?_
  rintro en w' ⟨v, r, o', D', e', rfl, ⟨rfl, rfl⟩, htr, _, hext, _⟩
  simp only [TR, CR] at htr
  subst htr
  refine ⟨rfl, hext.os, hext.tape, hext.output, hext.size, fun k hk => hext.block k hk ?_⟩
  rintro ⟨id, a, esz, cap, n, he, _⟩
  simp at he
end

section
open Go Go.ChangeShapes
theorem cells_of_okWide {P : Program} {W : World} {r : Reach} {base : Nat} {t : TypeId} {v : Value} (hu : (∃ e, P.underlying t = some (.slice e)) ∨ (∃ k, P.underlying t = some (.int k)) ∨ P.underlying t = some .string)
    (h : Value.okWide P W r base t v) : v.cells.toList = [v] := by
  rcases hu with ⟨e, hu⟩ | ⟨k, hu⟩ | hu <;> cases v <;> first
    | rfl
    | (exfalso; simp [Value.okWide, hu, Cell.okWide, Cell.ok] at h)

theorem opens_u8 {P : Program} {t : TypeId} (ht : P.underlying t = some (.int .u8)) : Opens P t (fun b : UInt8 => [.int .u8 b.toNat]) (fun _ => True) := by
  intro H en w fuel cs x h
  obtain ⟨n, rfl, _, hw⟩ := DataW.trod_int ht h
  have hr : 0 ≤ n ∧ n < 256 := by
    simp [Lit.wf, IntKind.min, IntKind.max, IntKind.bits, IntKind.signed] at hw
    omega
  refine ⟨UInt8.ofNat n.toNat, trivial, ?_, rfl⟩
  simp only [CRp, CR, and_true]
  congr 1
  rw [UInt8.toNat_ofNat']
  omega

theorem xo_u8 {X : Pk} {t : Nat} {ti : TI} (h : findTI X.L t = some ti) (hk : ti.kind = 4) (hik : ti.ik = .u8) : Opens X.P t (fun b : UInt8 => [.int .u8 b.toNat]) (fun _ => True) := by
  have := (X.tiok h).int hk
  rw [hik] at this
  exact opens_u8 this

theorem openBytes : Opens pk.P 22 (fun bs : Str => [.fs (bs.map rowB)]) (fun bs => bs.length ≤ 9223372036854775807) :=
  Opens.map (xo_slice (enc := rowB) rfl rfl rfl rfl (fun _ => rfl) (xo_u8 rfl rfl rfl)) (fun x => x) (fun _ => rfl) (fun _ h => h.1)
end

def rG (s : Sig) : T := .agg [.os 0 0 s.length s.length]

def oG (s : Sig) : List (Option AObj) := [ownQ s]

theorem asG (s : Sig) : T.agg [C.fs (List.take s.length (List.drop 0 (s.map eQ)))] = T.agg (eG s) := by
  rw [takeAll eQ _ _ rfl]; rfl

theorem map_step {α : Type} {f : α → α} {xs : List α} {j : Nat} {y : α} (h : xs[j]? = some y) : ((xs.take j).map f ++ xs.drop j)[j]? = some y ∧ ((xs.take j).map f ++ xs.drop j).set j (f y) = (xs.take (j + 1)).map f ++ xs.drop (j + 1) := by
  have hl : ((xs.take j).map f).length = j := by have := lt_of_some h; simp; omega
  rw [drop_at h, ← take_snoc h]
  constructor
  · rw [List.getElem?_append_right (by omega), hl, Nat.sub_self]; rfl
  · rw [List.set_append_right _ _ (by omega), hl, Nat.sub_self]; simp

theorem iParseSig_ct (t : Str) (hl : t.length ≤ 1048576) : ACalls pk 11 [.one (.str t)] [] (fun r o => r = .tup [rG (ParS t).1, .one (.bool (ParS t).2)] ∧ o = oG (ParS t).1) := by
  refine acalls_of_body Tryz.func11 rfl (by kernel_rfl) rfl ?_
  refine rn rfl ?_
  cases h0 : (t == []) with
  | true =>
    have ht : t = [] := by simpa using h0
    have e : ParS t = ([], true) := by unfold ParS; rw [if_pos ht]
    rw [e]
    refine goal_cond rfl (fun _ => ?_) (fun h => by simp at h)
    refine rn rfl ?_
    refine fin_weak (Weak.adoptO 0 0 4) (fin_is [1] rfl ⟨rfl, rfl⟩)
  | false =>
    have ht : ¬ t = [] := by simpa using h0
    refine goal_cond rfl (fun h => by cases h) (fun _ => ?_)
    refine rn rfl ?_
    refine goal_step (step_call [] rfl rfl rfl rfl rfl rfl (split_ct t [44, 32] (by omega) (by simp))) ?_
    rintro σ2 ⟨r, o', ⟨rfl, rfl⟩, hσ⟩
    obtain rfl := Option.some.inj hσ
    clear hσ
    refine rn rfl ?_
    refine goal_weakCod (Weak.adoptO 1 0 4) ?_
    have hparts : Lib.split t [44, 32] = cut2 [] t := split_cut2 _ t (Nat.le_refl _)
    obtain ⟨hpl, hpt⟩ := cut2_len _ t [] (Nat.le_refl _)
    have hV : isS t = true → ∀ x ∈ cut2 [] t, x ∈ pts (foldS t) (foldS t).length := fun h x hx => by
      obtain ⟨a1, a2⟩ := isS_is h
      rw [← (isS_of a1 a2 ht).2.2]; exact hx
    rw [hparts]
    have hfold : foldS t = ((cut2 [] t).foldl stepP ([], 1)).1 := rfl
    generalize hA : cut2 [] t = A at *
    refine goal_loop_keep (fun m σ => ∃ (n L k : Int) (i l : Nat) (ps : Sig), n = i ∧ L = A.length ∧ i ≤ A.length ∧ m = A.length - i ∧ l = ps.length ∧ ps.length ≤ i ∧ (∀ p ∈ ps, p.name.length ≤ t.length) ∧ (isS t = true → (ps, k) = (A.take i).foldl stepP ([], 1)) ∧
        σ = ⟨[(21, .one (.int .i64 n)), (20, .one (.int .i64 L)), (19, .one (.fs (A.map eS))), (5, .one (.int .i64 k)), (4, .one (.op 1 0 0)), (3, .one (.bool false)), (2, .one (.op 0 0 0)), (0, .one (.str t))],
          [some ⟨1, [[.fs []]], false, false, true⟩, some ⟨1, [[.os 2 0 l l]], false, false, true⟩, ownQ ps], []⟩) A.length [21, 20, 19, 5, 4, 3, 2, 0] [0, 1, 2] rfl
      ⟨_, _, _, 0, 0, [], rfl, by simp, by omega, by omega, rfl, by simp, by simp, fun _ => rfl, rfl⟩ ?_
    rintro m σ ⟨n, L, k, i, l, ps, rfl, rfl, hi, rfl, rfl, hpsl, hpn, hv, rfl⟩
    refine rn rfl ?_
    refine goal_cond rfl (fun h => ?_) (fun h => ?_) <;> (try simp only [gt_iff_lt, ge_iff_le, bne_iff_ne, ne_eq, bne_eq_false_iff_eq, beq_iff_eq, beq_eq_false_iff_ne, Bool.not_eq_true', Bool.not_eq_false', decide_eq_true_eq, decide_eq_false_iff_not, List.length_map] at h)
    · obtain ⟨x, hx⟩ := at_some (xs := A) (i := i) (by omega)
      have hxm := List.mem_of_getElem? hx
      have hxl : x.length ≤ t.length := by have := hpt x hxm; simpa using this
      have hst : isS t = true → (A.take (i + 1)).foldl stepP ([], 1) = stepP (ps, k) x := fun h => by
        rw [← take_snoc hx, List.foldl_append, ← hv h]; rfl
      refine rn rfl ?_
      refine goal_did rfl rfl (dA_index (eS x) rfl rfl rfl rfl rfl rfl rfl (by omega) (by (try simp); omega) (map_at (by simpa using hx)) rfl) ?_
      refine rn rfl ?_
      cases h47 : (x == [47]) with
      | true =>
        have hx47 : x = [47] := by simpa using h47
        refine goal_cond rfl (fun _ => ?_) (fun h1 => by simp at h1)
        refine rn rfl ?_
        refine goal_loop_keep (fun m σ => ∃ (n L : Int) (j l : Nat) (qs : Sig), n = j ∧ L = ps.length ∧ j ≤ ps.length ∧ m = ps.length - j ∧ l = ps.length ∧ qs = (ps.take j).map (setK 0) ++ ps.drop j ∧
            σ = ⟨[(58, .one (.int .i64 n)), (57, .one (.int .i64 L)), (21, .one (.int .i64 i)), (20, .one (.int .i64 A.length)), (19, .one (.fs (A.map eS))), (5, .one (.int .i64 k)), (4, .one (.op 1 0 0)), (3, .one (.bool false)), (2, .one (.op 0 0 0)), (0, .one (.str t))],
              [some ⟨1, [[.fs []]], false, false, true⟩, some ⟨1, [[.os 2 0 l l]], false, false, true⟩, ownQ qs], []⟩) ps.length [58, 57, 21, 20, 19, 5, 4, 3, 2, 0] [0, 1, 2] rfl
          ⟨_, _, 0, _, ps, rfl, rfl, by omega, by omega, rfl, by simp, rfl⟩ ?_
        rintro m σ ⟨n, L, j, l, qs, rfl, rfl, hj, rfl, rfl, hqs, rfl⟩
        have hql : qs.length = ps.length := by rw [hqs]; simp; omega
        refine rn rfl ?_
        refine goal_cond rfl (fun hjl => ?_) (fun hjl => ?_) <;> (try simp only [gt_iff_lt, ge_iff_le, bne_iff_ne, ne_eq, bne_eq_false_iff_eq, beq_iff_eq, beq_eq_false_iff_ne, Bool.not_eq_true', Bool.not_eq_false', decide_eq_true_eq, decide_eq_false_iff_not, List.length_map] at hjl)
        · obtain ⟨y, hy⟩ := at_some (xs := ps) (i := j) (by omega)
          obtain ⟨hy1, hy2⟩ := map_step (f := setK 0) hy
          rw [← hqs] at hy1 hy2
          refine rn rfl ?_
          refine goal_did rfl rfl (dA_indexOwn rfl rfl rfl rfl rfl rfl rfl rfl rfl (by omega) (by (try simp); omega)) ?_
          refine goal_did rfl rfl (dA_step rfl) ?_
          refine goal_did rfl rfl (dA_storeEl (eQ y) ((qs.set j (setK 0 y)).map eQ) true rfl rfl rfl rfl rfl (map_at (by simpa using hy1)) rfl rfl (by simp [eQ]) (by rw [map_set]; simp [patch, eQ, setK, constC]) (fun _ => noOwnR_map _ eQ_noOwn _)) ?_
          refine rn rfl ?_
          refine round_keep (ps.length - (j + 1)) [58, 57, 21, 20, 19, 5, 4, 3, 2, 0] [0, 1, 2] (by omega) rfl ⟨_, _, j + 1, _, qs.set j (setK 0 y), wrap64 (by omega) (by omega), rfl, by omega, rfl, rfl, hy2, rfl⟩
        · rw [show j = ps.length by omega, List.take_length, List.drop_length, List.append_nil] at hqs
          refine rn rfl ?_
          refine round_ext ?_
          refine rn rfl ?_
          refine round_keep (A.length - (i + 1)) [21, 20, 19, 5, 4, 3, 2, 0] [0, 1, 2] (by omega) rfl ⟨_, _, k, i + 1, _, qs, wrap64 (by omega) (by omega), rfl, by omega, rfl, hql.symm, by omega, ?_, fun h => ?_, rfl⟩
          · intro p hp
            rw [hqs] at hp
            obtain ⟨p', hp', rfl⟩ := List.mem_map.1 hp
            exact hpn p' hp'
          · rw [hst h, stepP, if_pos hx47, hqs]
      | false =>
        have hx47 : ¬ x = [47] := by simpa using h47
        refine goal_cond rfl (fun h1 => by simp at h1) (fun _ => ?_)
        refine rn rfl ?_
        cases h42 : (x == [42]) with
        | true =>
          have hx42 : x = [42] := by simpa using h42
          refine goal_cond rfl (fun _ => ?_) (fun h1 => by simp at h1)
          refine rn rfl ?_
          refine round_keep (A.length - (i + 1)) [21, 20, 19, 5, 4, 3, 2, 0] [0, 1, 2] (by omega) rfl ⟨_, _, 3, i + 1, _, ps, wrap64 (by omega) (by omega), rfl, by omega, rfl, rfl, by omega, hpn, fun h => ?_, rfl⟩
          rw [hst h, stepP, if_neg hx47, if_pos hx42]
        | false =>
          have hx42 : ¬ x = [42] := by simpa using h42
          refine goal_cond rfl (fun h1 => by simp at h1) (fun _ => ?_)
          refine rn rfl ?_
          refine goal_step (step_call [] rfl rfl rfl rfl rfl rfl (hasPrefix_ct x [42, 42])) ?_
          rintro σ2 ⟨r, o', ⟨rfl, rfl⟩, hσ⟩
          obtain rfl := Option.some.inj hσ
          clear hσ
          refine rn rfl ?_
          refine goal_cond rfl (fun p2 => ?_) (fun p2 => ?_) <;> (try simp only [gt_iff_lt, ge_iff_le, bne_iff_ne, ne_eq, bne_eq_false_iff_eq, beq_iff_eq, beq_eq_false_iff_ne, Bool.not_eq_true', Bool.not_eq_false', decide_eq_true_eq, decide_eq_false_iff_not, List.length_map] at p2)
          · have hx2 : 2 ≤ x.length := (pre_take p2).1
            refine rn rfl ?_
            refine goal_drawL [1] [8] 9 rfl ?_
            refine drnL [0, 1, 2] (by kernel_rfl) (by kernel_rfl) rfl rfl ?_
            refine AHL_did 3 rfl (by kernel_rfl) (by kernel_rfl) (by kernel_rfl) (by kernel_rfl) rfl rfl (dA_strSlice 2 x.length (x.drop 2) rfl rfl rfl rfl (Bnd.some_ rfl rfl) Bnd.none_ hx2 (Nat.le_refl _) rfl (by rw [← List.length_drop, List.take_length])) ?_
            refine drnL [4] (by kernel_rfl) (by kernel_rfl) rfl rfl ?_
            refine AHL_oneDid 5 rfl (by kernel_rfl) rfl rfl (dA_step rfl) (mdOk rfl) ?_
            refine AHL_oneDid 6 rfl (by kernel_rfl) rfl rfl (dA_append (old := (ps).map eQ) (rows := ([⟨x.drop 2, 4, false, 0⟩] : List Param).map eQ) (((ps) ++ ([⟨x.drop 2, 4, false, 0⟩] : List Param)).map eQ) (ps.length + 1) true (Dst.own rfl rfl rfl rfl rfl (by first | (simp; done) | (simp; omega)) (whole (by first | (simp; done) | (simp; omega)))) (Src.os rfl rfl (Nat.le_refl 1) rfl) rfl rfl rfl rfl rfl rfl rfl rfl (rows_len eQ_len _) (rows_len eQ_len _) (by (try simp only [List.length_map, List.length_append, List.length_cons, List.length_nil, List.length_take, List.length_drop]); show _ * 40 ≤ _; omega) (by first | (simp; done) | (simp; omega)) (by simp) (by first | (simp; done) | (simp; omega)) (fun _ => noOwnR_map _ eQ_noOwn _)) (mdOk rfl) ?_
            refine drnL [7] (by kernel_rfl) (by kernel_rfl) rfl rfl ?_
            refine AHL_lateDid 8 rfl (by kernel_rfl) rfl rfl (dA_step rfl) ?_
            refine AH_end (by kernel_rfl) ?_
            refine rn rfl ?_
            refine round_keep (A.length - (i + 1)) [21, 20, 19, 5, 4, 3, 2, 0] [0, 1, 4] (by omega) rfl ⟨_, _, k, i + 1, _, ps ++ [⟨x.drop 2, 4, false, 0⟩], wrap64 (by omega) (by omega), rfl, by omega, rfl, by simp, by simp; omega, ?_, fun h => ?_, rfl⟩
            · intro p hp; simp at hp; rcases hp with hp | rfl
              · exact hpn p hp
              · simp; omega
            · rw [hst h, stepP_map hx47 hx42 p2]
          · refine rn rfl ?_
            refine goal_step (step_call [] rfl rfl rfl rfl rfl rfl (hasPrefix_ct x [42])) ?_
            rintro σ2 ⟨r, o', ⟨rfl, rfl⟩, hσ⟩
            obtain rfl := Option.some.inj hσ
            clear hσ
            refine rn rfl ?_
            refine goal_cond rfl (fun p1 => ?_) (fun p1 => ?_) <;> (try simp only [gt_iff_lt, ge_iff_le, bne_iff_ne, ne_eq, bne_eq_false_iff_eq, beq_iff_eq, beq_eq_false_iff_ne, Bool.not_eq_true', Bool.not_eq_false', decide_eq_true_eq, decide_eq_false_iff_not, List.length_map] at p1)
            · have hx2 : 1 ≤ x.length := (pre_take p1).1
              refine rn rfl ?_
              refine goal_drawL [1] [8] 9 rfl ?_
              refine drnL [0, 1, 2] (by kernel_rfl) (by kernel_rfl) rfl rfl ?_
              refine AHL_did 3 rfl (by kernel_rfl) (by kernel_rfl) (by kernel_rfl) (by kernel_rfl) rfl rfl (dA_strSlice 1 x.length (x.drop 1) rfl rfl rfl rfl (Bnd.some_ rfl rfl) Bnd.none_ hx2 (Nat.le_refl _) rfl (by rw [← List.length_drop, List.take_length])) ?_
              refine drnL [4] (by kernel_rfl) (by kernel_rfl) rfl rfl ?_
              refine AHL_oneDid 5 rfl (by kernel_rfl) rfl rfl (dA_step rfl) (mdOk rfl) ?_
              refine AHL_oneDid 6 rfl (by kernel_rfl) rfl rfl (dA_append (old := (ps).map eQ) (rows := ([⟨x.drop 1, 2, false, 0⟩] : List Param).map eQ) (((ps) ++ ([⟨x.drop 1, 2, false, 0⟩] : List Param)).map eQ) (ps.length + 1) true (Dst.own rfl rfl rfl rfl rfl (by first | (simp; done) | (simp; omega)) (whole (by first | (simp; done) | (simp; omega)))) (Src.os rfl rfl (Nat.le_refl 1) rfl) rfl rfl rfl rfl rfl rfl rfl rfl (rows_len eQ_len _) (rows_len eQ_len _) (by (try simp only [List.length_map, List.length_append, List.length_cons, List.length_nil, List.length_take, List.length_drop]); show _ * 40 ≤ _; omega) (by first | (simp; done) | (simp; omega)) (by simp) (by first | (simp; done) | (simp; omega)) (fun _ => noOwnR_map _ eQ_noOwn _)) (mdOk rfl) ?_
              refine drnL [7] (by kernel_rfl) (by kernel_rfl) rfl rfl ?_
              refine AHL_lateDid 8 rfl (by kernel_rfl) rfl rfl (dA_step rfl) ?_
              refine AH_end (by kernel_rfl) ?_
              refine rn rfl ?_
              refine round_keep (A.length - (i + 1)) [21, 20, 19, 5, 4, 3, 2, 0] [0, 1, 4] (by omega) rfl ⟨_, _, 3, i + 1, _, ps ++ [⟨x.drop 1, 2, false, 0⟩], wrap64 (by omega) (by omega), rfl, by omega, rfl, by simp, by simp; omega, ?_, fun h => ?_, rfl⟩
              · intro p hp; simp at hp; rcases hp with hp | rfl
                · exact hpn p hp
                · simp; omega
              · rw [hst h, stepP_rest hx47 hx42 (by simp [p2]) p1]
            · obtain ⟨cl1, cl2⟩ := cutQ_len x
              have hel := stepP_else hx47 hx42 (by simp [p2]) (by simp [p1]) ps k
              have hnum : isS t = true → (cutQ x).2.2 = true → ∃ d : Int, -99 ≤ d ∧ d ≤ 99 ∧ (cutQ x).2.1 = Lib.itoa d := fun h hc => part_num h ht (hA ▸ hxm) hx47 p1 hc
              refine rn rfl ?_
              refine goal_step (step_call [] rfl rfl rfl rfl rfl rfl (cut_ct x [61] (by omega))) ?_
              rintro σ2 ⟨r, o', ⟨rfl, rfl⟩, hσ⟩
              obtain rfl := Option.some.inj hσ
              clear hσ
              refine rn rfl ?_
              rw [show Lib.cut x [61] = cutQ x from rfl]
              generalize cutQ x = cq at cl1 cl2 hel hnum ⊢
              obtain ⟨q1, q2, q3⟩ := cq
              dsimp only at cl1 cl2 hel hnum ⊢
              cases q3 with
              | true =>
                refine rn rfl ?_
                refine goal_cond rfl (fun _ => ?_) (fun h1 => by simp at h1)
                refine rn rfl ?_
                refine goal_step (step_call [] rfl rfl rfl rfl rfl rfl (ird_ct q2 (by omega))) ?_
                rintro σ2 ⟨r, o', ⟨⟨n, ok, rfl, g1, g2, g3, g4⟩, rfl⟩, hσ⟩
                obtain rfl := Option.some.inj hσ
                clear hσ
                refine rn rfl ?_
                cases ok with
                | false =>
                  have hno : isS t ≠ true := fun h => by
                    obtain ⟨d, d1, d2, d3⟩ := hnum h rfl
                    have := (g2 d (by rw [d3]; exact atoi_itoa d1 d2) d3.symm).1
                    cases this
                  rw [ParS_not ht hno]
                  refine goal_cond rfl (fun _ => ?_) (fun h1 => by simp at h1)
                  refine rn rfl ?_
                  refine fin_weak (Weak.adoptO 0 0 4) (fin_is [4] rfl ⟨rfl, rfl⟩)
                | true =>
                  refine goal_cond rfl (fun h1 => by simp at h1) (fun _ => ?_)
                  refine rn rfl ?_
                  refine goal_did rfl rfl (dA_append (old := (ps).map eQ) (rows := ([⟨q1, k, true, n⟩] : List Param).map eQ) (((ps) ++ ([⟨q1, k, true, n⟩] : List Param)).map eQ) (ps.length + 1) true (Dst.own rfl rfl rfl rfl rfl (by first | (simp; done) | (simp; omega)) (whole (by first | (simp; done) | (simp; omega)))) (Src.os rfl rfl (Nat.le_refl 1) rfl) rfl rfl rfl rfl rfl rfl rfl rfl (rows_len eQ_len _) (rows_len eQ_len _) (by (try simp only [List.length_map, List.length_append, List.length_cons, List.length_nil, List.length_take, List.length_drop]); show _ * 40 ≤ _; omega) (by first | (simp; done) | (simp; omega)) (by simp) (by first | (simp; done) | (simp; omega)) (fun _ => noOwnR_map _ eQ_noOwn _)) ?_
                  refine rn rfl ?_
                  refine round_keep (A.length - (i + 1)) [21, 20, 19, 5, 4, 3, 2, 0] [0, 1, 5] (by omega) rfl ⟨_, _, k, i + 1, _, ps ++ [⟨q1, k, true, n⟩], wrap64 (by omega) (by omega), rfl, by omega, rfl, by simp, by simp; omega, ?_, fun h => ?_, rfl⟩
                  · intro p hp; simp at hp; rcases hp with hp | rfl
                    · exact hpn p hp
                    · simp; omega
                  · obtain ⟨d, d1, d2, d3⟩ := hnum h rfl
                    have e1 := (g2 d (by rw [d3]; exact atoi_itoa d1 d2) d3.symm).2
                    rw [hst h, hel, if_pos rfl, d3, rd_itoa d1 d2, e1]
              | false =>
                refine rn rfl ?_
                refine goal_cond rfl (fun h1 => by simp at h1) (fun _ => ?_)
                refine rn rfl ?_
                refine goal_did rfl rfl (dA_append (old := (ps).map eQ) (rows := ([⟨q1, k, false, 0⟩] : List Param).map eQ) (((ps) ++ ([⟨q1, k, false, 0⟩] : List Param)).map eQ) (ps.length + 1) true (Dst.own rfl rfl rfl rfl rfl (by first | (simp; done) | (simp; omega)) (whole (by first | (simp; done) | (simp; omega)))) (Src.os rfl rfl (Nat.le_refl 1) rfl) rfl rfl rfl rfl rfl rfl rfl rfl (rows_len eQ_len _) (rows_len eQ_len _) (by (try simp only [List.length_map, List.length_append, List.length_cons, List.length_nil, List.length_take, List.length_drop]); show _ * 40 ≤ _; omega) (by first | (simp; done) | (simp; omega)) (by simp) (by first | (simp; done) | (simp; omega)) (fun _ => noOwnR_map _ eQ_noOwn _)) ?_
                refine rn rfl ?_
                refine round_keep (A.length - (i + 1)) [21, 20, 19, 5, 4, 3, 2, 0] [0, 1, 5] (by omega) rfl ⟨_, _, k, i + 1, _, ps ++ [⟨q1, k, false, 0⟩], wrap64 (by omega) (by omega), rfl, by omega, rfl, by simp, by simp; omega, ?_, fun h => ?_, rfl⟩
                · intro p hp; simp at hp; rcases hp with hp | rfl
                  · exact hpn p hp
                  · simp; omega
                · rw [hst h, hel, if_neg (by simp)]
    · have hiA : i = A.length := by omega
      rw [hiA, List.take_length] at hv
      refine rn rfl ?_
      refine round_ext ?_
      refine rn rfl ?_
      refine goal_step (step_lendE [] rfl rfl rfl rfl rfl rfl rfl (cons_eq (asG ps) rfl) (ivalidSig_ct ps (by omega) (fun p hp => by have := hpn p hp; omega)) (by rintro r o ⟨rfl, rfl⟩; exact ⟨rfl, rfl⟩)) ?_
      rintro σ2 ⟨r, o', ⟨rfl, rfl⟩, hσ⟩
      obtain rfl := Option.some.inj hσ
      clear hσ
      refine rn rfl ?_
      cases hok : okSig ps with
      | false =>
        have hno : isS t ≠ true := fun h => by
          have := (isS_fold h (by rw [hfold, ← hv h])).1
          rw [hok] at this; cases this
        rw [ParS_not ht hno]
        refine goal_guard rfl rfl rfl (fun h => ?_) (fun h => by simp at h)
        refine rn rfl ?_
        refine fin_weak (Weak.adoptO 0 0 4) (fin_is [3] rfl ⟨rfl, rfl⟩)
      | true =>
        refine goal_guard rfl rfl rfl (fun h => by simp at h) (fun h => ?_)
        refine rn rfl ?_
        refine goal_step (step_lendE [] rfl rfl rfl rfl rfl rfl rfl (cons_eq (asG ps) rfl) (iSigText_ct ps (by omega) (fun p hp => by have := hpn p hp; omega)) (by rintro r o ⟨rfl, rfl⟩; exact ⟨rfl, rfl⟩)) ?_
        rintro σ2 ⟨r, o', ⟨rfl, rfl⟩, hσ⟩
        obtain rfl := Option.some.inj hσ
        clear hσ
        refine rn rfl ?_
        cases htx : (SgF ps == t) with
        | false =>
          have hno : isS t ≠ true := fun h => by
            have := (isS_fold h (by rw [hfold, ← hv h])).2
            rw [this] at htx; simp at htx
          rw [ParS_not ht hno]
          refine goal_cond rfl (fun _ => ?_) (fun h => by simp at h)
          refine rn rfl ?_
          refine fin_weak (Weak.adoptO 0 0 4) (fin_is [3] rfl ⟨rfl, rfl⟩)
        | true =>
          have he : SgF ps = t := by simpa using htx
          obtain ⟨y1, y2⟩ := isS_end ht hok he
          rw [ParS_yes ht y1, y2]
          refine goal_cond rfl (fun h => by simp at h) (fun _ => ?_)
          refine rn rfl ?_
          refine goal_step (step_callE [] rfl rfl rfl rfl rfl rfl (cons_eq (asG ps) rfl) (icopySig_ct ps (by omega))) ?_
          rintro σ2 ⟨r, o', ⟨rfl, rfl⟩, hσ⟩
          obtain rfl := Option.some.inj hσ
          clear hσ
          refine rn rfl ?_
          exact rn rfl (fin_is [3] rfl ⟨rfl, rfl⟩)

section

variable {X : Pk} {N np : Nat} {G : Ctx} {D : Nat → Prop} {e : List ALoc} {σ σ' : State} {a : Act} {w : World} {K : KP}

theorem dA_min {o : Oper} {x y : Operand} {t t2 : TypeId} {n m : Int} (ho : o.op = .call ⟨.builtin .min, #[x, y], #[t, t2]⟩) (hx : evalO σ x = .one (.int .i64 n)) (hy : evalO σ y = .one (.int .i64 m)) (hd : dstB N o.dst = true) :
    DidA X N np o (.q none) σ (putS o.dst (.one (.int .i64 (if m < n then m else n))) σ) := fun {G D e a w} H => by
  have hxv := one_int (hx ▸ H.ev x)
  have hyv := one_int (hy ▸ H.ev y)
  refine Did.pure H (v := .int .i64 (if m < n then m else n)) (fun w _ => ?_) (by simp only [TR, CR]) (putS_eq hd)
  simp [execOp, ho, resolve, invoke, Go.builtin, hxv, hyv, Builtin.min_, Builtin.min2]

end

theorem asGs (s : Sig) : T.one (C.fs (List.take s.length (List.drop 0 (s.map eQ)))) = T.one (.fs (s.map eQ)) := by rw [takeAll eQ _ _ rfl]

theorem oG_noFz' (s : Sig) : noFzO [ownQ s] = true := by simp [ownQ, noFzO, noFzR_map eQ (fun _ => rfl)]

theorem goodSignature_ct (bs : Str) (k : Int) (hb : bs.length ≤ 2000) (hk : 0 ≤ k) (hk' : k ≤ 1073730000) :
    ACalls pk 59 [.one (.op 0 0 0)] [oR bs k] (fun r o => ∃ s k', OkS s ∧ k ≤ k' ∧ k' ≤ k + 100 ∧ r = .agg [.os 1 0 s.length s.length] ∧ o = [oR bs k', ownQ s]) := by
  refine acalls_of_body Tryz.func59 rfl (by kernel_rfl) rfl ?_
  refine rn rfl ?_
  refine goal_step (step_callE [0] rfl rfl rfl rfl rfl rfl (rfl) (pick_ct bs k 2 hb (by omega) (by omega) (by omega))) ?_
  rintro σ2 ⟨r, o', ⟨⟨z, rfl, _, _⟩, rfl⟩, hσ⟩
  obtain rfl := Option.some.inj hσ
  clear hσ
  refine rn rfl ?_
  refine goal_cutR (fun σ' => ∃ kd : Int, 0 ≤ kd ∧ kd ≤ 4 ∧ σ' = ⟨[(4, .one (.int .i64 kd)), (3, .one (.os 2 0 0 0)), (2, .one (.op 1 0 0)), (0, .one (.op 0 0 0))], [oR bs (k + 1), some ⟨1, [[.fs []]], false, false, true⟩, ownQ []], []⟩) ?_ ?_
  · refine goal_cond rfl (fun h0 => ?_) (fun h0 => ?_) <;> (try simp only [gt_iff_lt, ge_iff_le, bne_iff_ne, ne_eq, bne_eq_false_iff_eq, beq_iff_eq, beq_eq_false_iff_ne, Bool.not_eq_true', Bool.not_eq_false', decide_eq_true_eq, decide_eq_false_iff_not, List.length_map] at h0)
    · refine rn rfl ?_
      exact cut_nrm [4, 3, 2, 0] [1, 2] rfl ⟨1, by omega, by omega, rfl⟩
    · refine rn rfl ?_
      exact cut_nrm [4, 3, 2, 0] [1, 2] rfl ⟨0, by omega, by omega, rfl⟩
  rintro _ ⟨kd, hd0, hd4, rfl⟩
  refine rn rfl ?_
  refine goal_step (step_callE [0] rfl rfl rfl rfl rfl rfl (rfl) (one_ct bs (k + 1) [3, 4, 2, 5, 1, 0, 6, 8] hb (by omega) (by omega) (by decide) (by decide))) ?_
  rintro σ2 ⟨r, o', ⟨⟨v, hv, rfl⟩, rfl⟩, hσ⟩
  obtain rfl := Option.some.inj hσ
  clear hσ
  refine rn rfl ?_
  have hv8 : 0 ≤ v ∧ v ≤ 8 := by
    simp only [List.mem_cons, List.not_mem_nil, or_false] at hv
    omega
  refine goal_loop_keep (fun m σ => ∃ (q kd k1 : Int) (l : Nat) (out : Sig), m = q.toNat ∧ 0 ≤ q ∧ q ≤ 8 ∧ 0 ≤ kd ∧ kd ≤ 4 ∧ l = out.length ∧ OkS out ∧ k ≤ k1 ∧ k1 + 6 * q ≤ k + 90 ∧
      σ = ⟨[(5, .one (.int .i64 q)), (4, .one (.int .i64 kd)), (3, .one (.os 2 0 l l)), (2, .one (.op 1 0 0)), (0, .one (.op 0 0 0))], [oR bs k1, some ⟨1, [[.fs []]], false, false, true⟩, ownQ out], []⟩) v.toNat [5, 4, 3, 2, 0] [1, 2] rfl
    ⟨v, kd, k + 1 + 1, 0, [], rfl, hv8.1, hv8.2, hd0, hd4, rfl, okSig_iff.1 rfl, by omega, by omega, rfl⟩ ?_
  rintro m σ ⟨q, kd, k1, l, out, rfl, hq0, hq8, hd0, hd4, rfl, hok, hk1, hk2, rfl⟩
  have hol := hok.len
  refine rn rfl ?_
  refine goal_cond rfl (fun hc => ?_) (fun hc => ?_) <;> (try simp only [gt_iff_lt, ge_iff_le, bne_iff_ne, ne_eq, bne_eq_false_iff_eq, beq_iff_eq, beq_eq_false_iff_ne, Bool.not_eq_true', Bool.not_eq_false', decide_eq_true_eq, decide_eq_false_iff_not, List.length_map] at hc)
  · refine rt 8 rfl ?_
    refine goal_cutR (fun σ' => ∃ kd' k2 : Int, 0 ≤ kd' ∧ kd' ≤ 4 ∧ k1 ≤ k2 ∧ k2 ≤ k1 + 2 ∧ σ' = ⟨[(5, .one (.int .i64 q)), (4, .one (.int .i64 kd')), (3, .one (.os 2 0 out.length out.length)), (2, .one (.op 1 0 0)), (0, .one (.op 0 0 0))], [oR bs k2, some ⟨1, [[.fs []]], false, false, true⟩, ownQ out], []⟩) ?_ ?_
    · refine rn rfl ?_
      refine goal_step (step_callE [0] rfl rfl rfl rfl rfl rfl (rfl) (pick_ct bs k1 3 hb (by omega) (by omega) (by omega))) ?_
      rintro σ2 ⟨r, o', ⟨⟨z1, rfl, _, _⟩, rfl⟩, hσ⟩
      obtain rfl := Option.some.inj hσ
      clear hσ
      refine rn rfl ?_
      refine goal_guard rfl rfl rfl (fun h1 => ?_) (fun h1 => ?_) <;> (try simp only [gt_iff_lt, ge_iff_le, bne_iff_ne, ne_eq, bne_eq_false_iff_eq, beq_iff_eq, beq_eq_false_iff_ne, Bool.not_eq_true', Bool.not_eq_false', decide_eq_true_eq, decide_eq_false_iff_not, List.length_map] at h1)
      · refine rn rfl ?_
        refine goal_cond rfl (fun h2 => ?_) (fun h2 => ?_) <;> (try simp only [gt_iff_lt, ge_iff_le, bne_iff_ne, ne_eq, bne_eq_false_iff_eq, beq_iff_eq, beq_eq_false_iff_ne, Bool.not_eq_true', Bool.not_eq_false', decide_eq_true_eq, decide_eq_false_iff_not, List.length_map] at h2)
        · have hw : IntKind.i64.wrap (4 - kd) = 4 - kd := wrap64 (by omega) (by omega)
          have hw1 : IntKind.i64.wrap (kd + 1) = kd + 1 := wrap64 (by omega) (by omega)
          refine rn rfl ?_
          rw [hw, hw1]
          refine goal_step (step_callE [0] rfl rfl rfl rfl rfl rfl (rfl) (pick_ct bs (k1 + 1) (4 - kd) hb (by omega) (by omega) (by omega))) ?_
          rintro σ2 ⟨r, o', ⟨⟨y, rfl, hy, _⟩, rfl⟩, hσ⟩
          obtain rfl := Option.some.inj hσ
          clear hσ
          refine rn rfl ?_
          have hy' := hy (by omega)
          have e : IntKind.i64.wrap (kd + 1 + y) = kd + 1 + y := wrap64 (by omega) (by omega)
          rw [e]
          exact cut_nrm [5, 4, 3, 2, 0] [1, 2] rfl ⟨kd + 1 + y, k1 + 1 + 1, by omega, by omega, by omega, by omega, rfl⟩
        · refine rn rfl ?_
          exact cut_nrm [5, 4, 3, 2, 0] [1, 2] rfl ⟨kd, k1 + 1, hd0, hd4, by omega, by omega, rfl⟩
      · refine rn rfl ?_
        exact cut_nrm [5, 4, 3, 2, 0] [1, 2] rfl ⟨kd, k1 + 1, hd0, hd4, by omega, by omega, rfl⟩
    clear hd0 hd4
    rintro _ ⟨kd', k2, hd0, hd4, hk3, hk4, rfl⟩
    refine rn rfl ?_
    refine goal_step (step_callE [0] rfl rfl rfl rfl rfl rfl rfl (of_ct bs k2 [[97], [98], [99], [100], [120], [121], [112], [113], [97, 114, 103, 115], [107, 119]] hb (by omega) (by omega) (by decide) (by decide))) ?_
    rintro σ2 ⟨r, o', ⟨⟨nm, hnm, rfl⟩, rfl⟩, hσ⟩
    obtain rfl := Option.some.inj hσ
    clear hσ
    have hnl : nm.length ≤ 7 := by
      simp only [List.mem_cons, List.not_mem_nil, or_false] at hnm
      rcases hnm with h | h | h | h | h | h | h | h | h | h <;> (rw [h]; decide)
    refine rt 11 rfl ?_
    refine goal_cutR (fun σ' => ∃ (p : Param) (k3 : Int), p.name.length ≤ 7 ∧ k2 ≤ k3 ∧ k3 ≤ k2 + 3 ∧ σ' = ⟨[(6, .one (.op 3 0 0)), (5, .one (.int .i64 q)), (4, .one (.int .i64 kd')), (3, .one (.os 2 0 out.length out.length)), (2, .one (.op 1 0 0)), (0, .one (.op 0 0 0))], [oR bs k3, some ⟨1, [[.fs []]], false, false, true⟩, ownQ out, some ⟨4, [eQ p], false, false, true⟩], []⟩) ?_ ?_
    · refine rn rfl ?_
      refine goal_step (step_callE [0] rfl rfl rfl rfl rfl rfl (rfl) (pick_ct bs (k2 + 1) 3 hb (by omega) (by omega) (by omega))) ?_
      rintro σ2 ⟨r, o', ⟨⟨z2, rfl, _, _⟩, rfl⟩, hσ⟩
      obtain rfl := Option.some.inj hσ
      clear hσ
      refine rn rfl ?_
      refine goal_guard rfl rfl rfl (fun h1 => ?_) (fun h1 => ?_) <;> (try simp only [gt_iff_lt, ge_iff_le, bne_iff_ne, ne_eq, bne_eq_false_iff_eq, beq_iff_eq, beq_eq_false_iff_ne, Bool.not_eq_true', Bool.not_eq_false', decide_eq_true_eq, decide_eq_false_iff_not, List.length_map] at h1)
      · refine rn rfl ?_
        refine goal_step (step_call [] rfl rfl rfl rfl rfl rfl (ssingle_ct ⟨nm, kd', false, 0⟩)) ?_
        rintro σ2 ⟨r, o', ⟨rfl, rfl⟩, hσ⟩
        obtain rfl := Option.some.inj hσ
        clear hσ
        refine rn rfl ?_
        refine goal_cond rfl (fun h2 => ?_) (fun h2 => ?_) <;> (try simp only [gt_iff_lt, ge_iff_le, bne_iff_ne, ne_eq, bne_eq_false_iff_eq, beq_iff_eq, beq_eq_false_iff_ne, Bool.not_eq_true', Bool.not_eq_false', decide_eq_true_eq, decide_eq_false_iff_not, List.length_map] at h2)
        · refine rn rfl ?_
          refine goal_step (step_callE [0] rfl rfl rfl rfl rfl rfl (rfl) (aNumber_ct bs (k2 + 1 + 1) hb (by omega) (by omega))) ?_
          rintro σ2 ⟨r, o', ⟨⟨w, _, _, rfl⟩, rfl⟩, hσ⟩
          obtain rfl := Option.some.inj hσ
          clear hσ
          refine rn rfl ?_
          refine rn rfl ?_
          exact cut_nrm [6, 5, 4, 3, 2, 0] [1, 2, 4] rfl ⟨⟨nm, kd', true, w⟩, k2 + 1 + 1 + 1, hnl, by omega, by omega, rfl⟩
        · refine rn rfl ?_
          exact cut_nrm [6, 5, 4, 3, 2, 0] [1, 2, 4] rfl ⟨⟨nm, kd', false, 0⟩, k2 + 1 + 1, hnl, by omega, by omega, rfl⟩
      · refine rn rfl ?_
        exact cut_nrm [6, 5, 4, 3, 2, 0] [1, 2, 4] rfl ⟨⟨nm, kd', false, 0⟩, k2 + 1 + 1, hnl, by omega, by omega, rfl⟩
    rintro _ ⟨p, k3, hpn, hk5, hk6, rfl⟩
    refine rt 14 rfl ?_
    refine goal_cutR (fun σ' => ∃ kd2 : Int, 0 ≤ kd2 ∧ kd2 ≤ 4 ∧ σ' = ⟨[(6, .one (.op 3 0 0)), (5, .one (.int .i64 q)), (4, .one (.int .i64 kd2)), (3, .one (.os 2 0 out.length out.length)), (2, .one (.op 1 0 0)), (0, .one (.op 0 0 0))], [oR bs k3, some ⟨1, [[.fs []]], false, false, true⟩, ownQ out, some ⟨4, [eQ p], false, false, true⟩], []⟩) ?_ ?_
    · refine rn rfl ?_
      refine goal_step (step_call [] rfl rfl rfl rfl rfl rfl (ssingle_ct p)) ?_
      rintro σ2 ⟨r, o', ⟨rfl, rfl⟩, hσ⟩
      obtain rfl := Option.some.inj hσ
      clear hσ
      refine rn rfl ?_
      refine goal_cond rfl (fun h1 => ?_) (fun h1 => ?_) <;> (try simp only [gt_iff_lt, ge_iff_le, bne_iff_ne, ne_eq, bne_eq_false_iff_eq, beq_iff_eq, beq_eq_false_iff_ne, Bool.not_eq_true', Bool.not_eq_false', decide_eq_true_eq, decide_eq_false_iff_not, List.length_map] at h1)
      · have hw : IntKind.i64.wrap (kd' + 1) = kd' + 1 := wrap64 (by omega) (by omega)
        refine rn rfl ?_
        rw [hw]
        refine goal_did rfl rfl (dA_min rfl rfl rfl rfl) ?_
        refine rn rfl ?_
        exact cut_nrm [6, 5, 4, 3, 2, 0] [1, 2, 3] rfl ⟨if 4 < kd' + 1 then 4 else kd' + 1, by split <;> omega, by split <;> omega, rfl⟩
      · refine rn rfl ?_
        exact cut_nrm [6, 5, 4, 3, 2, 0] [1, 2, 3] rfl ⟨kd', hd0, hd4, rfl⟩
    rintro _ ⟨kd2, hd5, hd6, rfl⟩
    refine rt1 16 rfl ?_
    refine goal_cutR (fun σ' => σ' = ⟨[(7, .one (.os 3 0 (out.length + 1) (out.length + 1))), (5, .one (.int .i64 q)), (4, .one (.int .i64 kd2)), (3, .one (.os 2 0 out.length out.length)), (2, .one (.op 1 0 0)), (0, .one (.op 0 0 0))], [oR bs k3, some ⟨1, [[.fs []]], false, false, true⟩, ownQ out, ownQ (out ++ [p])], []⟩) ?_ ?_
    · refine goal_draw' [2, 3] 6 rfl ?_
      refine drn [0, 2] (by kernel_rfl) (by kernel_rfl) rfl rfl ?_
      refine AH_two (i := 1) (j := 3) (by kernel_rfl) (step_lendE [] rfl rfl rfl rfl rfl rfl rfl (cons_eq (asGs out) rfl) (copyParams_ct out (by omega)) (by rintro r o ⟨rfl, rfl⟩; exact ⟨rfl, oG_noFz' out⟩)) (by simp) (step_did rfl rfl (dA_step rfl)) (mdOk rfl) ?_ ?_
      · rintro σ2 ⟨r, o', ⟨rfl, rfl⟩, hσ⟩
        obtain rfl := Option.some.inj hσ
        clear hσ
        refine AH_oneDid 3 rfl (by kernel_rfl) rfl (dA_step rfl) (mdOk rfl) ?_
        refine AH_oneDid 4 rfl (by kernel_rfl) rfl (dA_append (old := (out).map eQ) (rows := ([p] : List Param).map eQ) (((out) ++ ([p] : List Param)).map eQ) (out.length + 1) true (Dst.own rfl rfl rfl rfl rfl (by first | (simp; done) | (simp; omega)) (whole (by first | (simp; done) | (simp; omega)))) (Src.os rfl rfl (Nat.le_refl 1) rfl) rfl rfl rfl rfl rfl rfl rfl rfl (rows_len eQ_len _) (rows_len eQ_len _) (by (try simp only [List.length_map, List.length_append, List.length_cons, List.length_nil, List.length_take, List.length_drop]); show _ * 40 ≤ _; omega) (by first | (simp; done) | (simp; omega)) (by simp) (by first | (simp; done) | (simp; omega)) (fun _ => noOwnR_map _ eQ_noOwn _)) (mdOk rfl) ?_
        refine drn [5] (by kernel_rfl) (by kernel_rfl) rfl rfl ?_
        refine AH_end (by kernel_rfl) ?_
        refine rn rfl ?_
        exact cut_nrm [7, 5, 4, 3, 2, 0] [1, 2, 6] rfl rfl
      · rintro _ rfl
        refine AH_one (i := 1) (by kernel_rfl) (step_lendE [] rfl rfl rfl rfl rfl rfl rfl (cons_eq (asGs out) rfl) (copyParams_ct out (by omega)) (by rintro r o ⟨rfl, rfl⟩; exact ⟨rfl, oG_noFz' out⟩)) (by simp) ?_
        rintro σ2 ⟨r, o', ⟨rfl, rfl⟩, hσ⟩
        obtain rfl := Option.some.inj hσ
        clear hσ
        refine AH_oneDid 4 rfl (by kernel_rfl) rfl (dA_append (old := (out).map eQ) (rows := ([p] : List Param).map eQ) (((out) ++ ([p] : List Param)).map eQ) (out.length + 1) true (Dst.own rfl rfl rfl rfl rfl (by first | (simp; done) | (simp; omega)) (whole (by first | (simp; done) | (simp; omega)))) (Src.os rfl rfl (Nat.le_refl 1) rfl) rfl rfl rfl rfl rfl rfl rfl rfl (rows_len eQ_len _) (rows_len eQ_len _) (by (try simp only [List.length_map, List.length_append, List.length_cons, List.length_nil, List.length_take, List.length_drop]); show _ * 40 ≤ _; omega) (by first | (simp; done) | (simp; omega)) (by simp) (by first | (simp; done) | (simp; omega)) (fun _ => noOwnR_map _ eQ_noOwn _)) (mdOk rfl) ?_
        refine drn [5] (by kernel_rfl) (by kernel_rfl) rfl rfl ?_
        refine AH_end (by kernel_rfl) ?_
        refine rn rfl ?_
        exact cut_nrm [7, 5, 4, 3, 2, 0] [1, 2, 6] rfl rfl
    rintro _ rfl
    have hln : ∀ r ∈ out ++ [p], r.name.length ≤ 9223372036854775807 := by
      intro r hr
      rcases List.mem_append.1 hr with hr | hr
      · have := hok.nameLen hr; omega
      · simp only [List.mem_singleton] at hr; rw [hr]; omega
    refine rn rfl ?_
    refine goal_step (step_lendE [] rfl rfl rfl rfl rfl rfl rfl (cons_eq (congrArg (fun x => T.one (C.fs x)) (takeAll eQ (out ++ [p]) (out.length + 1) (by simp))) rfl) (svalidParams_ct (out ++ [p]) (by simp; omega) hln) (by rintro r o ⟨rfl, rfl⟩; exact ⟨rfl, rfl⟩)) ?_
    rintro σ2 ⟨r, o', ⟨rfl, rfl⟩, hσ⟩
    obtain rfl := Option.some.inj hσ
    clear hσ
    refine rn rfl ?_
    have hw : IntKind.i64.wrap (q - 1) = q - 1 := wrap64 (by omega) (by omega)
    refine goal_cond rfl (fun h9 => ?_) (fun h9 => ?_) <;> (try simp only [gt_iff_lt, ge_iff_le, bne_iff_ne, ne_eq, bne_eq_false_iff_eq, beq_iff_eq, beq_eq_false_iff_ne, Bool.not_eq_true', Bool.not_eq_false', decide_eq_true_eq, decide_eq_false_iff_not, List.length_map] at h9)
    · refine rn rfl ?_
      rw [hw]
      refine round_keep (q - 1).toNat [5, 4, 3, 2, 0] [1, 3] (by omega) rfl ⟨q - 1, kd2, k3, _, out ++ [p], rfl, by omega, by omega, hd5, hd6, (by simp : out.length + 1 = _), okSig_iff.1 h9, by omega, by omega, rfl⟩
    · refine rn rfl ?_
      rw [hw]
      refine round_keep (q - 1).toNat [5, 4, 3, 2, 0] [1, 2] (by omega) rfl ⟨q - 1, kd2, k3, _, out, rfl, by omega, by omega, hd5, hd6, rfl, hok, by omega, by omega, rfl⟩
  · refine rn rfl (round_ext ?_)
    refine rn rfl (fin_is [2] rfl ⟨out, k1, hok, hk1, by omega, rfl, rfl⟩)

structure SmallS (s : Sig) : Prop where
  len : s.length ≤ 8
  names : ∀ p ∈ s, p.name.length ≤ 7

theorem small_set {s : Sig} {j : Nat} {p : Param} (h : SmallS s) (hp : p.name.length ≤ 7) : SmallS (s.set j p) := by
  refine ⟨by simp [h.len], fun q hq => ?_⟩
  rcases List.mem_or_eq_of_mem_set hq with hq | hq
  · exact h.names q hq
  · rw [hq]; exact hp

theorem OkS.small {s : Sig} (h : OkS s) : SmallS s := ⟨h.len, fun p hp => by have := h.nameLen hp; omega⟩

theorem someSignature_ct (bs : Str) (k : Int) (hb : bs.length ≤ 2000) (hk : 0 ≤ k) (hk' : k ≤ 1073720000) :
    ACalls pk 38 [.one (.op 0 0 0)] [oR bs k] (fun r o => ∃ s k', SmallS s ∧ k ≤ k' ∧ k' ≤ k + 110 ∧ r = .agg (eG s) ∧ o = [oR bs k']) := by
  refine acalls_of_body Tryz.func38 rfl (by kernel_rfl) rfl ?_
  refine rn rfl ?_
  refine goal_step (step_callE [0] rfl rfl rfl rfl rfl rfl rfl (goodSignature_ct bs k hb hk (by omega))) ?_
  rintro σ2 ⟨r, o', ⟨s, k1, hs, hk1, hk2, rfl, rfl⟩, hσ⟩
  obtain rfl := Option.some.inj hσ
  clear hσ
  have hsm := hs.small
  have hsl := hsm.len
  refine rt 2 rfl ?_
  refine goal_cutR (fun σ' => ∃ (t : Sig) (k2 : Int), SmallS t ∧ k1 ≤ k2 ∧ k2 ≤ k1 + 10 ∧ t.length = s.length ∧ σ' = ⟨[(3, .one (.op 2 0 0)), (2, .one (.op 1 0 0))], [oR bs k2, some ⟨1, [[.fs []]], false, false, true⟩, some ⟨1, [[.os 3 0 s.length s.length]], false, false, true⟩, ownQ t], []⟩) ?_ ?_
  · refine rn rfl ?_
    refine goal_cond rfl (fun h0 => ?_) (fun h0 => ?_) <;> (try simp only [gt_iff_lt, ge_iff_le, bne_iff_ne, ne_eq, bne_eq_false_iff_eq, beq_iff_eq, beq_eq_false_iff_ne, Bool.not_eq_true', Bool.not_eq_false', decide_eq_true_eq, decide_eq_false_iff_not, List.length_map] at h0)
    · refine rn rfl ?_
      refine goal_step (step_callE [0] rfl rfl rfl rfl rfl rfl (rfl) (pick_ct bs k1 s.length hb (by omega) (by omega) (by omega))) ?_
      rintro σ2 ⟨r, o', ⟨⟨y, rfl, hy, _⟩, rfl⟩, hσ⟩
      obtain rfl := Option.some.inj hσ
      clear hσ
      refine rn rfl ?_
      have hy' := hy (by omega)
      obtain ⟨j, rfl⟩ : ∃ j : Nat, y = j := ⟨y.toNat, by omega⟩
      obtain ⟨p, hp⟩ := at_some (xs := s) (i := j) (by omega)
      have hpn := hsm.names p (List.mem_of_getElem? hp)
      refine rn rfl ?_
      refine goal_step (step_callE [0] rfl rfl rfl rfl rfl rfl (rfl) (pick_ct bs (k1 + 1) 24 hb (by omega) (by omega) (by omega))) ?_
      rintro σ2 ⟨r, o', ⟨⟨z, rfl, _, _⟩, rfl⟩, hσ⟩
      obtain rfl := Option.some.inj hσ
      clear hσ
      refine rn rfl ?_
      refine rn rfl ?_
      refine goal_cond rfl (fun c1 => ?_) (fun c1 => ?_) <;> (try simp only [gt_iff_lt, ge_iff_le, bne_iff_ne, ne_eq, bne_eq_false_iff_eq, beq_iff_eq, beq_eq_false_iff_ne, Bool.not_eq_true', Bool.not_eq_false', decide_eq_true_eq, decide_eq_false_iff_not, List.length_map] at c1)
      · refine rn rfl ?_
        refine goal_draw' [3] 8 rfl ?_
        refine drn [0, 1, 2, 3] (by kernel_rfl) (by kernel_rfl) rfl rfl ?_
        refine AH_one (i := 4) (by kernel_rfl) (step_callE [0] rfl rfl rfl rfl rfl rfl (rfl) (anyName_ct bs (k1 + 1 + 1) hb (by omega) (by omega))) (by simp) ?_
        rintro σ2 ⟨r, o', ⟨⟨nm, hnm, rfl⟩, rfl⟩, hσ⟩
        obtain rfl := Option.some.inj hσ
        clear hσ
        refine AH_did 5 rfl (by kernel_rfl) (by kernel_rfl) (by kernel_rfl) rfl rfl (dA_indexOwn rfl rfl rfl rfl rfl rfl rfl rfl rfl (by omega) (by (try simp); omega)) ?_
        refine AH_did 6 rfl (by kernel_rfl) (by kernel_rfl) (by kernel_rfl) rfl rfl (dA_step rfl) ?_
        refine AH_oneDid 7 rfl (by kernel_rfl) rfl (dA_storeEl (eQ p) ((s.set j ⟨nm, p.kind, p.hasD, p.dflt⟩).map eQ) true rfl rfl rfl rfl rfl (map_at (by simpa using hp)) rfl rfl (by simp [eQ]) (by rw [map_set]; simp [patch, eQ]) (fun _ => noOwnR_map _ eQ_noOwn _)) (mdOk rfl) ?_
        refine AH_end (by kernel_rfl) ?_
        refine rn rfl ?_
        exact cut_nrm [3, 2] [1, 3, 2] rfl ⟨s.set j ⟨nm, p.kind, p.hasD, p.dflt⟩, k1 + 1 + 1 + 2, small_set hsm (by exact hnm), by omega, by omega, by simp, rfl⟩
      · refine rn rfl ?_
        refine goal_cond rfl (fun c2 => ?_) (fun c2 => ?_) <;> (try simp only [gt_iff_lt, ge_iff_le, bne_iff_ne, ne_eq, bne_eq_false_iff_eq, beq_iff_eq, beq_eq_false_iff_ne, Bool.not_eq_true', Bool.not_eq_false', decide_eq_true_eq, decide_eq_false_iff_not, List.length_map] at c2)
        · refine rn rfl ?_
          refine goal_draw' [3] 9 rfl ?_
          refine drn [0, 1, 2, 3] (by kernel_rfl) (by kernel_rfl) rfl rfl ?_
          refine AH_oneDid 4 rfl (by kernel_rfl) rfl (dA_step rfl) (mdOk rfl) ?_
          refine AH_one (i := 5) (by kernel_rfl) (step_callE [0] rfl rfl rfl rfl rfl rfl (rfl) (one_ct bs (k1 + 1 + 1) [-1, 5, 0, 2, 4] hb (by omega) (by omega) (by decide) (by decide))) (by simp) ?_
          rintro σ2 ⟨r, o', ⟨⟨w, hw, rfl⟩, rfl⟩, hσ⟩
          obtain rfl := Option.some.inj hσ
          clear hσ
          refine AH_did 6 rfl (by kernel_rfl) (by kernel_rfl) (by kernel_rfl) rfl rfl (dA_indexOwn rfl rfl rfl rfl rfl rfl rfl rfl rfl (by omega) (by (try simp); omega)) ?_
          refine AH_did 7 rfl (by kernel_rfl) (by kernel_rfl) (by kernel_rfl) rfl rfl (dA_step rfl) ?_
          refine AH_oneDid 8 rfl (by kernel_rfl) rfl (dA_storeEl (eQ p) ((s.set j ⟨p.name, w, p.hasD, p.dflt⟩).map eQ) true rfl rfl rfl rfl rfl (map_at (by simpa using hp)) rfl rfl (by simp [eQ]) (by rw [map_set]; simp [patch, eQ]) (fun _ => noOwnR_map _ eQ_noOwn _)) (mdOk rfl) ?_
          refine AH_end (by kernel_rfl) ?_
          refine rn rfl ?_
          exact cut_nrm [3, 2] [1, 3, 2] rfl ⟨s.set j ⟨p.name, w, p.hasD, p.dflt⟩, k1 + 1 + 1 + 1, small_set hsm (by exact hpn), by omega, by omega, by simp, rfl⟩
        · refine rn rfl ?_
          refine goal_cond rfl (fun c3 => ?_) (fun c3 => ?_) <;> (try simp only [gt_iff_lt, ge_iff_le, bne_iff_ne, ne_eq, bne_eq_false_iff_eq, beq_iff_eq, beq_eq_false_iff_ne, Bool.not_eq_true', Bool.not_eq_false', decide_eq_true_eq, decide_eq_false_iff_not, List.length_map] at c3)
          · refine rn rfl ?_
            refine goal_drawL [2, 3] [12] 13 rfl ?_
            refine drnL [0, 1, 2, 3, 4, 5] (by kernel_rfl) (by kernel_rfl) rfl rfl ?_
            refine AHL_did 6 rfl (by kernel_rfl) (by kernel_rfl) (by kernel_rfl) (by kernel_rfl) rfl rfl (dA_indexOwn rfl rfl rfl rfl rfl rfl rfl rfl rfl (by omega) (by (try simp); omega)) ?_
            refine AHL_did 7 rfl (by kernel_rfl) (by kernel_rfl) (by kernel_rfl) (by kernel_rfl) rfl rfl (dA_step rfl) ?_
            refine AHL_did 8 rfl (by kernel_rfl) (by kernel_rfl) (by kernel_rfl) (by kernel_rfl) rfl rfl (dA_loadEl (eQ p) rfl rfl rfl rfl (map_at (by simpa using hp)) rfl rfl rfl) ?_
            refine drnL [9] (by kernel_rfl) (by kernel_rfl) rfl rfl ?_
            refine AHL_did 10 rfl (by kernel_rfl) (by kernel_rfl) (by kernel_rfl) (by kernel_rfl) rfl rfl (dA_indexOwn rfl rfl rfl rfl rfl rfl rfl rfl rfl (by omega) (by (try simp); omega)) ?_
            refine AHL_did 11 rfl (by kernel_rfl) (by kernel_rfl) (by kernel_rfl) (by kernel_rfl) rfl rfl (dA_step rfl) ?_
            refine AHL_lateDid 12 rfl (by kernel_rfl) rfl rfl (dA_storeEl (eQ p) ((s.set j ⟨p.name, p.kind, !p.hasD, p.dflt⟩).map eQ) true rfl rfl rfl rfl rfl (map_at (by simpa using hp)) rfl rfl (by simp [eQ]) (by rw [map_set]; simp [patch, eQ]) (fun _ => noOwnR_map _ eQ_noOwn _)) ?_
            refine AH_end (by kernel_rfl) ?_
            refine rn rfl ?_
            exact cut_nrm [3, 2] [1, 3, 2] rfl ⟨s.set j ⟨p.name, p.kind, !p.hasD, p.dflt⟩, k1 + 1 + 1, small_set hsm (by exact hpn), by omega, by omega, by simp, rfl⟩
          · refine rn rfl ?_
            refine goal_cond rfl (fun c4 => ?_) (fun c4 => ?_) <;> (try simp only [gt_iff_lt, ge_iff_le, bne_iff_ne, ne_eq, bne_eq_false_iff_eq, beq_iff_eq, beq_eq_false_iff_ne, Bool.not_eq_true', Bool.not_eq_false', decide_eq_true_eq, decide_eq_false_iff_not, List.length_map] at c4)
            · refine rn rfl ?_
              refine goal_draw' [3] 9 rfl ?_
              refine drn [0, 1, 2, 3] (by kernel_rfl) (by kernel_rfl) rfl rfl ?_
              refine AH_oneDid 4 rfl (by kernel_rfl) rfl (dA_step rfl) (mdOk rfl) ?_
              refine AH_one (i := 5) (by kernel_rfl) (step_callE [0] rfl rfl rfl rfl rfl rfl (rfl) (one_ct bs (k1 + 1 + 1) [100, 5] hb (by omega) (by omega) (by decide) (by decide))) (by simp) ?_
              rintro σ2 ⟨r, o', ⟨⟨w, hw, rfl⟩, rfl⟩, hσ⟩
              obtain rfl := Option.some.inj hσ
              clear hσ
              refine AH_did 6 rfl (by kernel_rfl) (by kernel_rfl) (by kernel_rfl) rfl rfl (dA_indexOwn rfl rfl rfl rfl rfl rfl rfl rfl rfl (by omega) (by (try simp); omega)) ?_
              refine AH_did 7 rfl (by kernel_rfl) (by kernel_rfl) (by kernel_rfl) rfl rfl (dA_step rfl) ?_
              refine AH_oneDid 8 rfl (by kernel_rfl) rfl (dA_storeEl (eQ p) ((s.set j ⟨p.name, p.kind, p.hasD, w⟩).map eQ) true rfl rfl rfl rfl rfl (map_at (by simpa using hp)) rfl rfl (by simp [eQ]) (by rw [map_set]; simp [patch, eQ]) (fun _ => noOwnR_map _ eQ_noOwn _)) (mdOk rfl) ?_
              refine AH_end (by kernel_rfl) ?_
              refine rn rfl ?_
              exact cut_nrm [3, 2] [1, 3, 2] rfl ⟨s.set j ⟨p.name, p.kind, p.hasD, w⟩, k1 + 1 + 1 + 1, small_set hsm (by exact hpn), by omega, by omega, by simp, rfl⟩
            · refine rn rfl ?_
              exact cut_nrm [3, 2] [1, 3, 2] rfl ⟨s, k1 + 1 + 1, hsm, by omega, by omega, rfl, rfl⟩
    · refine rn rfl ?_
      exact cut_nrm [3, 2] [1, 3, 2] rfl ⟨s, k1, hsm, by omega, by omega, rfl, rfl⟩
  rintro _ ⟨t, k2, ht, hk3, hk4, htl, rfl⟩
  refine rn rfl (fin_is [] rfl ⟨t, k2, ht, by omega, by omega, ?_, rfl⟩)
  rw [← htl]; exact asG t

theorem eqParam_b (x : Param) : eqCells (eQ x) (eQ x) = some true := by
  simp [eqCells, eQ, eqCell, eqKind]

theorem equalSigSelf_ct (s : Sig) (h : s.length ≤ 16777216) : ACalls pk 13 [.agg (eG s), .agg (eG s)] [] (fun r o => r = .one (.bool true) ∧ o = []) := by
  refine acalls_of_body Tryz.func13 rfl (by kernel_rfl) rfl ?_
  refine rn rfl ?_
  refine goal_cond rfl (fun h0 => by simp at h0) (fun _ => ?_)
  refine rn rfl ?_
  refine goal_loop_keep (fun m σ => ∃ (n : Int) (i : Nat), n = i ∧ i ≤ s.length ∧ m = s.length - i ∧
      σ = ⟨[(5, .one (.int .i64 n)), (3, .one (.op 1 0 0)), (2, .one (.op 0 0 0))], [some ⟨1, [eG s], false, false, true⟩, some ⟨1, [eG s], false, false, true⟩], []⟩) s.length [5, 3, 2] [0, 1] rfl
    ⟨_, 0, rfl, by omega, by omega, rfl⟩ ?_
  rintro m σ ⟨n, i, rfl, hi, rfl, rfl⟩
  refine rn rfl ?_
  refine goal_cond rfl (fun hc => ?_) (fun hc => ?_) <;> (try simp only [gt_iff_lt, ge_iff_le, bne_iff_ne, ne_eq, bne_eq_false_iff_eq, beq_iff_eq, beq_eq_false_iff_ne, Bool.not_eq_true', Bool.not_eq_false', decide_eq_true_eq, decide_eq_false_iff_not, List.length_map] at hc)
  · obtain ⟨x, hx⟩ := at_some (xs := s) (i := i) (by omega)
    refine rn rfl ?_
    refine goal_draw' [0, 1] 11 rfl ?_
    refine drn [0, 1, 2, 5, 6, 7] (by kernel_rfl) (by kernel_rfl) rfl rfl ?_
    refine AH_did 3 rfl (by kernel_rfl) (by kernel_rfl) (by kernel_rfl) rfl rfl (dA_index (eQ x) rfl rfl rfl rfl rfl rfl rfl (by omega) (by (try simp); omega) (map_at (by simpa using hx)) rfl) ?_
    refine drn [4] (by kernel_rfl) (by kernel_rfl) rfl rfl ?_
    refine AH_did 8 rfl (by kernel_rfl) (by kernel_rfl) (by kernel_rfl) rfl rfl (dA_index (eQ x) rfl rfl rfl rfl rfl rfl rfl (by omega) (by (try simp); omega) (map_at (by simpa using hx)) rfl) ?_
    refine drn [9] (by kernel_rfl) (by kernel_rfl) rfl rfl ?_
    refine AH_did 10 rfl (by kernel_rfl) (by kernel_rfl) (by kernel_rfl) rfl rfl (dA_eqStruct (b := true) false (.inr ⟨rfl, rfl⟩) rfl rfl rfl rfl rfl rfl (eqParam_b x) (by kernel_rfl) (by kernel_rfl) (by kernel_rfl) rfl) ?_
    refine AH_end (by kernel_rfl) ?_
    refine rn rfl ?_
    refine goal_cond rfl (fun h0 => by cases h0) (fun _ => ?_)
    refine rn rfl ?_
    refine round_keep (s.length - (i + 1)) [5, 3, 2] [0, 1] (by omega) rfl ⟨_, i + 1, wrap64 (by omega) (by omega), by omega, rfl, rfl⟩
  · refine rn rfl (round_ext ?_)
    exact rn rfl (fin_is [] rfl ⟨rfl, rfl⟩)

theorem iParseSigD_ct (t : Str) (hl : t.length ≤ 1048576) : ACalls pk 11 [.one (.str t)] [] (fun r o => r = .tup [.agg (eG (ParS t).1), .one (.bool (ParS t).2)] ∧ o = []) :=
  (iParseSig_ct t hl).told [] (by rintro r o ⟨rfl, rfl⟩; exact ⟨_, _, rfl, congrArg (fun x => T.tup [x, .one (.bool (ParS t).2)]) (asG _), rfl⟩)

theorem SgF_len (s : Sig) : (SgF s).length ≤ 1000 := by
  unfold SgF
  split
  · rename_i h
    have hS := okSig_iff.1 h
    obtain ⟨p1, p2⟩ := pts_len hS.params s.length (Nat.le_refl _)
    have h1 := join_len2 [44, 32] (pts s s.length) 30 p2
    have h2 := hS.len
    have h3 : (30 + ([44, 32] : Str).length) * (pts s s.length).length ≤ (30 + 2) * 24 := Nat.mul_le_mul_left _ (by omega)
    unfold SgT
    omega
  · simp

section
open Go Go.RowKit
theorem cutSuffix_ct (s p : Str) (hs : s.length ≤ 9223372036854775807) : ACalls pk 24 [.one (.str s), .one (.str p)] [] (fun r o => r = .tup [.one (.str (Lib.trimSuffix s p)), .one (.bool (Lib.hasSuffix s p))] ∧ o = []) := by
  refine acalls_plain ⟨_, Tryz.func24, rfl, by kernel_rfl⟩ fun D w vals hG hT => ?_
  simp only [TRs, TR, CR] at hT
  obtain ⟨x, r, rfl, rfl, y, r', rfl, rfl, rfl⟩ := hT
  refine (Go.Proofs.Any.strings_CutSuffix lays_n104 ⟨s.toArray⟩ ⟨p.toArray⟩ w (by simp [ByteArray.size]; omega)).mono ?_
  rintro en w' ⟨rfl, rfl⟩
  refine ⟨_, _, rfl, Below.refl _ _, rfl, ?_⟩
  simp only [TR, TRs, CR]
  exact ⟨_, rfl, _, _, rfl, rfl, _, _, rfl, rfl, rfl⟩

theorem suffix_last (a : Str) (c : UInt8) : Lib.hasSuffix (a ++ [c]) [c] = true ∧ Lib.trimSuffix (a ++ [c]) [c] = a := by
  have h : Lib.hasSuffix (a ++ [c]) [c] = true := by
    unfold Lib.hasSuffix
    rw [List.isSuffixOf_iff_suffix]
    exact List.suffix_append _ _
  refine ⟨h, ?_⟩
  unfold Lib.trimSuffix
  rw [if_pos h]
  simp

theorem cut_at {c : UInt8} {a b : Str} (h : c ∉ a) : Lib.cut (a ++ [c] ++ b) [c] = (a, b, true) := by
  have e : a ++ [c] ++ b = a ++ c :: b := by simp
  unfold Lib.cut
  rw [e, index_at h, if_pos (by omega)]
  simp

theorem nameLen {n : Str} (h : okName n = true) : n.length ≤ 6 := by
  unfold okName inR at h
  simp only [Bool.and_eq_true, decide_eq_true_eq] at h
  omega

structure Fnc where
  name : Str
  sig : Sig

def eU (f : Fnc) : List C := [.str f.name, .fs (f.sig.map eQ)]

def okU (f : Fnc) : Bool := okName f.name && okSig f.sig

def FuT (f : Fnc) : Str := f.name ++ [40] ++ SgF f.sig ++ [41]

def FuF (f : Fnc) : Str := if okU f = true then FuT f else []

structure LenU (f : Fnc) : Prop where
  name : f.name.length ≤ 9223372036854775807
  len : f.sig.length ≤ 9223372036854775807
  names : ∀ p ∈ f.sig, p.name.length ≤ 9223372036854775807

theorem iFuncText_ct (f : Fnc) (hf : LenU f) : ACalls pk 7 [.agg (eU f)] [] (fun r o => r = .one (.str (FuF f)) ∧ o = []) := by
  refine acalls_of_body Tryz.func7 rfl (by kernel_rfl) rfl ?_
  refine rn rfl ?_
  refine goal_step (step_call [] rfl rfl rfl rfl rfl rfl (isName_ct f.name hf.name)) ?_
  rintro σ2 ⟨r, o', ⟨rfl, rfl⟩, hσ⟩
  obtain rfl := Option.some.inj hσ
  clear hσ
  refine rn rfl ?_
  cases hn : okName f.name with
  | false =>
    have e : FuF f = [] := by unfold FuF okU; rw [hn]; rfl
    rw [e]
    refine goal_guard rfl rfl rfl (fun _ => ?_) (fun h => by simp at h)
    exact rn rfl (fin_is [] rfl ⟨rfl, rfl⟩)
  | true =>
    have hl6 := nameLen hn
    refine goal_guard rfl rfl rfl (fun h => by simp at h) (fun _ => ?_)
    refine rn rfl ?_
    refine goal_step (step_call [] rfl rfl rfl rfl rfl rfl (ivalidSig_ct f.sig hf.len hf.names)) ?_
    rintro σ2 ⟨r, o', ⟨rfl, rfl⟩, hσ⟩
    obtain rfl := Option.some.inj hσ
    clear hσ
    refine rn rfl ?_
    cases hs : okSig f.sig with
    | false =>
      have e : FuF f = [] := by unfold FuF okU; rw [hn, hs]; rfl
      rw [e]
      refine goal_cond rfl (fun _ => ?_) (fun h => by simp at h)
      exact rn rfl (fin_is [] rfl ⟨rfl, rfl⟩)
    | true =>
      have e : FuF f = FuT f := by unfold FuF okU; rw [hn, hs]; rfl
      have hl := SgF_len f.sig
      rw [e]
      refine goal_cond rfl (fun h => by simp at h) (fun _ => ?_)
      refine rn rfl ?_
      refine goal_draw' [0] 9 rfl ?_
      refine drn [0, 1, 3, 4] (by kernel_rfl) (by kernel_rfl) rfl rfl ?_
      refine AH_did 2 rfl (by kernel_rfl) (by kernel_rfl) (by kernel_rfl) rfl rfl (dA_concat (f.name ++ [40]) rfl rfl rfl (by (try simp); omega) rfl rfl) ?_
      refine AH_one (i := 5) (by kernel_rfl) (step_call [] rfl rfl rfl rfl rfl rfl (iSigText_ct f.sig hf.len hf.names)) (by simp) ?_
      rintro σ2 ⟨r, o', ⟨rfl, rfl⟩, hσ⟩
      obtain rfl := Option.some.inj hσ
      clear hσ
      refine AH_did 6 rfl (by kernel_rfl) (by kernel_rfl) (by kernel_rfl) rfl rfl (dA_concat (f.name ++ [40] ++ SgF f.sig) rfl rfl rfl (by (try simp); omega) rfl rfl) ?_
      refine AH_did 7 rfl (by kernel_rfl) (by kernel_rfl) (by kernel_rfl) rfl rfl (dA_concat (f.name ++ [40] ++ SgF f.sig ++ [41]) rfl rfl rfl (by (try simp); omega) rfl rfl) ?_
      refine drn [8] (by kernel_rfl) (by kernel_rfl) rfl rfl ?_
      refine AH_end (by kernel_rfl) ?_
      refine rn rfl ?_
      refine rn rfl (fin_is [] rfl ⟨rfl, rfl⟩)

theorem sFuncText_ct (f : Fnc) (hf : LenU f) : ACalls pk 8 [.agg (eU f)] [] (fun r o => r = .one (.str (FuF f)) ∧ o = []) := by
  have hv : ACalls pk 21 [.agg (eU f)] [] (fun r o => r = .one (.bool (okU f)) ∧ o = []) := by
    refine acalls_of_body Tryz.func21 rfl (by kernel_rfl) rfl ?_
    refine rn rfl ?_
    refine goal_step (step_call [] rfl rfl rfl rfl rfl rfl (validName_ct f.name hf.name)) ?_
    rintro σ2 ⟨r, o', ⟨rfl, rfl⟩, hσ⟩
    obtain rfl := Option.some.inj hσ
    clear hσ
    refine rn rfl ?_
    cases hn : okName f.name with
    | false =>
      have e : okU f = false := by unfold okU; rw [hn]; rfl
      rw [e]
      refine goal_guard rfl rfl rfl (fun h => by cases h) (fun _ => ?_)
      exact rn rfl (fin_is [] rfl ⟨rfl, rfl⟩)
    | true =>
      have e : okU f = okSig f.sig := by unfold okU; rw [hn]; rfl
      rw [e]
      refine goal_guard rfl rfl rfl (fun _ => ?_) (fun h => by cases h)
      refine rn rfl ?_
      refine goal_step (step_call [] rfl rfl rfl rfl rfl rfl (svalidSig_ct f.sig hf.len hf.names)) ?_
      rintro σ2 ⟨r, o', ⟨rfl, rfl⟩, hσ⟩
      obtain rfl := Option.some.inj hσ
      clear hσ
      refine rn rfl ?_
      exact rn rfl (fin_is [] rfl ⟨rfl, rfl⟩)
  refine acalls_of_body Tryz.func8 rfl (by kernel_rfl) rfl ?_
  refine rn rfl ?_
  refine goal_step (step_call [] rfl rfl rfl rfl rfl rfl (hv)) ?_
  rintro σ2 ⟨r, o', ⟨rfl, rfl⟩, hσ⟩
  obtain rfl := Option.some.inj hσ
  clear hσ
  refine rn rfl ?_
  cases ho : okU f with
  | false =>
    have e : FuF f = [] := by unfold FuF; rw [ho]; rfl
    rw [e]
    refine goal_cond rfl (fun _ => ?_) (fun h => by simp at h)
    exact rn rfl (fin_is [] rfl ⟨rfl, rfl⟩)
  | true =>
    have e : FuF f = FuT f := by unfold FuF; rw [ho]; rfl
    obtain ⟨hn, hs⟩ := Bool.and_eq_true_iff.1 ho
    have hl6 := nameLen hn
    have hl := SgF_len f.sig
    have hT := sSigText_ct f.sig (okSig_iff.1 hs)
    have eT : SgT f.sig = SgF f.sig := by unfold SgF; rw [if_pos hs]
    rw [eT] at hT
    have ht : ACalls pk 22 [.agg (eU f)] [] (fun r o => r = .one (.str (FuT f)) ∧ o = []) := by
      refine acalls_of_body Tryz.func22 rfl (by kernel_rfl) rfl ?_
      refine rn rfl ?_
      refine goal_draw' [0] 9 rfl ?_
      refine drn [0, 1, 3, 4] (by kernel_rfl) (by kernel_rfl) rfl rfl ?_
      refine AH_did 2 rfl (by kernel_rfl) (by kernel_rfl) (by kernel_rfl) rfl rfl (dA_concat (f.name ++ [40]) rfl rfl rfl (by (try simp); omega) rfl rfl) ?_
      refine AH_one (i := 5) (by kernel_rfl) (step_call [] rfl rfl rfl rfl rfl rfl (hT)) (by simp) ?_
      rintro σ2 ⟨r, o', ⟨rfl, rfl⟩, hσ⟩
      obtain rfl := Option.some.inj hσ
      clear hσ
      refine AH_did 6 rfl (by kernel_rfl) (by kernel_rfl) (by kernel_rfl) rfl rfl (dA_concat (f.name ++ [40] ++ SgF f.sig) rfl rfl rfl (by (try simp); omega) rfl rfl) ?_
      refine AH_did 7 rfl (by kernel_rfl) (by kernel_rfl) (by kernel_rfl) rfl rfl (dA_concat (f.name ++ [40] ++ SgF f.sig ++ [41]) rfl rfl rfl (by (try simp); omega) rfl rfl) ?_
      refine drn [8] (by kernel_rfl) (by kernel_rfl) rfl rfl ?_
      refine AH_end (by kernel_rfl) ?_
      refine rn rfl ?_
      refine rn rfl (fin_is [] rfl ⟨rfl, rfl⟩)
    rw [e]
    refine goal_cond rfl (fun h => by simp at h) (fun _ => ?_)
    refine rn rfl ?_
    refine goal_step (step_call [] rfl rfl rfl rfl rfl rfl (ht)) ?_
    rintro σ2 ⟨r, o', ⟨rfl, rfl⟩, hσ⟩
    obtain rfl := Option.some.inj hσ
    clear hσ
    refine rn rfl ?_
    exact rn rfl (fin_is [] rfl ⟨rfl, rfl⟩)

theorem fu_cut {f : Fnc} (h : okU f = true) : Lib.cut (FuT f) [40] = (f.name, SgF f.sig ++ [41], true) := by
  have hn : (40 : UInt8) ∉ f.name := name_no (Bool.and_eq_true_iff.1 h).1 (by decide)
  unfold FuT
  rw [List.append_assoc (f.name ++ [40])]
  exact cut_at hn

theorem iParseFunc_ct (f : Fnc) (h : okU f = true) : ACalls pk 9 [.one (.str (FuT f))] [] (fun r o => r = .tup [.agg (eU f), .one (.bool true)] ∧ o = []) := by
  obtain ⟨hn, hs⟩ := Bool.and_eq_true_iff.1 h
  have hS := okSig_iff.1 hs
  have hl6 := nameLen hn
  have hl := SgF_len f.sig
  have hlen := hS.len
  have hf : LenU f := ⟨by omega, by omega, fun p hp => by have := okQ_parts (hS.params p hp); omega⟩
  have hc := cut_ct (FuT f) [40] (by unfold FuT; simp; omega)
  rw [fu_cut h] at hc
  obtain ⟨s1, s2⟩ := suffix_last (SgF f.sig) 41
  have hx := cutSuffix_ct (SgF f.sig ++ [41]) [41] (by simp; omega)
  rw [s1, s2] at hx
  have hp := iParseSigD_ct (SgF f.sig) (by omega)
  rw [ParS_of hs] at hp
  have ht := iFuncText_ct f hf
  have e : FuF f = FuT f := by unfold FuF; rw [h]; rfl
  rw [e] at ht
  generalize FuT f = t at *
  generalize SgF f.sig = u at *
  refine acalls_of_body Tryz.func9 rfl (by kernel_rfl) rfl ?_
  refine rn rfl ?_
  refine goal_step (step_call [] rfl rfl rfl rfl rfl rfl (hc)) ?_
  rintro σ2 ⟨r, o', ⟨rfl, rfl⟩, hσ⟩
  obtain rfl := Option.some.inj hσ
  clear hσ
  refine rn rfl ?_
  refine rn rfl ?_
  refine goal_step (step_call [] rfl rfl rfl rfl rfl rfl (hx)) ?_
  rintro σ2 ⟨r, o', ⟨rfl, rfl⟩, hσ⟩
  obtain rfl := Option.some.inj hσ
  clear hσ
  refine rn rfl ?_
  refine rn rfl ?_
  refine goal_step (step_call [] rfl rfl rfl rfl rfl rfl (hp)) ?_
  rintro σ2 ⟨r, o', ⟨rfl, rfl⟩, hσ⟩
  obtain rfl := Option.some.inj hσ
  clear hσ
  refine rn rfl ?_
  refine rn rfl ?_
  refine goal_guard rfl rfl rfl (fun h => by simp at h) (fun _ => ?_)
  refine rn rfl ?_
  refine goal_guard rfl rfl rfl (fun h => by simp at h) (fun _ => ?_)
  refine rn rfl ?_
  refine goal_guard rfl rfl rfl (fun h => by simp at h) (fun _ => ?_)
  refine rn rfl ?_
  refine goal_step (step_call [] rfl rfl rfl rfl rfl rfl (ht)) ?_
  rintro σ2 ⟨r, o', ⟨rfl, rfl⟩, hσ⟩
  obtain rfl := Option.some.inj hσ
  clear hσ
  refine rn rfl ?_
  refine goal_cond rfl (fun h => by simp at h) (fun _ => ?_)
  refine rn rfl ?_
  exact rn rfl (fin_is [] rfl ⟨rfl, rfl⟩)

theorem equalFunc_ct (f : Fnc) (h : f.sig.length ≤ 16777216) : ACalls pk 10 [.agg (eU f), .agg (eU f)] [] (fun r o => r = .one (.bool true) ∧ o = []) := by
  refine acalls_of_body Tryz.func10 rfl (by kernel_rfl) rfl ?_
  refine rn rfl ?_
  refine goal_guard rfl rfl rfl (fun _ => ?_) (fun h => by simp at h)
  refine rn rfl ?_
  refine goal_step (step_call [] rfl rfl rfl rfl rfl rfl (equalSigSelf_ct f.sig h)) ?_
  rintro σ2 ⟨r, o', ⟨rfl, rfl⟩, hσ⟩
  obtain rfl := Option.some.inj hσ
  clear hσ
  refine rn rfl ?_
  exact rn rfl (fin_is [] rfl ⟨rfl, rfl⟩)

theorem someFunc_ct (bs : Str) (k : Int) (hb : bs.length ≤ 2000) (hk : 0 ≤ k) (hk' : k ≤ 1073710000) :
    ACalls pk 18 [.one (.op 0 0 0)] [oR bs k] (fun r o => ∃ f k', f.name.length ≤ 7 ∧ SmallS f.sig ∧ k ≤ k' ∧ k' ≤ k + 200 ∧ r = .agg (eU f) ∧ o = [oR bs k']) := by
  refine acalls_of_body Tryz.func18 rfl (by kernel_rfl) rfl ?_
  refine rn rfl ?_
  refine goal_step (step_callE [0] rfl rfl rfl rfl rfl rfl (rfl) (of_ct bs k [[102], [103], [104], [114, 117, 110], [102], [], [70]] hb hk (by omega) (by decide) (by decide))) ?_
  rintro σ2 ⟨r, o', ⟨⟨v, hv, rfl⟩, rfl⟩, hσ⟩
  obtain rfl := Option.some.inj hσ
  clear hσ
  refine rn rfl ?_
  refine goal_step (step_callE [0] rfl rfl rfl rfl rfl rfl (rfl) (someSignature_ct bs (k + 1) hb (by omega) (by omega))) ?_
  rintro σ2 ⟨r, o', ⟨s, k1, hs, hk1, hk2, rfl, rfl⟩, hσ⟩
  obtain rfl := Option.some.inj hσ
  clear hσ
  refine rn rfl ?_
  refine rn rfl (fin_is [] rfl ⟨⟨v, s⟩, k1, ?_, hs, by omega, by omega, rfl, rfl⟩)
  simp at hv
  rcases hv with rfl | rfl | rfl | rfl | rfl | rfl | rfl <;> simp

theorem drawFuncText_ct (bs : Str) : ACalls pk 6 [.one (.fs (bs.map rowB))] [] (fun r o => ∃ f, f.name.length ≤ 7 ∧ SmallS f.sig ∧ r = .agg (eU f) ∧ o = []) := by
  have hb : (bs.take 2000).length ≤ 2000 := by simp; omega
  refine acalls_of_body Tryz.func6 rfl (by kernel_rfl) rfl ?_
  refine rn rfl ?_
  refine goal_step (step_call [] rfl rfl rfl rfl rfl rfl (newReader_ct bs)) ?_
  rintro σ2 ⟨r, o', ⟨rfl, rfl⟩, hσ⟩
  obtain rfl := Option.some.inj hσ
  clear hσ
  refine rn rfl ?_
  refine goal_step (step_callE [1] rfl rfl rfl rfl rfl rfl rfl (someFunc_ct (bs.take 2000) 0 hb (by omega) (by omega))) ?_
  rintro σ2 ⟨r, o', ⟨f, k1, hn, hs, hk1, hk2, rfl, rfl⟩, hσ⟩
  obtain rfl := Option.some.inj hσ
  clear hσ
  exact rn rfl (fin_is [] rfl ⟨f, hn, hs, rfl, rfl⟩)

theorem fnFuncText_ct (bs : Str) (hl : bs.length ≤ 9223372036854775807) : ACalls pk 3 [.one (.fs (bs.map rowB))] [] (fun r o => r = .one (.bool true) ∧ o = []) := by
  refine acalls_of_body Tryz.func3 rfl (by kernel_rfl) rfl ?_
  refine rn rfl ?_
  refine goal_cond rfl (fun h => ?_) (fun h => ?_) <;> (try simp only [gt_iff_lt, ge_iff_le, bne_iff_ne, ne_eq, bne_eq_false_iff_eq, beq_iff_eq, beq_eq_false_iff_ne, Bool.not_eq_true', Bool.not_eq_false', decide_eq_true_eq, decide_eq_false_iff_not, List.length_map] at h)
  · exact rn rfl (fin_is [] rfl ⟨rfl, rfl⟩)
  · refine rn rfl ?_
    refine goal_step (step_call [] rfl rfl rfl rfl rfl rfl (drawFuncText_ct bs)) ?_
    rintro σ2 ⟨r, o', ⟨f, hn, hs, rfl, rfl⟩, hσ⟩
    obtain rfl := Option.some.inj hσ
    clear hσ
    have hl8 := hs.len
    have hf : LenU f := ⟨by omega, by omega, fun p hp => by have := hs.names p hp; omega⟩
    have hI := iFuncText_ct f hf
    have hS := sFuncText_ct f hf
    have hq := equalFunc_ct f (by omega)
    have hb : ¬ FuF f = [] → okU f = true ∧ FuT f = FuF f := fun h0 => by
      unfold FuF at h0 ⊢
      cases hu : okU f with
      | true => exact ⟨rfl, rfl⟩
      | false => rw [hu] at h0; exact absurd rfl h0
    have hp := iParseFunc_ct f
    generalize FuF f = t at *
    refine rn rfl ?_
    refine goal_step (step_call [] rfl rfl rfl rfl rfl rfl (hI)) ?_
    rintro σ2 ⟨r, o', ⟨rfl, rfl⟩, hσ⟩
    obtain rfl := Option.some.inj hσ
    clear hσ
    refine rn rfl ?_
    refine rn rfl ?_
    refine goal_step (step_call [] rfl rfl rfl rfl rfl rfl (hS)) ?_
    rintro σ2 ⟨r, o', ⟨rfl, rfl⟩, hσ⟩
    obtain rfl := Option.some.inj hσ
    clear hσ
    refine rn rfl ?_
    refine goal_guard rfl rfl rfl (fun h1 => by simp at h1) (fun _ => ?_)
    refine rn rfl ?_
    cases h2 : (t == []) with
    | true =>
      refine goal_cond rfl (fun _ => ?_) (fun h0 => by simp at h0)
      refine rn rfl ?_
      refine goal_step (step_call [] rfl rfl rfl rfl rfl rfl (hS)) ?_
      rintro σ2 ⟨r, o', ⟨rfl, rfl⟩, hσ⟩
      obtain rfl := Option.some.inj hσ
      clear hσ
      refine rn rfl ?_
      refine rn rfl (fin_is [] rfl ⟨?_, rfl⟩)
      simp
    | false =>
      obtain ⟨b1, b2⟩ := hb (by simpa using h2)
      have hp := hp b1
      rw [b2] at hp
      refine goal_cond rfl (fun h0 => by simp at h0) (fun _ => ?_)
      refine rn rfl ?_
      refine goal_step (step_call [] rfl rfl rfl rfl rfl rfl (hp)) ?_
      rintro σ2 ⟨r, o', ⟨rfl, rfl⟩, hσ⟩
      obtain rfl := Option.some.inj hσ
      clear hσ
      refine rn rfl ?_
      refine rn rfl ?_
      refine goal_guard rfl rfl rfl (fun _ => ?_) (fun h0 => by cases h0)
      refine rn rfl ?_
      refine goal_step (step_call [] rfl rfl rfl rfl rfl rfl (hq)) ?_
      rintro σ2 ⟨r, o', ⟨rfl, rfl⟩, hσ⟩
      obtain rfl := Option.some.inj hσ
      clear hσ
      refine rn rfl ?_
      exact rn rfl (fin_is [] rfl ⟨rfl, rfl⟩)
end

section
open Go Go.ChangeShapes Go.WideShapes Go.ChangeAt Go.RowKit
theorem var_heap {P : Program} {W : World} {name : String} {g : Nat} {cs : Array Value} (hn : P.globalNamed name = some g) (h : W.var? P name = some cs) : ∃ t fr, W.heap[g]? = some (.cells cs t fr) := by
  unfold World.var? at h
  rw [hn, Option.bind_some] at h
  split at h
  · rename_i cs' t fr hh
    cases h
    exact ⟨t, fr, hh⟩
  · cases h

theorem err_row (u : TypeId) (h : Tryz.prog.typeName? 3 u = some "*errors.errorString") : u = 131 := by
  have hs : "*" ++ "errors.errorString" = "*errors.errorString" := by decide
  exact typeName_ptr_named (nm := "errors.errorString") (by rw [hs]; kernel_rfl) (by kernel_rfl) (by decide) u (by rw [hs]; exact h)

theorem glob_entry {W : World} {a b d : String × DataW Unit} {r : List (String × DataW Unit)} (hsh : W.ShapedOpen Tryz.prog)
    (hL : laidMet Tryz.prog (a :: b :: ("internal/strconv.uint64pow10", Rows.laid_internal_strconv_uint64pow10) :: d :: ("strconv.ErrRange", Rows.laid_strconv_ErrRange) :: ("strconv.ErrSyntax", Rows.laid_strconv_ErrSyntax) :: r) W) : GlobOk W [] := by
  have hp : Lib.TabIs Tryz.prog W "internal/strconv.uint64pow10" .u64 Lib.pow10Tab := Lib.tabIs_of_head (g := gPow) (t := 135) (e := 114) (n := 20) (by kernel_rfl) (by kernel_rfl) (by kernel_rfl) (by kernel_rfl) (by kernel_rfl) (by kernel_rfl) (show laidMet _ (("internal/strconv.uint64pow10", Lib.tabData .u64 Lib.pow10Tab) :: _) W from hL.tail.tail)
  obtain ⟨a1, s1, h1, -⟩ := laid_sentinel hL.tail.tail.tail.tail (show Tryz.prog.globalNamed "strconv.ErrRange" = some 2 by kernel_rfl) (show (Tryz.prog.globals[2]?).map (·.type) = some 69 by kernel_rfl) Tryz.underlying69 err_row Tryz.underlying131 Tryz.underlying133 rfl rfl Tryz.underlying9 (by kernel_rfl) (by kernel_rfl)
  obtain ⟨a2, s2, h2, -⟩ := laid_sentinel hL.tail.tail.tail.tail.tail (show Tryz.prog.globalNamed "strconv.ErrSyntax" = some 1 by kernel_rfl) (show (Tryz.prog.globals[1]?).map (·.type) = some 69 by kernel_rfl) Tryz.underlying69 err_row Tryz.underlying131 Tryz.underlying133 rfl rfl Tryz.underlying9 (by kernel_rfl) (by kernel_rfl)
  obtain ⟨m, hm⟩ := Go.Proofs.cell_of_shapedOpen_int (g := 0) (zero := #[.int .i64 0]) (t := 3) hsh (of_decide_eq_true (by kernel_rfl)) (by kernel_rfl) rfl (by kernel_rfl) (by kernel_rfl) Tryz.underlying3
  obtain ⟨t1, f1, e1⟩ := var_heap (by kernel_rfl) h1
  obtain ⟨t2, f2, e2⟩ := var_heap (by kernel_rfl) h2
  obtain ⟨t3, f3, e3⟩ := var_heap (g := gPow) (by kernel_rfl) hp
  intro g hg
  refine ⟨by rintro ⟨id, ad, esz, cap, n, he, _⟩; simp at he, ?_⟩
  simp only [GL, List.mem_cons, List.not_mem_nil, or_false] at hg
  rcases hg with rfl | rfl | rfl | rfl
  · unfold World.cell? at hm
    split at hm
    · rename_i cs t fr hh
      split at hm
      · cases hm
      · exact ⟨_, hh, cs, t, fr, rfl, fun _ => ⟨m, by simpa using hm⟩, fun h => absurd h (by decide), fun h => absurd h (by decide)⟩
    · cases hm
  · exact ⟨_, e2, _, _, _, rfl, fun h => absurd h (by decide), fun _ => ⟨_, _, rfl⟩, fun h => absurd h (by decide)⟩
  · exact ⟨_, e1, _, _, _, rfl, fun h => absurd h (by decide), fun _ => ⟨_, _, rfl⟩, fun h => absurd h (by decide)⟩
  · exact ⟨_, e3, _, _, _, rfl, fun h => absurd h (by decide), fun h => absurd h (by decide), fun _ => rfl⟩

/-- The wrap that keeps the world's shape and the listed variables. -/
theorem returnsInHanded_and_shaped {H : Type} {enc : TypeId × Value → H} {a : Assume} {C : Checked} {os : Os} {f : FuncId} {fn : Func} {s : ChangeSpec} {conds : List PathCond} {apart fresh handsOn again : Bool} {X : World → Array Value → Prop}
    (hX : ∀ (w w' : World) (args : Array Value), w.heap = w'.heap → X w args → X w' args)
    (own : ownKnob C.prog.godebug = none) (started : os.Started) (noInit : C.prog.inits.idxOf? f = none) (hfn : C.prog.funcs[f]? = some fn)
    (witness : ∃ (w : World) (tape : Tape) (i : Input), w.os = os ∧ (w.forCall tape i).Shaped C.prog ∧ i.vars = [] ∧ Input.okWide C.prog (w.forCall tape i) .any w.heap.size f i ∧
      ((s.pre enc C.prog fn conds apart (w.forCall tape i).memory i.args ∧ X (w.forCall tape i).memory i.args) ∧ sizedMet enc C.prog fn (OpenSpec.ofChange s) apart (w.forCall tape i).memory i.args) ∧ a.holds C.prog (lone (Frame.enter C.prog f i.args .normal) [] (w.forCall tape i)))
    (contract : ∀ (W : World) (base : Nat) (args : Array Value) (ds gs : List (DataW H)) (before : List MemPlace),
      (∀ (j : Nat) t v, fn.params[j]? = some t → args[j]? = some v → Value.okWide C.prog W .any base t v) →
      DataW.Whole enc C.prog fn.params.toList s.vars apart W args.toList ds gs before →
      X W args → W.ShapedOpen C.prog →
      Calls C.prog f args W fun e W' => ∃ v, e = .returned v ∧ s.post enc C.prog fn apart fresh handsOn again W args v W') :
    ReturnsInHanded a C os f .any (fun w args => (s.pre enc C.prog fn conds apart w args ∧ X w args) ∧ sizedMet enc C.prog fn (OpenSpec.ofChange s) apart w args) (s.post enc C.prog fn apart fresh handsOn again) := by
  refine returnsInHanded_of_calls own started noInit witness ?_
  intro w tape i _ hsh _ hok hpre hholds
  obtain ⟨_, _, _, fn', hfn', _, _, _, _, hval⟩ := hok
  have e : fn' = fn := Option.some.inj (hfn'.symm.trans hfn)
  subst e
  obtain ⟨⟨⟨ds, gs, before, hw, hc⟩, hx⟩, hz⟩ := hpre
  have hw' := DataW.Whole.of_heap (w' := w.forCall tape i) (by rfl) hw
  refine (contract (w.forCall tape i) w.heap.size i.args ds gs before hval hw' (hX _ _ _ (by rfl) hx) hsh).mono fun e W' ⟨v, he, hp⟩ => ?_
  subst he
  exact ChangeSpec.post_blind hp
end

end Go.Proofs.YtkchcffmefbomaaGreatDoor
