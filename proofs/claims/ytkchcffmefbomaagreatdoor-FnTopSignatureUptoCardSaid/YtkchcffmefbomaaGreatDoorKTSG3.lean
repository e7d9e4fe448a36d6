/- Part 3 of the proof: an abstract machine over the model; contracts of the functions that the law reaches. -/
import Derived.Test.YtkchcffmefbomaaGreatDoorKTSG2
set_option linter.unusedVariables false
set_option linter.unusedSimpArgs false
namespace Go.Proofs.YtkchcffmefbomaaGreatDoor
open Go
set_option maxRecDepth 100000
set_option maxHeartbeats 1000000

def okQ (p : Param) : Bool := okName p.name && inR p.kind 0 4 && okVal p.dflt && (p.hasD || p.dflt == 0) && (singleQ p || !p.hasD)

def nextQ (l p : Param) : Bool := decide (l.kind ≤ p.kind) && (p.kind != l.kind || singleQ p) && (!placedQ p || !l.hasD || p.hasD)

def stepQ (pre : Sig) (p : Param) : Bool := okQ p && !pre.any (qIs p.name) && (match pre.getLast? with
  | none => true
  | some l => nextQ l p)

def okQs : Sig → Sig → Bool
  | _, [] => true
  | pre, p :: r => stepQ pre p && okQs (pre ++ [p]) r

def okSig (s : Sig) : Bool := okQs [] s && decide (s.length ≤ 8)

theorem take_snoc {α : Type} {xs : List α} {i : Nat} {x : α} (h : xs[i]? = some x) : xs.take i ++ [x] = xs.take (i + 1) := by
  rw [List.take_add_one, h]; rfl

theorem okQs_at {s : Sig} {i : Nat} {p : Param} (h : okQs [] s = okQs (s.take i) (s.drop i)) (hp : s[i]? = some p) : okQs [] s = (stepQ (s.take i) p && okQs (s.take (i + 1)) (s.drop (i + 1))) := by
  rw [h, drop_at hp, okQs, take_snoc hp]

theorem okSig_stop {s : Sig} {i : Nat} {p : Param} (h : okQs [] s = okQs (s.take i) (s.drop i)) (hp : s[i]? = some p) (hf : stepQ (s.take i) p = false) : okSig s = false := by
  rw [okSig, okQs_at h hp, hf]; rfl

theorem okQs_go {s : Sig} {i : Nat} {p : Param} (h : okQs [] s = okQs (s.take i) (s.drop i)) (hp : s[i]? = some p) (hf : stepQ (s.take i) p = true) : okQs [] s = okQs (s.take (i + 1)) (s.drop (i + 1)) := by
  rw [okQs_at h hp, hf]; rfl

theorem last_take {α : Type} {xs : List α} {i : Nat} {x : α} (h : xs[i]? = some x) : (xs.take (i + 1)).getLast? = some x := by
  rw [← take_snoc h]; simp

theorem ivalidSig_ct (s : Sig) (hb : s.length ≤ 9223372036854775807) (hn : ∀ p ∈ s, p.name.length ≤ 9223372036854775807) :
    ACalls pk 15 [.agg (eG s)] [] (fun r o => r = .one (.bool (okSig s)) ∧ o = []) := by
  refine acalls_of_body Tryz.func15 rfl (by kernel_rfl) rfl ?_
  refine rn rfl ?_
  refine goal_loop_keep (fun m σ => ∃ (n L : Int) (i : Nat) (ob : Bool), n = i ∧ L = s.length ∧ i ≤ s.length ∧ m = s.length - i ∧ okQs [] s = okQs (s.take i) (s.drop i) ∧
      (∀ l, (s.take i).getLast? = some l → okQ l = true ∧ (placedQ l = true → ob = l.hasD)) ∧ (i = 0 → ob = false) ∧
      σ = ⟨[(10, .one (.int .i64 n)), (9, .one (.int .i64 L)), (8, .one (.fs (s.map eQ))), (3, .one (.bool ob)), (1, .one (.op 0 0 0))], [some ⟨1, [eG s], false, false, true⟩], []⟩) s.length [10, 9, 8, 3, 1] [0] rfl
    ⟨_, _, 0, _, rfl, by simp, by omega, by omega, by simp, by simp, fun _ => rfl, rfl⟩ ?_
  rintro m σ ⟨n, L, i, ob, rfl, rfl, hi, rfl, hok, hlast, hzero, rfl⟩
  refine rn rfl ?_
  refine goal_cond rfl (fun h => ?_) (fun h => ?_) <;> (try simp only [gt_iff_lt, ge_iff_le, bne_iff_ne, ne_eq, bne_eq_false_iff_eq, beq_iff_eq, beq_eq_false_iff_ne, Bool.not_eq_true', Bool.not_eq_false', decide_eq_true_eq, decide_eq_false_iff_not, List.length_map] at h)
  · obtain ⟨p, hp⟩ := at_some (xs := s) (i := i) (by omega)
    have hstop := okSig_stop hok hp
    have hgo := okQs_go hok hp
    have hpn := hn p (List.mem_of_getElem? hp)
    refine rn rfl ?_
    refine goal_did rfl rfl (dA_index (eQ p) rfl rfl rfl rfl rfl rfl rfl (by omega) (by (try simp); omega) (map_at (by simpa using hp)) rfl) ?_
    refine rt 5 rfl ?_
    refine goal_cutR (fun σ => okQ p = true ∧ σ = ⟨[(10, .one (.int .i64 i)), (9, .one (.int .i64 s.length)), (8, .one (.fs (s.map eQ))), (5, .one (.op 1 0 0)), (4, .one (.int .i64 i)), (3, .one (.bool ob)), (1, .one (.op 0 0 0))],
      [some ⟨1, [eG s], false, false, true⟩, some ⟨4, [eQ p], false, false, true⟩], []⟩) ?_ ?_
    · refine rn rfl ?_
      refine goal_step (step_call [] rfl rfl rfl rfl rfl rfl (isName_ct p.name hpn)) ?_
      rintro σ2 ⟨r, o', ⟨rfl, rfl⟩, hσ⟩
      obtain rfl := Option.some.inj hσ
      clear hσ
      refine rn rfl ?_
      refine goal_guard rfl rfl rfl (fun h1 => ?_) (fun h1 => ?_) <;> (try simp only [gt_iff_lt, ge_iff_le, bne_iff_ne, ne_eq, bne_eq_false_iff_eq, beq_iff_eq, beq_eq_false_iff_ne, Bool.not_eq_true', Bool.not_eq_false', decide_eq_true_eq, decide_eq_false_iff_not, List.length_map] at h1)
      · refine rn rfl ?_
        refine cut_ret ?_
        refine round_ret ?_
        refine fin_is [] rfl ⟨?_, rfl⟩
        rw [hstop (by simp [stepQ, okQ, h1])]
      refine rn rfl ?_
      refine goal_step (step_call [] rfl rfl rfl rfl rfl rfl (iin_ct p.kind 0 4)) ?_
      rintro σ2 ⟨r, o', ⟨rfl, rfl⟩, hσ⟩
      obtain rfl := Option.some.inj hσ
      clear hσ
      refine rn rfl ?_
      refine goal_guard rfl rfl rfl (fun h2 => ?_) (fun h2 => ?_) <;> (try simp only [gt_iff_lt, ge_iff_le, bne_iff_ne, ne_eq, bne_eq_false_iff_eq, beq_iff_eq, beq_eq_false_iff_ne, Bool.not_eq_true', Bool.not_eq_false', decide_eq_true_eq, decide_eq_false_iff_not, List.length_map] at h2)
      · refine rn rfl ?_
        refine cut_ret ?_
        refine round_ret ?_
        refine fin_is [] rfl ⟨?_, rfl⟩
        rw [hstop (by simp [stepQ, okQ, h2])]
      refine rn rfl ?_
      refine goal_step (step_call [] rfl rfl rfl rfl rfl rfl (isValue_ct p.dflt)) ?_
      rintro σ2 ⟨r, o', ⟨rfl, rfl⟩, hσ⟩
      obtain rfl := Option.some.inj hσ
      clear hσ
      refine rn rfl ?_
      refine goal_guard rfl rfl rfl (fun h3 => ?_) (fun h3 => ?_) <;> (try simp only [gt_iff_lt, ge_iff_le, bne_iff_ne, ne_eq, bne_eq_false_iff_eq, beq_iff_eq, beq_eq_false_iff_ne, Bool.not_eq_true', Bool.not_eq_false', decide_eq_true_eq, decide_eq_false_iff_not, List.length_map] at h3)
      · refine rn rfl ?_
        refine cut_ret ?_
        refine round_ret ?_
        refine fin_is [] rfl ⟨?_, rfl⟩
        rw [hstop (by simp [stepQ, okQ, h3])]
      refine rn rfl ?_
      refine goal_guard rfl rfl rfl (fun h4 => ?_) (fun h4 => ?_) <;> (try simp only [gt_iff_lt, ge_iff_le, bne_iff_ne, ne_eq, bne_eq_false_iff_eq, beq_iff_eq, beq_eq_false_iff_ne, Bool.not_eq_true', Bool.not_eq_false', decide_eq_true_eq, decide_eq_false_iff_not, List.length_map] at h4)
      · refine rn rfl ?_
        refine goal_guard rfl rfl rfl (fun h5 => ?_) (fun h5 => ?_) <;> (try simp only [gt_iff_lt, ge_iff_le, bne_iff_ne, ne_eq, bne_eq_false_iff_eq, beq_iff_eq, beq_eq_false_iff_ne, Bool.not_eq_true', Bool.not_eq_false', decide_eq_true_eq, decide_eq_false_iff_not, List.length_map] at h5)
        · refine rn rfl ?_
          refine cut_ret ?_
          refine round_ret ?_
          refine fin_is [] rfl ⟨?_, rfl⟩
          rw [hstop (by simp [stepQ, okQ, h4, h5])]
        · refine rn rfl ?_
          refine goal_guard rfl rfl rfl (fun h6 => by rw [h4] at h6; cases h6) (fun h6 => ?_)
          refine rn rfl ?_
          exact cut_nrm [10, 9, 8, 5, 4, 3, 1] [0, 1] rfl ⟨by rw [h5] at h3; simp [okQ, h1, h2, h3, h4, h5], rfl⟩
      · refine rn rfl ?_
        refine goal_guard rfl rfl rfl (fun h6 => ?_) (fun h6 => by rw [h4] at h6; cases h6)
        refine rn rfl ?_
        refine goal_step (step_call [] rfl rfl rfl rfl rfl rfl (isingle_ct p)) ?_
        rintro σ2 ⟨r, o', ⟨rfl, rfl⟩, hσ⟩
        obtain rfl := Option.some.inj hσ
        clear hσ
        refine rn rfl ?_
        refine goal_cond rfl (fun h7 => ?_) (fun h7 => ?_) <;> (try simp only [gt_iff_lt, ge_iff_le, bne_iff_ne, ne_eq, bne_eq_false_iff_eq, beq_iff_eq, beq_eq_false_iff_ne, Bool.not_eq_true', Bool.not_eq_false', decide_eq_true_eq, decide_eq_false_iff_not, List.length_map] at h7)
        · refine rn rfl ?_
          refine cut_ret ?_
          refine round_ret ?_
          refine fin_is [] rfl ⟨?_, rfl⟩
          rw [hstop (by simp [stepQ, okQ, h4, h7])]
        · refine rn rfl ?_
          exact cut_nrm [10, 9, 8, 5, 4, 3, 1] [0, 1] rfl ⟨by simp [okQ, h1, h2, h3, h4, h7], rfl⟩
    rintro _ ⟨hokq, rfl⟩
    refine rt 7 rfl ?_
    refine goal_cutR (fun σ => ∃ ob' : Bool, (placedQ p = true → ob = true → p.hasD = true) ∧ (placedQ p = true → ob' = p.hasD) ∧ (placedQ p = false → ob' = ob) ∧ σ = ⟨[(10, .one (.int .i64 i)), (9, .one (.int .i64 s.length)), (8, .one (.fs (s.map eQ))), (5, .one (.op 1 0 0)), (4, .one (.int .i64 i)), (3, .one (.bool ob')), (1, .one (.op 0 0 0))],
      [some ⟨1, [eG s], false, false, true⟩, some ⟨4, [eQ p], false, false, true⟩], []⟩) ?_ ?_
    · refine rn rfl ?_
      refine goal_step (step_call [] rfl rfl rfl rfl rfl rfl (iplaced_ct p)) ?_
      rintro σ2 ⟨r, o', ⟨rfl, rfl⟩, hσ⟩
      obtain rfl := Option.some.inj hσ
      clear hσ
      refine rn rfl ?_
      refine goal_cond rfl (fun h1 => ?_) (fun h1 => ?_) <;> (try simp only [gt_iff_lt, ge_iff_le, bne_iff_ne, ne_eq, bne_eq_false_iff_eq, beq_iff_eq, beq_eq_false_iff_ne, Bool.not_eq_true', Bool.not_eq_false', decide_eq_true_eq, decide_eq_false_iff_not, List.length_map] at h1)
      · refine rn rfl ?_
        refine goal_guard rfl rfl rfl (fun h2 => ?_) (fun h2 => ?_) <;> (try simp only [gt_iff_lt, ge_iff_le, bne_iff_ne, ne_eq, bne_eq_false_iff_eq, beq_iff_eq, beq_eq_false_iff_ne, Bool.not_eq_true', Bool.not_eq_false', decide_eq_true_eq, decide_eq_false_iff_not, List.length_map] at h2)
        · refine rn rfl ?_
          refine goal_cond rfl (fun h3 => ?_) (fun h3 => ?_) <;> (try simp only [gt_iff_lt, ge_iff_le, bne_iff_ne, ne_eq, bne_eq_false_iff_eq, beq_iff_eq, beq_eq_false_iff_ne, Bool.not_eq_true', Bool.not_eq_false', decide_eq_true_eq, decide_eq_false_iff_not, List.length_map] at h3)
          · refine rn rfl ?_
            refine cut_ret ?_
            refine round_ret ?_
            refine fin_is [] rfl ⟨?_, rfl⟩
            have hpre : i ≠ 0 := fun h0 => by rw [hzero h0] at h2; cases h2
            obtain ⟨l, hl⟩ := at_some (xs := s) (i := i - 1) (by omega)
            have hl' := last_take hl
            rw [show i - 1 + 1 = i by omega] at hl'
            obtain ⟨hlq, hlp⟩ := hlast l hl'
            rw [hstop ?_]
            have hk : nextQ l p = false := by
              cases hpl : placedQ l with
              | true => simp [nextQ, h1, h3, ← hlp hpl, h2]
              | false =>
                simp only [okQ, inR, Bool.and_eq_true, decide_eq_true_eq] at hlq
                simp only [placedQ, Bool.or_eq_true, Bool.or_eq_false_iff, beq_iff_eq, beq_eq_false_iff_ne] at hpl h1
                simp only [nextQ, Bool.and_eq_false_iff, decide_eq_false_iff_not]
                exact .inl (.inl (by omega))
            simp [stepQ, hl', hk]
          · refine rn rfl ?_
            refine cut_nrm [10, 9, 8, 5, 4, 3, 1] [0, 1] rfl ⟨_, ?_, ?_, ?_, rfl⟩ <;> simp [h1, h2, h3]
        · refine rn rfl ?_
          refine cut_nrm [10, 9, 8, 5, 4, 3, 1] [0, 1] rfl ⟨_, ?_, ?_, ?_, rfl⟩ <;> simp [h1, h2]
      · refine rn rfl ?_
        refine cut_nrm [10, 9, 8, 5, 4, 3, 1] [0, 1] rfl ⟨_, ?_, ?_, ?_, rfl⟩ <;> simp [h1]
    rintro _ ⟨ob', hd1, hd2, hd3, rfl⟩
    refine rt 11 rfl ?_
    refine goal_cutR (fun σ => (∀ l, (s.take i).getLast? = some l → l.kind ≤ p.kind ∧ (p.kind = l.kind → singleQ p = true)) ∧ σ = ⟨[(10, .one (.int .i64 i)), (9, .one (.int .i64 s.length)), (8, .one (.fs (s.map eQ))), (5, .one (.op 1 0 0)), (4, .one (.int .i64 i)), (3, .one (.bool ob')), (1, .one (.op 0 0 0))],
      [some ⟨1, [eG s], false, false, true⟩, some ⟨4, [eQ p], false, false, true⟩], []⟩) ?_ ?_
    · refine rn rfl ?_
      refine goal_cond rfl (fun h1 => ?_) (fun h1 => ?_) <;> (try simp only [gt_iff_lt, ge_iff_le, bne_iff_ne, ne_eq, bne_eq_false_iff_eq, beq_iff_eq, beq_eq_false_iff_ne, Bool.not_eq_true', Bool.not_eq_false', decide_eq_true_eq, decide_eq_false_iff_not, List.length_map] at h1)
      · obtain ⟨l, hl⟩ := at_some (xs := s) (i := i - 1) (by omega)
        have hl' := last_take hl
        rw [show i - 1 + 1 = i by omega] at hl'
        have hw : IntKind.i64.wrap ((i : Int) - 1) = ((i - 1 : Nat) : Int) := by rw [wrap64] <;> omega
        refine rn rfl ?_
        refine goal_did rfl rfl (dA_index (eQ l) rfl rfl rfl rfl rfl rfl rfl (by rw [hw]; omega) (by rw [hw]; simp; omega) (map_at (by rw [hw]; simpa using hl)) rfl) ?_
        refine rn rfl ?_
        refine goal_guard rfl rfl rfl (fun h2 => ?_) (fun h2 => ?_) <;> (try simp only [gt_iff_lt, ge_iff_le, bne_iff_ne, ne_eq, bne_eq_false_iff_eq, beq_iff_eq, beq_eq_false_iff_ne, Bool.not_eq_true', Bool.not_eq_false', decide_eq_true_eq, decide_eq_false_iff_not, List.length_map] at h2)
        · refine rn rfl ?_
          refine cut_ret ?_
          refine round_ret ?_
          refine fin_is [] rfl ⟨?_, rfl⟩
          rw [hstop (by simp [stepQ, hl', nextQ, show ¬ l.kind ≤ p.kind by omega])]
        · refine rn rfl ?_
          refine goal_guard rfl rfl rfl (fun h3 => ?_) (fun h3 => ?_) <;> (try simp only [gt_iff_lt, ge_iff_le, bne_iff_ne, ne_eq, bne_eq_false_iff_eq, beq_iff_eq, beq_eq_false_iff_ne, Bool.not_eq_true', Bool.not_eq_false', decide_eq_true_eq, decide_eq_false_iff_not, List.length_map] at h3)
          · refine rn rfl ?_
            refine goal_step (step_call [] rfl rfl rfl rfl rfl rfl (isingle_ct p)) ?_
            rintro σ2 ⟨r, o', ⟨rfl, rfl⟩, hσ⟩
            obtain rfl := Option.some.inj hσ
            clear hσ
            refine rn rfl ?_
            refine goal_cond rfl (fun h4 => ?_) (fun h4 => ?_) <;> (try simp only [gt_iff_lt, ge_iff_le, bne_iff_ne, ne_eq, bne_eq_false_iff_eq, beq_iff_eq, beq_eq_false_iff_ne, Bool.not_eq_true', Bool.not_eq_false', decide_eq_true_eq, decide_eq_false_iff_not, List.length_map] at h4)
            · refine rn rfl ?_
              refine cut_ret ?_
              refine round_ret ?_
              refine fin_is [] rfl ⟨?_, rfl⟩
              rw [hstop (by simp [stepQ, hl', nextQ, h3, h4])]
            · refine rn rfl ?_
              refine cut_nrm [10, 9, 8, 5, 4, 3, 1] [0, 1] rfl ⟨?_, rfl⟩
              intro l2 h0; rw [hl'] at h0; cases h0; exact ⟨by omega, fun _ => h4⟩
          · refine rn rfl ?_
            refine cut_nrm [10, 9, 8, 5, 4, 3, 1] [0, 1] rfl ⟨?_, rfl⟩
            intro l2 h0; rw [hl'] at h0; cases h0; exact ⟨by omega, fun h0 => absurd h0 h3⟩
      · refine rn rfl ?_
        refine cut_nrm [10, 9, 8, 5, 4, 3, 1] [0, 1] rfl ⟨?_, rfl⟩
        intro l2 h0; rw [show i = 0 by omega] at h0; simp at h0
    rintro _ ⟨hkind, rfl⟩
    refine rn rfl ?_
    refine goal_draw' [0, 1] 8 rfl ?_
    refine drn [0, 1, 2, 4, 5] (by kernel_rfl) (by kernel_rfl) rfl rfl ?_
    refine AH_did 3 rfl (by kernel_rfl) (by kernel_rfl) (by kernel_rfl) rfl rfl (dA_slice 0 i ((s.take i).map eQ) rfl rfl rfl rfl rfl Bnd.none_ (Bnd.some_ rfl rfl) (rows_len eQ_len _) (by omega) (by simp; omega) rfl (by simp)) ?_
    refine AH_one (i := 6) (by kernel_rfl) (step_call [] rfl rfl rfl rfl rfl rfl (find_ct (s.take i) p.name (by simp; omega))) (by simp) ?_
    rintro σ2 ⟨r, o', ⟨rfl, rfl⟩, hσ⟩
    obtain rfl := Option.some.inj hσ
    clear hσ
    refine drn [7] (by kernel_rfl) (by kernel_rfl) rfl rfl ?_
    refine AH_end (by kernel_rfl) ?_
    refine rn rfl ?_
    refine goal_cond rfl (fun h5 => ?_) (fun h5 => ?_) <;> (try simp only [gt_iff_lt, ge_iff_le, bne_iff_ne, ne_eq, bne_eq_false_iff_eq, beq_iff_eq, beq_eq_false_iff_ne, Bool.not_eq_true', Bool.not_eq_false', decide_eq_true_eq, decide_eq_false_iff_not, List.length_map, idxI_ge] at h5)
    · refine rn rfl ?_
      refine round_ret ?_
      refine fin_is [] rfl ⟨?_, rfl⟩
      rw [hstop (by simp [stepQ, h5])]
    · refine rn rfl ?_
      have hnx : stepQ (s.take i) p = true := by
        have hne : (s.take i).any (qIs p.name) = false := by
          cases hb : (s.take i).any (qIs p.name) with
          | false => rfl
          | true => exact absurd hb h5
        simp only [stepQ, hokq, hne, Bool.true_and, Bool.not_false]
        split
        · rfl
        · rename_i l hl
          obtain ⟨hk1, hk2⟩ := hkind l hl
          obtain ⟨hlq, hlp⟩ := hlast l hl
          simp only [nextQ, Bool.and_eq_true, decide_eq_true_eq, Bool.or_eq_true, bne_iff_ne, ne_eq, Bool.not_eq_true']
          refine ⟨⟨hk1, ?_⟩, ?_⟩
          · by_cases h0 : p.kind = l.kind
            · exact .inr (hk2 h0)
            · exact .inl h0
          · cases hpp : placedQ p with
            | false => exact .inl (.inl rfl)
            | true =>
              have hpl : placedQ l = true := by
                simp only [okQ, inR, Bool.and_eq_true, decide_eq_true_eq] at hlq
                simp only [placedQ, Bool.or_eq_true, beq_iff_eq] at hpp ⊢
                omega
              cases hld : l.hasD with
              | false => exact .inl (.inr rfl)
              | true => exact .inr (hd1 hpp ((hlp hpl).trans hld))
      refine round_keep (s.length - (i + 1)) [10, 9, 8, 3, 1] [0] (by omega) rfl ⟨_, _, i + 1, ob', wrap64 (by omega) (by omega), rfl, by omega, rfl, hgo hnx, ?_, fun h0 => by omega, rfl⟩
      intro l hl
      rw [last_take hp] at hl
      cases hl
      exact ⟨hokq, hd2⟩
  · refine rn rfl ?_
    refine round_ext ?_
    refine rn rfl (fin_is [] rfl ⟨?_, rfl⟩)
    rw [show i = s.length by omega, List.take_length, List.drop_length] at hok
    simp only [okSig, hok, okQs, List.length_map, Bool.true_and]
    congr 2
    rw [decide_eq_decide]
    omega

theorem svalidParam_ct (p : Param) (hpn : p.name.length ≤ 9223372036854775807) : ACalls pk 86 [.agg (eQ p)] [] (fun r o => r = .one (.bool (okQ p)) ∧ o = []) := by
  refine acalls_of_body Tryz.func86 rfl (by kernel_rfl) rfl ?_
  refine rn rfl ?_
  refine goal_step (step_call [] rfl rfl rfl rfl rfl rfl (validName_ct p.name hpn)) ?_
  rintro σ2 ⟨r, o', ⟨rfl, rfl⟩, hσ⟩
  obtain rfl := Option.some.inj hσ
  clear hσ
  refine rn rfl ?_
  refine goal_guard rfl rfl rfl (fun h1 => ?_) (fun h1 => ?_) <;> (try simp only [gt_iff_lt, ge_iff_le, bne_iff_ne, ne_eq, bne_eq_false_iff_eq, beq_iff_eq, beq_eq_false_iff_ne, Bool.not_eq_true', Bool.not_eq_false', decide_eq_true_eq, decide_eq_false_iff_not, List.length_map] at h1)
  · refine rn rfl ?_
    refine goal_step (step_call [] rfl rfl rfl rfl rfl rfl (sin_ct p.kind 0 4)) ?_
    rintro σ2 ⟨r, o', ⟨rfl, rfl⟩, hσ⟩
    obtain rfl := Option.some.inj hσ
    clear hσ
    refine rn rfl ?_
    refine goal_guard rfl rfl rfl (fun h2 => ?_) (fun h2 => ?_) <;> (try simp only [gt_iff_lt, ge_iff_le, bne_iff_ne, ne_eq, bne_eq_false_iff_eq, beq_iff_eq, beq_eq_false_iff_ne, Bool.not_eq_true', Bool.not_eq_false', decide_eq_true_eq, decide_eq_false_iff_not, List.length_map] at h2)
    · refine rn rfl ?_
      refine goal_step (step_call [] rfl rfl rfl rfl rfl rfl (validNumber_ct p.dflt)) ?_
      rintro σ2 ⟨r, o', ⟨rfl, rfl⟩, hσ⟩
      obtain rfl := Option.some.inj hσ
      clear hσ
      refine rn rfl ?_
      refine goal_guard rfl rfl rfl (fun h3 => ?_) (fun h3 => ?_) <;> (try simp only [gt_iff_lt, ge_iff_le, bne_iff_ne, ne_eq, bne_eq_false_iff_eq, beq_iff_eq, beq_eq_false_iff_ne, Bool.not_eq_true', Bool.not_eq_false', decide_eq_true_eq, decide_eq_false_iff_not, List.length_map] at h3)
      · refine rn rfl ?_
        refine goal_guard rfl rfl rfl (fun h4 => ?_) (fun h4 => ?_) <;> (try simp only [gt_iff_lt, ge_iff_le, bne_iff_ne, ne_eq, bne_eq_false_iff_eq, beq_iff_eq, beq_eq_false_iff_ne, Bool.not_eq_true', Bool.not_eq_false', decide_eq_true_eq, decide_eq_false_iff_not, List.length_map] at h4)
        · refine rn rfl ?_
          refine goal_step (step_call [] rfl rfl rfl rfl rfl rfl (ssingle_ct p)) ?_
          rintro σ2 ⟨r, o', ⟨rfl, rfl⟩, hσ⟩
          obtain rfl := Option.some.inj hσ
          clear hσ
          refine rn rfl ?_
          refine goal_guard rfl rfl rfl (fun h5 => ?_) (fun h5 => ?_) <;> (try simp only [gt_iff_lt, ge_iff_le, bne_iff_ne, ne_eq, bne_eq_false_iff_eq, beq_iff_eq, beq_eq_false_iff_ne, Bool.not_eq_true', Bool.not_eq_false', decide_eq_true_eq, decide_eq_false_iff_not, List.length_map] at h5)
          · refine rn rfl (fin_is [] rfl ⟨?_, rfl⟩)
            simp [okQ, h1, h2, h3, h4, h5]
          · refine rn rfl (fin_is [] rfl ⟨?_, rfl⟩)
            simp [okQ, h1, h2, h3, h4, h5]
        · refine rn rfl ?_
          refine goal_guard rfl rfl rfl (fun h5 => ?_) (fun h5 => ?_) <;> (try simp only [gt_iff_lt, ge_iff_le, bne_iff_ne, ne_eq, bne_eq_false_iff_eq, beq_iff_eq, beq_eq_false_iff_ne, Bool.not_eq_true', Bool.not_eq_false', decide_eq_true_eq, decide_eq_false_iff_not, List.length_map] at h5)
          · refine rn rfl ?_
            refine goal_step (step_call [] rfl rfl rfl rfl rfl rfl (ssingle_ct p)) ?_
            rintro σ2 ⟨r, o', ⟨rfl, rfl⟩, hσ⟩
            obtain rfl := Option.some.inj hσ
            clear hσ
            refine rn rfl ?_
            refine goal_guard rfl rfl rfl (fun h6 => ?_) (fun h6 => ?_) <;> (try simp only [gt_iff_lt, ge_iff_le, bne_iff_ne, ne_eq, bne_eq_false_iff_eq, beq_iff_eq, beq_eq_false_iff_ne, Bool.not_eq_true', Bool.not_eq_false', decide_eq_true_eq, decide_eq_false_iff_not, List.length_map] at h6)
            · refine rn rfl (fin_is [] rfl ⟨?_, rfl⟩)
              rw [h5] at h3
              simp [okQ, h1, h2, h3, h4, h5, h6]
            · refine rn rfl (fin_is [] rfl ⟨?_, rfl⟩)
              rw [h5] at h3
              simp [okQ, h1, h2, h3, h4, h5, h6]
          · refine rn rfl (fin_is [] rfl ⟨?_, rfl⟩)
            simp [okQ, h4, h5]
      · refine rn rfl (fin_is [] rfl ⟨?_, rfl⟩)
        simp [okQ, h3]
    · refine rn rfl (fin_is [] rfl ⟨?_, rfl⟩)
      simp [okQ, h2]
  · refine rn rfl (fin_is [] rfl ⟨?_, rfl⟩)
    simp [okQ, h1]

theorem svalidParams_ct (s : Sig) (hb : s.length ≤ 9223372036854775807) (hn : ∀ p ∈ s, p.name.length ≤ 9223372036854775807) :
    ACalls pk 63 [.one (.fs (s.map eQ))] [] (fun r o => r = .one (.bool (okSig s)) ∧ o = []) := by
  refine acalls_of_body Tryz.func63 rfl (by kernel_rfl) rfl ?_
  refine rn rfl ?_
  refine goal_loop_keep (fun m σ => ∃ (n : Int) (i : Nat), n = i ∧ i ≤ s.length ∧ m = s.length - i ∧ okQs [] s = okQs (s.take i) (s.drop i) ∧
      σ = ⟨[(3, .one (.int .i64 n)), (0, .one (.fs (s.map eQ)))], [], []⟩) s.length [3, 0] [] rfl
    ⟨_, 0, rfl, by omega, by omega, by simp, rfl⟩ ?_
  rintro m σ ⟨n, i, rfl, hi, rfl, hok, rfl⟩
  refine rn rfl ?_
  refine goal_cond rfl (fun h => ?_) (fun h => ?_) <;> (try simp only [gt_iff_lt, ge_iff_le, bne_iff_ne, ne_eq, bne_eq_false_iff_eq, beq_iff_eq, beq_eq_false_iff_ne, Bool.not_eq_true', Bool.not_eq_false', decide_eq_true_eq, decide_eq_false_iff_not, List.length_map] at h)
  · obtain ⟨p, hp⟩ := at_some (xs := s) (i := i) (by omega)
    have hstop := okSig_stop hok hp
    have hgo := okQs_go hok hp
    have hpn := hn p (List.mem_of_getElem? hp)
    have hend : stepQ (s.take i) p = true → okQs [] s = okQs (s.take (i + 1)) (s.drop (i + 1)) := hgo
    refine rn rfl ?_
    refine goal_did rfl rfl (dA_index (eQ p) rfl rfl rfl rfl rfl rfl rfl (by omega) (by (try simp); omega) (map_at (by simpa using hp)) rfl) ?_
    refine rn rfl ?_
    refine goal_draw' [0] 12 rfl ?_
    refine drn [0] (by kernel_rfl) (by kernel_rfl) rfl rfl ?_
    refine AH_one (i := 1) (by kernel_rfl) (step_call [] rfl rfl rfl rfl rfl rfl (svalidParam_ct p hpn)) (by simp) ?_
    rintro σ2 ⟨r, o', ⟨rfl, rfl⟩, hσ⟩
    obtain rfl := Option.some.inj hσ
    clear hσ
    refine drn [2, 3] (by kernel_rfl) (by kernel_rfl) rfl rfl ?_
    refine AH_guard (i := 4) rfl rfl rfl (fun h1 => ?_) (fun h1 => ?_) <;> (try simp only [gt_iff_lt, ge_iff_le, bne_iff_ne, ne_eq, bne_eq_false_iff_eq, beq_iff_eq, beq_eq_false_iff_ne, Bool.not_eq_true', Bool.not_eq_false', decide_eq_true_eq, decide_eq_false_iff_not, List.length_map] at h1)
    · refine drn [4, 5, 6, 7, 8, 9, 10, 11] (by kernel_rfl) (by kernel_rfl) rfl rfl ?_
      refine AH_end (by kernel_rfl) ?_
      refine rn rfl ?_
      refine rn rfl ?_
      refine round_ret ?_
      refine fin_is [] rfl ⟨?_, rfl⟩
      rw [hstop (by simp [stepQ, h1])]
    refine drn [4, 5, 7, 8] (by kernel_rfl) (by kernel_rfl) rfl rfl ?_
    refine AH_did 6 rfl (by kernel_rfl) (by kernel_rfl) (by kernel_rfl) rfl rfl (dA_slice 0 i ((s.take i).map eQ) rfl rfl rfl rfl rfl Bnd.none_ (Bnd.some_ rfl rfl) (rows_len eQ_len _) (by omega) (by simp; omega) rfl (by simp)) ?_
    refine AH_one (i := 9) (by kernel_rfl) (step_call [] rfl rfl rfl rfl rfl rfl (sfind_ct (s.take i) p.name (by simp; omega))) (by simp) ?_
    rintro σ2 ⟨r, o', ⟨rfl, rfl⟩, hσ⟩
    obtain rfl := Option.some.inj hσ
    clear hσ
    refine drn [10, 11] (by kernel_rfl) (by kernel_rfl) rfl rfl ?_
    refine AH_end (by kernel_rfl) ?_
    refine rn rfl ?_
    refine goal_cond rfl (fun h2 => ?_) (fun h2 => ?_) <;> (try simp only [gt_iff_lt, ge_iff_le, bne_iff_ne, ne_eq, bne_eq_false_iff_eq, beq_iff_eq, beq_eq_false_iff_ne, Bool.not_eq_true', Bool.not_eq_false', decide_eq_true_eq, decide_eq_false_iff_not, List.length_map, idxI_ge] at h2)
    · refine rn rfl ?_
      refine round_ret ?_
      refine fin_is [] rfl ⟨?_, rfl⟩
      rw [hstop (by simp [stepQ, h2])]
    refine rn rfl ?_
    refine goal_cond rfl (fun h3 => ?_) (fun h3 => ?_) <;> (try simp only [gt_iff_lt, ge_iff_le, bne_iff_ne, ne_eq, bne_eq_false_iff_eq, beq_iff_eq, beq_eq_false_iff_ne, Bool.not_eq_true', Bool.not_eq_false', decide_eq_true_eq, decide_eq_false_iff_not, List.length_map] at h3)
    · refine rn rfl ?_
      refine round_keep (s.length - (i + 1)) [3, 0] [] (by omega) rfl ⟨_, i + 1, wrap64 (by omega) (by omega), by omega, rfl, hgo ?_, rfl⟩
      rw [show i = 0 by omega] at h2 ⊢
      simp [stepQ, h1]
    obtain ⟨l, hl⟩ := at_some (xs := s) (i := i - 1) (by omega)
    have hl' := last_take hl
    rw [show i - 1 + 1 = i by omega] at hl'
    have hw : IntKind.i64.wrap ((i : Int) - 1) = ((i - 1 : Nat) : Int) := by rw [wrap64] <;> omega
    have hsn : nextQ l p = true → stepQ (s.take i) p = true := fun hx => by simp [stepQ, h1, h2, hl', hx]
    have hsf : nextQ l p = false → stepQ (s.take i) p = false := fun hx => by simp [stepQ, hl', hx]
    refine rn rfl ?_
    refine goal_did rfl rfl (dA_index (eQ l) rfl rfl rfl rfl rfl rfl rfl (by rw [hw]; omega) (by rw [hw]; simp; omega) (map_at (by rw [hw]; simpa using hl)) rfl) ?_
    refine rn rfl ?_
    refine goal_guard rfl rfl rfl (fun h4 => ?_) (fun h4 => ?_) <;> (try simp only [gt_iff_lt, ge_iff_le, bne_iff_ne, ne_eq, bne_eq_false_iff_eq, beq_iff_eq, beq_eq_false_iff_ne, Bool.not_eq_true', Bool.not_eq_false', decide_eq_true_eq, decide_eq_false_iff_not, List.length_map] at h4)
    · refine rn rfl ?_
      refine round_ret ?_
      refine fin_is [] rfl ⟨?_, rfl⟩
      rw [hstop (hsf (by simp [nextQ, show ¬ l.kind ≤ p.kind by omega]))]
    have part2 : (p.kind = l.kind → singleQ p = true) → (placedQ p = true → l.hasD = true → p.hasD = true) → stepQ (s.take i) p = true := fun ha hb => hsn (by
      simp only [nextQ, Bool.and_eq_true, decide_eq_true_eq, Bool.or_eq_true, bne_iff_ne, ne_eq, Bool.not_eq_true']
      refine ⟨⟨by omega, ?_⟩, ?_⟩
      · by_cases h0 : p.kind = l.kind
        · exact .inr (ha h0)
        · exact .inl h0
      · cases h7 : placedQ p with
        | false => exact .inl (.inl rfl)
        | true => cases h8 : l.hasD with
          | false => exact .inl (.inr rfl)
          | true => exact .inr (hb h7 h8))
    refine rn rfl ?_
    refine goal_guard rfl rfl rfl (fun h5 => ?_) (fun h5 => ?_) <;> (try simp only [gt_iff_lt, ge_iff_le, bne_iff_ne, ne_eq, bne_eq_false_iff_eq, beq_iff_eq, beq_eq_false_iff_ne, Bool.not_eq_true', Bool.not_eq_false', decide_eq_true_eq, decide_eq_false_iff_not, List.length_map] at h5)
    · refine rn rfl ?_
      refine goal_step (step_call [] rfl rfl rfl rfl rfl rfl (ssingle_ct p)) ?_
      rintro σ2 ⟨r, o', ⟨rfl, rfl⟩, hσ⟩
      obtain rfl := Option.some.inj hσ
      clear hσ
      refine rn rfl ?_
      refine goal_guard rfl rfl rfl (fun h6 => ?_) (fun h6 => ?_) <;> (try simp only [gt_iff_lt, ge_iff_le, bne_iff_ne, ne_eq, bne_eq_false_iff_eq, beq_iff_eq, beq_eq_false_iff_ne, Bool.not_eq_true', Bool.not_eq_false', decide_eq_true_eq, decide_eq_false_iff_not, List.length_map] at h6)
      · refine rn rfl ?_
        refine round_ret ?_
        refine fin_is [] rfl ⟨?_, rfl⟩
        rw [hstop (hsf (by simp [nextQ, h5, h6]))]
      refine rn rfl ?_
      refine goal_step (step_call [] rfl rfl rfl rfl rfl rfl (splaced_ct p)) ?_
      rintro σ2 ⟨r, o', ⟨rfl, rfl⟩, hσ⟩
      obtain rfl := Option.some.inj hσ
      clear hσ
      refine rn rfl ?_
      refine goal_guard rfl rfl rfl (fun h7 => ?_) (fun h7 => ?_) <;> (try simp only [gt_iff_lt, ge_iff_le, bne_iff_ne, ne_eq, bne_eq_false_iff_eq, beq_iff_eq, beq_eq_false_iff_ne, Bool.not_eq_true', Bool.not_eq_false', decide_eq_true_eq, decide_eq_false_iff_not, List.length_map] at h7)
      · refine rn rfl ?_
        refine goal_guard rfl rfl rfl (fun h8 => ?_) (fun h8 => ?_) <;> (try simp only [gt_iff_lt, ge_iff_le, bne_iff_ne, ne_eq, bne_eq_false_iff_eq, beq_iff_eq, beq_eq_false_iff_ne, Bool.not_eq_true', Bool.not_eq_false', decide_eq_true_eq, decide_eq_false_iff_not, List.length_map] at h8)
        · refine rn rfl ?_
          refine goal_cond rfl (fun h9 => ?_) (fun h9 => ?_) <;> (try simp only [gt_iff_lt, ge_iff_le, bne_iff_ne, ne_eq, bne_eq_false_iff_eq, beq_iff_eq, beq_eq_false_iff_ne, Bool.not_eq_true', Bool.not_eq_false', decide_eq_true_eq, decide_eq_false_iff_not, List.length_map] at h9)
          · refine rn rfl ?_
            refine round_ret ?_
            refine fin_is [] rfl ⟨?_, rfl⟩
            rw [hstop (hsf (by simp [nextQ, h7, h8, h9]))]
          · refine rn rfl ?_
            refine round_keep (s.length - (i + 1)) [3, 0] [] (by omega) rfl ⟨_, i + 1, wrap64 (by omega) (by omega), by omega, rfl, hgo (part2 (fun _ => h6) (fun _ _ => h9)), rfl⟩
        · refine rn rfl ?_
          refine round_keep (s.length - (i + 1)) [3, 0] [] (by omega) rfl ⟨_, i + 1, wrap64 (by omega) (by omega), by omega, rfl, hgo (part2 (fun _ => h6) (fun _ h0 => by rw [h8] at h0; cases h0)), rfl⟩
      · refine rn rfl ?_
        refine round_keep (s.length - (i + 1)) [3, 0] [] (by omega) rfl ⟨_, i + 1, wrap64 (by omega) (by omega), by omega, rfl, hgo (part2 (fun _ => h6) (fun h0 => by rw [h7] at h0; cases h0)), rfl⟩
    · refine rn rfl ?_
      refine goal_step (step_call [] rfl rfl rfl rfl rfl rfl (splaced_ct p)) ?_
      rintro σ2 ⟨r, o', ⟨rfl, rfl⟩, hσ⟩
      obtain rfl := Option.some.inj hσ
      clear hσ
      refine rn rfl ?_
      refine goal_guard rfl rfl rfl (fun h7 => ?_) (fun h7 => ?_) <;> (try simp only [gt_iff_lt, ge_iff_le, bne_iff_ne, ne_eq, bne_eq_false_iff_eq, beq_iff_eq, beq_eq_false_iff_ne, Bool.not_eq_true', Bool.not_eq_false', decide_eq_true_eq, decide_eq_false_iff_not, List.length_map] at h7)
      · refine rn rfl ?_
        refine goal_guard rfl rfl rfl (fun h8 => ?_) (fun h8 => ?_) <;> (try simp only [gt_iff_lt, ge_iff_le, bne_iff_ne, ne_eq, bne_eq_false_iff_eq, beq_iff_eq, beq_eq_false_iff_ne, Bool.not_eq_true', Bool.not_eq_false', decide_eq_true_eq, decide_eq_false_iff_not, List.length_map] at h8)
        · refine rn rfl ?_
          refine goal_cond rfl (fun h9 => ?_) (fun h9 => ?_) <;> (try simp only [gt_iff_lt, ge_iff_le, bne_iff_ne, ne_eq, bne_eq_false_iff_eq, beq_iff_eq, beq_eq_false_iff_ne, Bool.not_eq_true', Bool.not_eq_false', decide_eq_true_eq, decide_eq_false_iff_not, List.length_map] at h9)
          · refine rn rfl ?_
            refine round_ret ?_
            refine fin_is [] rfl ⟨?_, rfl⟩
            rw [hstop (hsf (by simp [nextQ, h7, h8, h9]))]
          · refine rn rfl ?_
            refine round_keep (s.length - (i + 1)) [3, 0] [] (by omega) rfl ⟨_, i + 1, wrap64 (by omega) (by omega), by omega, rfl, hgo (part2 (fun h0 => absurd h0 h5) (fun _ _ => h9)), rfl⟩
        · refine rn rfl ?_
          refine round_keep (s.length - (i + 1)) [3, 0] [] (by omega) rfl ⟨_, i + 1, wrap64 (by omega) (by omega), by omega, rfl, hgo (part2 (fun h0 => absurd h0 h5) (fun _ h0 => by rw [h8] at h0; cases h0)), rfl⟩
      · refine rn rfl ?_
        refine round_keep (s.length - (i + 1)) [3, 0] [] (by omega) rfl ⟨_, i + 1, wrap64 (by omega) (by omega), by omega, rfl, hgo (part2 (fun h0 => absurd h0 h5) (fun h0 => by rw [h7] at h0; cases h0)), rfl⟩
  · refine rn rfl ?_
    refine round_ext ?_
    refine rn rfl (fin_is [] rfl ⟨?_, rfl⟩)
    rw [show i = s.length by omega, List.take_length, List.drop_length] at hok
    simp only [okSig, hok, okQs, List.length_map, Bool.true_and]
    congr 2
    rw [decide_eq_decide]
    omega

theorem svalidSig_ct (s : Sig) (hb : s.length ≤ 9223372036854775807) (hn : ∀ p ∈ s, p.name.length ≤ 9223372036854775807) :
    ACalls pk 39 [.agg (eG s)] [] (fun r o => r = .one (.bool (okSig s)) ∧ o = []) := by
  refine acalls_of_body Tryz.func39 rfl (by kernel_rfl) rfl ?_
  refine rn rfl ?_
  refine goal_step (step_call [] rfl rfl rfl rfl rfl rfl (svalidParams_ct s hb hn)) ?_
  rintro σ2 ⟨r, o', ⟨rfl, rfl⟩, hσ⟩
  obtain rfl := Option.some.inj hσ
  clear hσ
  refine rn rfl ?_
  exact rn rfl (fin_is [] rfl ⟨rfl, rfl⟩)

theorem cloneQ_ct (xs : List Param) (hl : xs.length ≤ 16777216) :
    ACalls pk 77 [.one (.fs (xs.map eQ))] [] (fun r o => r = .one (.os 0 0 xs.length xs.length) ∧ o = [ownQ xs]) := by
  refine acalls_of_body Tryz.func77 rfl (by kernel_rfl) rfl ?_
  refine rn rfl ?_
  refine goal_step (step_eqNil rfl rfl (Src.fs rfl) rfl rfl rfl rfl) ?_
  rintro σ2 ⟨b, hb, rfl⟩
  refine rn rfl ?_
  refine goal_cond rfl (fun h => ?_) (fun h => ?_)
  · have hx : xs = [] := by simpa using hb h
    subst hx
    exact rn rfl (fin_adopt 2 0 4 [0] rfl ⟨rfl, rfl⟩)
  · refine rn rfl ?_
    refine goal_did rfl rfl (dA_append (xs.map eQ) xs.length true (Dst.own rfl rfl rfl rfl rfl (Nat.le_refl 0) rfl) (Src.fs rfl) rfl rfl rfl rfl rfl rfl rfl rfl (by simp) (rows_len eQ_len _) (by simp only [List.length_map, List.take_zero, List.length_nil]; show _ * 40 ≤ _; omega) (by simp; omega) rfl (by simp) (fun _ => noOwnR_map _ eQ_noOwn _)) ?_
    exact rn rfl (fin_is [1] rfl ⟨rfl, rfl⟩)

theorem clipQ_ct (xs : List Param) (kc : Nat) (hk : xs.length ≤ kc) :
    ACalls pk 76 [.one (.os 0 0 xs.length kc)] [ownQ xs] (fun r o => r = .one (.os 0 0 xs.length xs.length) ∧ o = [ownQ xs]) := by
  refine acalls_of_body Tryz.func76 rfl (by kernel_rfl) rfl ?_
  refine rn rfl ?_
  refine goal_did rfl rfl (dA_sliceOwn 0 xs.length xs.length 0 xs.length xs.length rfl rfl rfl rfl rfl rfl rfl Bnd.none_ (Bnd.some_ rfl rfl) (.inr ⟨by simp, by simp, Bnd.some_ rfl rfl⟩) (by omega) (by omega) hk (by simp) rfl rfl rfl rfl) ?_
  exact rn rfl (fin_is [] rfl ⟨rfl, rfl⟩)

theorem clonQ_ct (xs : List Param) (hl : xs.length ≤ 16777216) :
    ACalls pk 49 [.one (.fs (xs.map eQ))] [] (fun r o => r = .one (.os 0 0 xs.length xs.length) ∧ o = [ownQ xs]) := by
  refine acalls_of_body Tryz.func49 rfl (by kernel_rfl) rfl ?_
  refine rn rfl ?_
  refine goal_step (step_call [] rfl rfl rfl rfl rfl rfl (cloneQ_ct xs hl)) ?_
  rintro σ2 ⟨r, o', ⟨rfl, rfl⟩, hσ⟩
  obtain rfl := Option.some.inj hσ
  clear hσ
  refine rn rfl ?_
  refine goal_step (step_call [0] rfl rfl rfl rfl rfl rfl (clipQ_ct xs xs.length (Nat.le_refl _))) ?_
  rintro σ2 ⟨r, o', ⟨rfl, rfl⟩, hσ⟩
  obtain rfl := Option.some.inj hσ
  clear hσ
  refine rn rfl ?_
  exact rn rfl (fin_is [0] rfl ⟨rfl, rfl⟩)

theorem icopySig_ct (s : Sig) (hl : s.length ≤ 16777216) : ACalls pk 28 [.agg (eG s)] [] (fun r o => r = .agg [.os 0 0 s.length s.length] ∧ o = [ownQ s]) := by
  refine acalls_of_body Tryz.func28 rfl (by kernel_rfl) rfl ?_
  refine rn rfl ?_
  refine goal_step (step_call [] rfl rfl rfl rfl rfl rfl (clonQ_ct s hl)) ?_
  rintro σ2 ⟨r, o', ⟨rfl, rfl⟩, hσ⟩
  obtain rfl := Option.some.inj hσ
  clear hσ
  refine rn rfl ?_
  exact rn rfl (fin_is [2] rfl ⟨rfl, rfl⟩)

theorem okQs_all : ∀ (r pre : Sig), okQs pre r = true → ∀ (i : Nat) (p : Param), r[i]? = some p → stepQ (pre ++ r.take i) p = true
  | [], pre, _, i, p, hp => by simp at hp
  | q :: r, pre, h, 0, p, hp => by simp at hp; subst hp; simp only [okQs, Bool.and_eq_true] at h; simpa using h.1
  | q :: r, pre, h, i + 1, p, hp => by
    simp only [okQs, Bool.and_eq_true] at h
    have := okQs_all r (pre ++ [q]) h.2 i p (by simpa using hp)
    simpa using this

theorem okQs_of_all : ∀ (r pre : Sig), (∀ (i : Nat) (p : Param), r[i]? = some p → stepQ (pre ++ r.take i) p = true) → okQs pre r = true
  | [], pre, _ => rfl
  | q :: r, pre, h => by
    simp only [okQs, Bool.and_eq_true]
    refine ⟨by simpa using h 0 q rfl, okQs_of_all r (pre ++ [q]) fun i p hp => ?_⟩
    have := h (i + 1) p (by simpa using hp)
    simpa using this

structure OkS (s : Sig) : Prop where
  params : ∀ p ∈ s, okQ p = true
  nodup : (s.map Param.name).Nodup
  next : ∀ (i : Nat) (l p : Param), s[i]? = some l → s[i + 1]? = some p → nextQ l p = true
  len : s.length ≤ 8

theorem okSig_iff {s : Sig} : okSig s = true ↔ OkS s := by
  simp only [okSig, Bool.and_eq_true, decide_eq_true_eq]
  constructor
  · rintro ⟨h, hl⟩
    have hall := okQs_all s [] h
    simp only [List.nil_append] at hall
    refine ⟨fun p hp => ?_, ?_, fun i l p hl hp => ?_, hl⟩
    · obtain ⟨i, hi⟩ := List.getElem?_of_mem hp
      have := hall i p hi
      simp only [stepQ, Bool.and_eq_true] at this
      exact this.1.1
    · rw [List.nodup_iff_pairwise_ne, List.pairwise_iff_getElem]
      intro i j hi hj hij he
      simp only [List.length_map] at hi hj
      have := hall j s[j] (List.getElem?_eq_getElem hj)
      simp only [stepQ, Bool.and_eq_true, Bool.not_eq_true'] at this
      have h2 := this.1.2
      rw [List.any_eq_false] at h2
      refine h2 s[i] ?_ ?_
      · rw [List.mem_iff_getElem?]; exact ⟨i, by rw [List.getElem?_take, if_pos hij]; exact List.getElem?_eq_getElem hi⟩
      · simpa [qIs] using he
    · have := hall (i + 1) p hp
      simp only [stepQ, last_take hl, Bool.and_eq_true] at this
      exact this.2
  · intro h
    refine ⟨okQs_of_all s [] fun i p hp => ?_, h.len⟩
    simp only [List.nil_append, stepQ, Bool.and_eq_true, Bool.not_eq_true']
    refine ⟨⟨h.params p (List.mem_of_getElem? hp), ?_⟩, ?_⟩
    · rw [List.any_eq_false]
      intro q hq hqn
      obtain ⟨j, hj⟩ := List.getElem?_of_mem hq
      rw [List.getElem?_take] at hj
      split at hj
      · rename_i hji
        have hn := h.nodup
        rw [List.nodup_iff_pairwise_ne, List.pairwise_iff_getElem] at hn
        have hil := lt_of_some hp
        have hjl := lt_of_some hj
        refine hn j i (by simpa using hjl) (by simpa using hil) hji ?_
        rw [List.getElem?_eq_getElem hil] at hp
        rw [List.getElem?_eq_getElem hjl] at hj
        simp only [Option.some.injEq] at hp hj
        simp only [List.getElem_map, hp, hj]
        simpa [qIs] using hqn
      · cases hj
    · split
      · rfl
      · rename_i l hl
        cases i with
        | zero => simp at hl
        | succ i =>
          obtain ⟨l', hl'⟩ := at_some (xs := s) (i := i) (by have := lt_of_some hp; omega)
          rw [last_take hl'] at hl
          cases hl
          exact h.next i _ p hl' hp

theorem nextQ_kind {l p : Param} (h : nextQ l p = true) : l.kind ≤ p.kind ∧ (singleQ p = false → l.kind < p.kind) ∧ (placedQ p = true → l.hasD = true → p.hasD = true) := by
  simp only [nextQ, Bool.and_eq_true, decide_eq_true_eq, Bool.or_eq_true, bne_iff_ne, ne_eq, Bool.not_eq_true'] at h
  refine ⟨h.1.1, fun hs => ?_, fun h1 h2 => ?_⟩
  · rcases h.1.2 with h3 | h3
    · omega
    · rw [hs] at h3; cases h3
  · rcases h.2 with (h3 | h3) | h3
    · rw [h1] at h3; cases h3
    · rw [h2] at h3; cases h3
    · exact h3

theorem OkS.sorted {s : Sig} (h : OkS s) : ∀ (d i : Nat) (l p : Param), s[i]? = some l → s[i + d]? = some p → l.kind ≤ p.kind
  | 0, i, l, p, hl, hp => by rw [Nat.add_zero, hl] at hp; cases hp; exact Int.le_refl _
  | d + 1, i, l, p, hl, hp => by
    obtain ⟨q, hq⟩ := at_some (xs := s) (i := i + d) (by have := lt_of_some hp; omega)
    have h1 := OkS.sorted h d i l q hl hq
    have h2 := (nextQ_kind (h.next (i + d) q p hq hp)).1
    omega

theorem OkS.sortedLt {s : Sig} (h : OkS s) {i j : Nat} {l p : Param} (hij : i < j) (hl : s[i]? = some l) (hp : s[j]? = some p) (hs : singleQ p = false) : l.kind < p.kind := by
  obtain ⟨q, hq⟩ := at_some (xs := s) (i := j - 1) (by have := lt_of_some hp; omega)
  have h1 := h.sorted (j - 1 - i) i l q hl (by rw [show i + (j - 1 - i) = j - 1 by omega]; exact hq)
  have h2 := (nextQ_kind (h.next (j - 1) q p hq (by rw [show j - 1 + 1 = j by omega]; exact hp))).2.1 hs
  omega

theorem OkS.kindRange {s : Sig} (h : OkS s) {p : Param} (hp : p ∈ s) : 0 ≤ p.kind ∧ p.kind ≤ 4 := by
  have := h.params p hp
  simp only [okQ, inR, Bool.and_eq_true, decide_eq_true_eq] at this
  exact this.1.1.1.2

theorem OkS.nameLen {s : Sig} (h : OkS s) {p : Param} (hp : p ∈ s) : p.name.length ≤ 6 ∧ 1 ≤ p.name.length := by
  have := h.params p hp
  simp only [okQ, okName, inR, Bool.and_eq_true, decide_eq_true_eq] at this
  omega

theorem single_kind {p : Param} : singleQ p = true ↔ p.kind = 0 ∨ p.kind = 1 ∨ p.kind = 3 := by
  simp only [singleQ, placedQ, Bool.or_eq_true, beq_iff_eq]; omega

/-- Of the kinds of which there is one parameter at most. -/
theorem OkS.one {s : Sig} (h : OkS s) {i j : Nat} {l p : Param} (hl : s[i]? = some l) (hp : s[j]? = some p) (hk : l.kind = p.kind) (hs : singleQ p = false) : i = j := by
  have hs' : singleQ l = false := by
    cases hx : singleQ l with
    | false => rfl
    | true => rw [single_kind, hk, ← single_kind, hs] at hx; cases hx
  rcases Nat.lt_trichotomy i j with h1 | h1 | h1
  · have := h.sortedLt h1 hl hp hs; omega
  · exact h1
  · have := h.sortedLt h1 hp hl hs'; omega

def prmT (p : Param) : Str := if p.kind = 2 then [42] ++ p.name else if p.kind = 4 then [42, 42] ++ p.name else if p.hasD = true then p.name ++ [61] ++ Lib.itoa p.dflt else p.name

theorem okQ_parts {p : Param} (h : okQ p = true) : okName p.name = true ∧ 0 ≤ p.kind ∧ p.kind ≤ 4 ∧ -99 ≤ p.dflt ∧ p.dflt ≤ 99 ∧ p.name.length ≤ 6 := by
  have h0 := h
  simp only [okQ, Bool.and_eq_true] at h0
  refine ⟨h0.1.1.1.1, ?_⟩
  simp only [okQ, okName, okVal, inR, Bool.and_eq_true, decide_eq_true_eq] at h
  omega

theorem itext_ct (p : Param) (hn : p.name.length ≤ 1000) (h1 : -9223372036854775808 ≤ p.dflt) (h2 : p.dflt ≤ 9223372036854775807) : ACalls pk 31 [.agg (eQ p)] [] (fun r o => r = .one (.str (prmT p)) ∧ o = []) := by
  have hi := Lib.itoa_length_le p.dflt h1 h2
  refine acalls_of_body Tryz.func31 rfl (by kernel_rfl) rfl ?_
  refine rn rfl ?_
  refine goal_cond rfl (fun k2 => ?_) (fun k2 => ?_) <;> (try simp only [gt_iff_lt, ge_iff_le, bne_iff_ne, ne_eq, bne_eq_false_iff_eq, beq_iff_eq, beq_eq_false_iff_ne, Bool.not_eq_true', Bool.not_eq_false', decide_eq_true_eq, decide_eq_false_iff_not, List.length_map] at k2)
  · refine rn rfl ?_
    refine goal_did rfl rfl (dA_concat ([42] ++ p.name) rfl rfl rfl (by simp; omega) rfl rfl) ?_
    refine rn rfl ?_
    refine rn rfl (fin_is [] rfl ⟨?_, rfl⟩)
    rw [prmT, if_pos k2]
  · refine rn rfl ?_
    refine goal_cond rfl (fun k4 => ?_) (fun k4 => ?_) <;> (try simp only [gt_iff_lt, ge_iff_le, bne_iff_ne, ne_eq, bne_eq_false_iff_eq, beq_iff_eq, beq_eq_false_iff_ne, Bool.not_eq_true', Bool.not_eq_false', decide_eq_true_eq, decide_eq_false_iff_not, List.length_map] at k4)
    · refine rn rfl ?_
      refine goal_did rfl rfl (dA_concat ([42, 42] ++ p.name) rfl rfl rfl (by simp; omega) rfl rfl) ?_
      refine rn rfl ?_
      refine rn rfl (fin_is [] rfl ⟨?_, rfl⟩)
      rw [prmT, if_neg k2, if_pos k4]
    · refine rn rfl ?_
      refine goal_cond rfl (fun hd => ?_) (fun hd => ?_) <;> (try simp only [gt_iff_lt, ge_iff_le, bne_iff_ne, ne_eq, bne_eq_false_iff_eq, beq_iff_eq, beq_eq_false_iff_ne, Bool.not_eq_true', Bool.not_eq_false', decide_eq_true_eq, decide_eq_false_iff_not, List.length_map] at hd)
      · refine rn rfl ?_
        refine goal_draw' [0] 8 rfl ?_
        refine drn [0, 1, 3, 4] (by kernel_rfl) (by kernel_rfl) rfl rfl ?_
        refine AH_did 2 rfl (by kernel_rfl) (by kernel_rfl) (by kernel_rfl) rfl rfl (dA_concat (p.name ++ [61]) rfl rfl rfl (by simp; omega) rfl rfl) ?_
        refine AH_one (i := 5) (by kernel_rfl) (step_call [] rfl rfl rfl rfl rfl rfl (itoa_ct p.dflt h1 h2)) (by simp) ?_
        rintro σ2 ⟨r, o', ⟨rfl, rfl⟩, hσ⟩
        obtain rfl := Option.some.inj hσ
        clear hσ
        refine AH_did 6 rfl (by kernel_rfl) (by kernel_rfl) (by kernel_rfl) rfl rfl (dA_concat (p.name ++ [61] ++ Lib.itoa p.dflt) rfl rfl rfl (by simp; omega) rfl rfl) ?_
        refine drn [7] (by kernel_rfl) (by kernel_rfl) rfl rfl ?_
        refine AH_end (by kernel_rfl) ?_
        refine rn rfl ?_
        refine rn rfl (fin_is [] rfl ⟨?_, rfl⟩)
        rw [prmT, if_neg k2, if_neg k4, if_pos hd]
      · refine rn rfl ?_
        refine rn rfl (fin_is [] rfl ⟨?_, rfl⟩)
        rw [prmT, if_neg k2, if_neg k4, if_neg (by simp [hd])]

theorem stext_ct (p : Param) (hn : p.name.length ≤ 1000) (h1 : -9223372036854775807 ≤ p.dflt) (h2 : p.dflt ≤ 9223372036854775807) : ACalls pk 65 [.agg (eQ p)] [] (fun r o => r = .one (.str (prmT p)) ∧ o = []) := by
  have hi := Lib.itoa_length_le p.dflt (by omega) h2
  refine acalls_of_body Tryz.func65 rfl (by kernel_rfl) rfl ?_
  refine rn rfl ?_
  refine goal_cond rfl (fun k2 => ?_) (fun k2 => ?_) <;> (try simp only [gt_iff_lt, ge_iff_le, bne_iff_ne, ne_eq, bne_eq_false_iff_eq, beq_iff_eq, beq_eq_false_iff_ne, Bool.not_eq_true', Bool.not_eq_false', decide_eq_true_eq, decide_eq_false_iff_not, List.length_map] at k2)
  · refine rn rfl ?_
    refine goal_did rfl rfl (dA_concat ([42] ++ p.name) rfl rfl rfl (by simp; omega) rfl rfl) ?_
    refine rn rfl ?_
    refine rn rfl (fin_is [] rfl ⟨?_, rfl⟩)
    rw [prmT, if_pos k2]
  · refine rn rfl ?_
    refine goal_cond rfl (fun k4 => ?_) (fun k4 => ?_) <;> (try simp only [gt_iff_lt, ge_iff_le, bne_iff_ne, ne_eq, bne_eq_false_iff_eq, beq_iff_eq, beq_eq_false_iff_ne, Bool.not_eq_true', Bool.not_eq_false', decide_eq_true_eq, decide_eq_false_iff_not, List.length_map] at k4)
    · refine rn rfl ?_
      refine goal_did rfl rfl (dA_concat ([42, 42] ++ p.name) rfl rfl rfl (by simp; omega) rfl rfl) ?_
      refine rn rfl ?_
      refine rn rfl (fin_is [] rfl ⟨?_, rfl⟩)
      rw [prmT, if_neg k2, if_pos k4]
    · refine rn rfl ?_
      refine goal_cond rfl (fun hd => ?_) (fun hd => ?_) <;> (try simp only [gt_iff_lt, ge_iff_le, bne_iff_ne, ne_eq, bne_eq_false_iff_eq, beq_iff_eq, beq_eq_false_iff_ne, Bool.not_eq_true', Bool.not_eq_false', decide_eq_true_eq, decide_eq_false_iff_not, List.length_map] at hd)
      · refine rn rfl ?_
        refine goal_draw' [0] 8 rfl ?_
        refine drn [0, 1, 3, 4] (by kernel_rfl) (by kernel_rfl) rfl rfl ?_
        refine AH_did 2 rfl (by kernel_rfl) (by kernel_rfl) (by kernel_rfl) rfl rfl (dA_concat (p.name ++ [61]) rfl rfl rfl (by simp; omega) rfl rfl) ?_
        refine AH_one (i := 5) (by kernel_rfl) (step_call [] rfl rfl rfl rfl rfl rfl (number_ct p.dflt h1 h2)) (by simp) ?_
        rintro σ2 ⟨r, o', ⟨rfl, rfl⟩, hσ⟩
        obtain rfl := Option.some.inj hσ
        clear hσ
        refine AH_did 6 rfl (by kernel_rfl) (by kernel_rfl) (by kernel_rfl) rfl rfl (dA_concat (p.name ++ [61] ++ Lib.itoa p.dflt) rfl rfl rfl (by simp; omega) rfl rfl) ?_
        refine drn [7] (by kernel_rfl) (by kernel_rfl) rfl rfl ?_
        refine AH_end (by kernel_rfl) ?_
        refine rn rfl ?_
        refine rn rfl (fin_is [] rfl ⟨?_, rfl⟩)
        rw [prmT, if_neg k2, if_neg k4, if_pos hd]
      · refine rn rfl ?_
        refine rn rfl (fin_is [] rfl ⟨?_, rfl⟩)
        rw [prmT, if_neg k2, if_neg k4, if_neg (by simp [hd])]

def starAt (s : Sig) (i : Nat) (p : Param) : Bool := p.kind == 3 && (!(s.any (kIs 2)) && (i == 0 || (s[i - 1]?.map Param.kind) != some 3))

def slashAt (s : Sig) (i : Nat) (p : Param) : Bool := p.kind == 0 && (i + 1 == s.length || (s[i + 1]?.map Param.kind) != some 0)

def starS (s : Sig) (i : Nat) (p : Param) : List Str := if starAt s i p = true then [[42]] else []

def slashS (s : Sig) (i : Nat) (p : Param) : List Str := if slashAt s i p = true then [[47]] else []

def ptAt (s : Sig) (i : Nat) (p : Param) : List Str := starS s i p ++ [prmT p] ++ slashS s i p

def pts (s : Sig) (n : Nat) : List Str := ((s.zipIdx.take n).map fun x => ptAt s x.2 x.1).flatten

def SgT (s : Sig) : Str := Lib.join (pts s s.length) [44, 32]

def SgF (s : Sig) : Str := if okSig s = true then SgT s else []

theorem pts_succ {s : Sig} {i : Nat} {p : Param} (h : s[i]? = some p) : pts s (i + 1) = pts s i ++ ptAt s i p := by
  have hz : s.zipIdx[i]? = some (p, i) := by rw [List.getElem?_zipIdx, h]; simp
  unfold pts
  rw [← take_snoc hz]
  simp

theorem prmT_len {p : Param} (h : okQ p = true) : (prmT p).length ≤ 30 := by
  obtain ⟨_, _, _, h1, h2, h3⟩ := okQ_parts h
  have := Lib.itoa_length_le p.dflt (by omega) (by omega)
  unfold prmT
  split
  · simp; omega
  · split
    · simp; omega
    · split
      · simp; omega
      · omega

theorem pts_len {s : Sig} (h : ∀ p ∈ s, okQ p = true) : ∀ i, i ≤ s.length → (pts s i).length ≤ 3 * i ∧ ∀ t ∈ pts s i, t.length ≤ 30 := by
  intro i
  induction i with
  | zero => intro _; simp [pts]
  | succ i ih =>
    intro hi
    obtain ⟨p, hp⟩ := at_some (xs := s) (i := i) (by omega)
    obtain ⟨i1, i2⟩ := ih (by omega)
    rw [pts_succ hp]
    have hpl := prmT_len (h p (List.mem_of_getElem? hp))
    have hs : (starS s i p).length ≤ 1 ∧ ∀ t ∈ starS s i p, t.length ≤ 30 := by unfold starS; split <;> simp
    have hl : (slashS s i p).length ≤ 1 ∧ ∀ t ∈ slashS s i p, t.length ≤ 30 := by unfold slashS; split <;> simp
    unfold ptAt
    refine ⟨by simp only [List.length_append, List.length_cons, List.length_nil]; omega, fun t ht => ?_⟩
    simp only [List.mem_append, List.mem_singleton] at ht
    rcases ht with ht | (ht | ht) | ht
    · exact i2 t ht
    · exact hs.2 t ht
    · subst ht; exact hpl
    · exact hl.2 t ht

theorem joinTail_len2 (sep : Str) : ∀ (r : List Str) (k : Nat), (∀ n ∈ r, n.length ≤ k) → (Lib.joinTail sep r).length ≤ (k + sep.length) * r.length := by
  intro r k hr
  induction r with
  | nil => simp [Lib.joinTail]
  | cons y r ih =>
    have h1 := hr y (by simp)
    have h2 := ih (fun n hn => hr n (by simp [hn]))
    have e : Lib.joinTail sep (y :: r) = sep ++ y ++ Lib.joinTail sep r := by simp [Lib.joinTail]
    rw [e, List.length_append, List.length_append, List.length_cons, Nat.mul_add]
    omega

theorem join_len2 (sep : Str) (r : List Str) (k : Nat) (hr : ∀ n ∈ r, n.length ≤ k) : (Lib.join r sep).length ≤ (k + sep.length) * r.length := by
  cases r with
  | nil => simp [Lib.join_nil]
  | cons x r =>
    rw [Lib.join_cons, List.length_append, List.length_cons, Nat.mul_add]
    have := joinTail_len2 sep r k (fun n hn => hr n (by simp [hn]))
    have := hr x (by simp)
    omega

theorem iSigText_ct (s : Sig) (hb : s.length ≤ 9223372036854775807) (hn : ∀ p ∈ s, p.name.length ≤ 9223372036854775807) : ACalls pk 14 [.agg (eG s)] [] (fun r o => r = .one (.str (SgF s)) ∧ o = []) := by
  refine acalls_of_body Tryz.func14 rfl (by kernel_rfl) rfl ?_
  refine rn rfl ?_
  refine goal_step (step_call [] rfl rfl rfl rfl rfl rfl (ivalidSig_ct s hb hn)) ?_
  rintro σ2 ⟨r, o', ⟨rfl, rfl⟩, hσ⟩
  obtain rfl := Option.some.inj hσ
  clear hσ
  refine rn rfl ?_
  cases hv : okSig s with
  | false =>
    refine goal_cond rfl (fun _ => ?_) (fun h => by simp at h)
    refine rn rfl (fin_is [] rfl ⟨?_, rfl⟩)
    rw [SgF, hv]; rfl
  | true =>
    refine goal_cond rfl (fun h => by simp at h) (fun _ => ?_)
    have hS := okSig_iff.1 hv
    have h8 := hS.len
    refine rn rfl ?_
    refine goal_weakCod (Weak.adopt 3 0 1) ?_
    refine goal_loop_keep (fun m σ => ∃ (n L : Int) (i len : Nat), n = i ∧ L = s.length ∧ i ≤ s.length ∧ m = s.length - i ∧ len = (pts s i).length ∧
        σ = ⟨[(12, .one (.int .i64 n)), (11, .one (.int .i64 L)), (10, .one (.fs (s.map eQ))), (3, .one (.os 0 0 len len)), (1, .one (.op 1 0 0))], [ownS (pts s i), some ⟨1, [eG s], false, false, true⟩], []⟩) s.length [12, 11, 10, 3, 1] [1, 0] rfl
      ⟨_, _, 0, _, rfl, by simp, by omega, by omega, rfl, rfl⟩ ?_
    rintro m σ ⟨n, L, i, len, rfl, rfl, hi, rfl, rfl, rfl⟩
    obtain ⟨hpl, hpt⟩ := pts_len hS.params i hi
    refine rn rfl ?_
    refine goal_cond rfl (fun h => ?_) (fun h => ?_) <;> (try simp only [gt_iff_lt, ge_iff_le, bne_iff_ne, ne_eq, bne_eq_false_iff_eq, beq_iff_eq, beq_eq_false_iff_ne, Bool.not_eq_true', Bool.not_eq_false', decide_eq_true_eq, decide_eq_false_iff_not, List.length_map] at h)
    · obtain ⟨p, hp⟩ := at_some (xs := s) (i := i) (by omega)
      obtain ⟨q1, q2, q3, q4, q5, q6⟩ := okQ_parts (hS.params p (List.mem_of_getElem? hp))
      have hst := pts_succ hp
      refine rn rfl ?_
      refine goal_did rfl rfl (dA_index (eQ p) rfl rfl rfl rfl rfl rfl rfl (by omega) (by (try simp); omega) (map_at (by simpa using hp)) rfl) ?_
      refine rt 7 rfl ?_
      refine goal_cutR (fun σ => ∃ l : Nat, l = (pts s i ++ starS s i p).length ∧ σ = ⟨[(12, .one (.int .i64 i)), (11, .one (.int .i64 s.length)), (10, .one (.fs (s.map eQ))), (5, .one (.op 2 0 0)), (4, .one (.int .i64 i)), (3, .one (.os 0 0 l l)), (1, .one (.op 1 0 0))],
        [ownS (pts s i ++ starS s i p), some ⟨1, [eG s], false, false, true⟩, some ⟨4, [eQ p], false, false, true⟩], []⟩) ?_ ?_
      · refine rn rfl ?_
        refine goal_guard rfl rfl rfl (fun h1 => ?_) (fun h1 => ?_) <;> (try simp only [gt_iff_lt, ge_iff_le, bne_iff_ne, ne_eq, bne_eq_false_iff_eq, beq_iff_eq, beq_eq_false_iff_ne, Bool.not_eq_true', Bool.not_eq_false', decide_eq_true_eq, decide_eq_false_iff_not, List.length_map] at h1)
        · refine rn rfl ?_
          refine goal_step (step_call [] rfl rfl rfl rfl rfl rfl (has_ct s 2 hb)) ?_
          rintro σ2 ⟨r, o', ⟨rfl, rfl⟩, hσ⟩
          obtain rfl := Option.some.inj hσ
          clear hσ
          refine rn rfl ?_
          refine goal_guard rfl rfl rfl (fun h2 => ?_) (fun h2 => ?_) <;> (try simp only [gt_iff_lt, ge_iff_le, bne_iff_ne, ne_eq, bne_eq_false_iff_eq, beq_iff_eq, beq_eq_false_iff_ne, Bool.not_eq_true', Bool.not_eq_false', decide_eq_true_eq, decide_eq_false_iff_not, List.length_map] at h2)
          · refine rn rfl ?_
            refine goal_guard rfl rfl rfl (fun h3 => ?_) (fun h3 => ?_) <;> (try simp only [gt_iff_lt, ge_iff_le, bne_iff_ne, ne_eq, bne_eq_false_iff_eq, beq_iff_eq, beq_eq_false_iff_ne, Bool.not_eq_true', Bool.not_eq_false', decide_eq_true_eq, decide_eq_false_iff_not, List.length_map] at h3)
            · have e : starS s i p = [[42]] := by rw [starS, if_pos (by simp [starAt, h1, h2, show i = 0 by omega])]
              rw [e]
              refine rn rfl ?_
              refine goal_did rfl rfl (dA_append (old := (pts s i).map eS) (rows := ([[42]] : List Str).map eS) (((pts s i) ++ ([[42]] : List Str)).map eS) ((pts s i).length + 1) true (Dst.own rfl rfl rfl rfl rfl (by first | (simp; done) | (simp; omega)) (whole (by first | (simp; done) | (simp; omega)))) (Src.os rfl rfl (Nat.le_refl 1) rfl) rfl rfl rfl rfl rfl rfl rfl rfl (rows_len eS_len _) (rows_len eS_len _) (by (try simp only [List.length_map, List.length_append, List.length_cons, List.length_nil, List.length_take, List.length_drop]); show _ * 16 ≤ _; omega) (by first | (simp; done) | (simp; omega)) (by simp) (by first | (simp; done) | (simp; omega)) (fun _ => noOwnR_map _ eS_noOwn _)) ?_
              refine rn rfl ?_
              exact cut_nrm [12, 11, 10, 5, 4, 3, 1] [4, 1, 2] rfl ⟨(pts s i).length + 1, by simp, rfl⟩
            · obtain ⟨l, hl⟩ := at_some (xs := s) (i := i - 1) (by omega)
              have hw : IntKind.i64.wrap ((i : Int) - 1) = ((i - 1 : Nat) : Int) := by rw [wrap64] <;> omega
              refine rn rfl ?_
              refine goal_did rfl rfl (dA_index (eQ l) rfl rfl rfl rfl rfl rfl rfl (by rw [hw]; omega) (by rw [hw]; simp; omega) (map_at (by rw [hw]; simpa using hl)) rfl) ?_
              refine rn rfl ?_
              refine goal_cond rfl (fun h4 => ?_) (fun h4 => ?_) <;> (try simp only [gt_iff_lt, ge_iff_le, bne_iff_ne, ne_eq, bne_eq_false_iff_eq, beq_iff_eq, beq_eq_false_iff_ne, Bool.not_eq_true', Bool.not_eq_false', decide_eq_true_eq, decide_eq_false_iff_not, List.length_map] at h4)
              · have e : starS s i p = [[42]] := by rw [starS, if_pos (by simp [starAt, h1, h2, hl, h4])]
                rw [e]
                refine rn rfl ?_
                refine goal_did rfl rfl (dA_append (old := (pts s i).map eS) (rows := ([[42]] : List Str).map eS) (((pts s i) ++ ([[42]] : List Str)).map eS) ((pts s i).length + 1) true (Dst.own rfl rfl rfl rfl rfl (by first | (simp; done) | (simp; omega)) (whole (by first | (simp; done) | (simp; omega)))) (Src.os rfl rfl (Nat.le_refl 1) rfl) rfl rfl rfl rfl rfl rfl rfl rfl (rows_len eS_len _) (rows_len eS_len _) (by (try simp only [List.length_map, List.length_append, List.length_cons, List.length_nil, List.length_take, List.length_drop]); show _ * 16 ≤ _; omega) (by first | (simp; done) | (simp; omega)) (by simp) (by first | (simp; done) | (simp; omega)) (fun _ => noOwnR_map _ eS_noOwn _)) ?_
                refine rn rfl ?_
                exact cut_nrm [12, 11, 10, 5, 4, 3, 1] [4, 1, 2] rfl ⟨(pts s i).length + 1, by simp, rfl⟩
              · have e : starS s i p = [] := by rw [starS, if_neg (by simp [starAt, h1, h2, hl, h4, show ¬ i = 0 by omega])]
                rw [e, List.append_nil]
                refine rn rfl ?_
                exact cut_nrm [12, 11, 10, 5, 4, 3, 1] [0, 1, 2] rfl ⟨_, rfl, rfl⟩
          · have e : starS s i p = [] := by rw [starS, if_neg (by simp [starAt, h2])]
            rw [e, List.append_nil]
            refine rn rfl ?_
            exact cut_nrm [12, 11, 10, 5, 4, 3, 1] [0, 1, 2] rfl ⟨_, rfl, rfl⟩
        · have e : starS s i p = [] := by rw [starS, if_neg (by simp [starAt, h1])]
          rw [e, List.append_nil]
          refine rn rfl ?_
          exact cut_nrm [12, 11, 10, 5, 4, 3, 1] [0, 1, 2] rfl ⟨_, rfl, rfl⟩
      rintro _ ⟨l, rfl, rfl⟩
      have hsl : (starS s i p).length ≤ 1 := by unfold starS; split <;> simp
      generalize hA : pts s i ++ starS s i p = A at *
      have hAl : A.length ≤ 100 := by rw [← hA]; simp; omega
      refine rn rfl ?_
      refine goal_step (step_call [] rfl rfl rfl rfl rfl rfl (itext_ct p (by omega) (by omega) (by omega))) ?_
      rintro σ2 ⟨r, o', ⟨rfl, rfl⟩, hσ⟩
      obtain rfl := Option.some.inj hσ
      clear hσ
      refine rn rfl ?_
      refine goal_did rfl rfl (dA_append (old := (A).map eS) (rows := ([prmT p] : List Str).map eS) (((A) ++ ([prmT p] : List Str)).map eS) (A.length + 1) true (Dst.own rfl rfl rfl rfl rfl (by first | (simp; done) | (simp; omega)) (whole (by first | (simp; done) | (simp; omega)))) (Src.os rfl rfl (Nat.le_refl 1) rfl) rfl rfl rfl rfl rfl rfl rfl rfl (rows_len eS_len _) (rows_len eS_len _) (by (try simp only [List.length_map, List.length_append, List.length_cons, List.length_nil, List.length_take, List.length_drop]); show _ * 16 ≤ _; omega) (by first | (simp; done) | (simp; omega)) (by simp) (by first | (simp; done) | (simp; omega)) (fun _ => noOwnR_map _ eS_noOwn _)) ?_
      refine rn rfl ?_
      have hend : pts s (i + 1) = A ++ [prmT p] ++ slashS s i p := by rw [hst, ptAt, ← hA]; simp
      generalize hB : A ++ [prmT p] = B at *
      have hBl : B.length = A.length + 1 := by rw [← hB]; simp
      rw [← hBl]
      refine rn rfl ?_
      have hw0 : IntKind.i64.wrap ((s.length : Int) - 1) = (s.length : Int) - 1 := wrap64 (by omega) (by omega)
      refine goal_guard rfl rfl rfl (fun h1 => ?_) (fun h1 => ?_) <;> (try simp only [gt_iff_lt, ge_iff_le, bne_iff_ne, ne_eq, bne_eq_false_iff_eq, beq_iff_eq, beq_eq_false_iff_ne, Bool.not_eq_true', Bool.not_eq_false', decide_eq_true_eq, decide_eq_false_iff_not, List.length_map] at h1)
      · refine rn rfl ?_
        refine goal_guard rfl rfl rfl (fun h2 => ?_) (fun h2 => ?_) <;> (try simp only [gt_iff_lt, ge_iff_le, bne_iff_ne, ne_eq, bne_eq_false_iff_eq, beq_iff_eq, beq_eq_false_iff_ne, Bool.not_eq_true', Bool.not_eq_false', decide_eq_true_eq, decide_eq_false_iff_not, List.length_map] at h2)
        · have e : slashS s i p = [[47]] := by rw [slashS, if_pos (by simp [slashAt, h1, show i + 1 = s.length by omega])]
          rw [e] at hend
          refine rn rfl ?_
          refine goal_did rfl rfl (dA_append (old := (B).map eS) (rows := ([[47]] : List Str).map eS) (((B) ++ ([[47]] : List Str)).map eS) (B.length + 1) true (Dst.own rfl rfl rfl rfl rfl (by first | (simp; done) | (simp; omega)) (whole (by first | (simp; done) | (simp; omega)))) (Src.os rfl rfl (Nat.le_refl 1) rfl) rfl rfl rfl rfl rfl rfl rfl rfl (rows_len eS_len _) (rows_len eS_len _) (by (try simp only [List.length_map, List.length_append, List.length_cons, List.length_nil, List.length_take, List.length_drop]); show _ * 16 ≤ _; omega) (by first | (simp; done) | (simp; omega)) (by simp) (by first | (simp; done) | (simp; omega)) (fun _ => noOwnR_map _ eS_noOwn _)) ?_
          refine rn rfl ?_
          refine round_keep (s.length - (i + 1)) [12, 11, 10, 3, 1] [6, 1] (by omega) rfl ⟨_, _, i + 1, B.length + 1, wrap64 (by omega) (by omega), rfl, by omega, rfl, by rw [hend]; simp, by rw [hend]; rfl⟩
        · obtain ⟨l, hl⟩ := at_some (xs := s) (i := i + 1) (by omega)
          have hw : IntKind.i64.wrap ((i : Int) + 1) = ((i + 1 : Nat) : Int) := by rw [wrap64] <;> omega
          refine rn rfl ?_
          refine goal_did rfl rfl (dA_index (eQ l) rfl rfl rfl rfl rfl rfl rfl (by rw [hw]; omega) (by rw [hw]; simp; omega) (map_at (by rw [hw]; simpa using hl)) rfl) ?_
          refine rn rfl ?_
          refine goal_cond rfl (fun h4 => ?_) (fun h4 => ?_) <;> (try simp only [gt_iff_lt, ge_iff_le, bne_iff_ne, ne_eq, bne_eq_false_iff_eq, beq_iff_eq, beq_eq_false_iff_ne, Bool.not_eq_true', Bool.not_eq_false', decide_eq_true_eq, decide_eq_false_iff_not, List.length_map] at h4)
          · have e : slashS s i p = [[47]] := by rw [slashS, if_pos (by simp [slashAt, h1, hl, h4])]
            rw [e] at hend
            refine rn rfl ?_
            refine goal_did rfl rfl (dA_append (old := (B).map eS) (rows := ([[47]] : List Str).map eS) (((B) ++ ([[47]] : List Str)).map eS) (B.length + 1) true (Dst.own rfl rfl rfl rfl rfl (by first | (simp; done) | (simp; omega)) (whole (by first | (simp; done) | (simp; omega)))) (Src.os rfl rfl (Nat.le_refl 1) rfl) rfl rfl rfl rfl rfl rfl rfl rfl (rows_len eS_len _) (rows_len eS_len _) (by (try simp only [List.length_map, List.length_append, List.length_cons, List.length_nil, List.length_take, List.length_drop]); show _ * 16 ≤ _; omega) (by first | (simp; done) | (simp; omega)) (by simp) (by first | (simp; done) | (simp; omega)) (fun _ => noOwnR_map _ eS_noOwn _)) ?_
            refine rn rfl ?_
            refine round_keep (s.length - (i + 1)) [12, 11, 10, 3, 1] [6, 1] (by omega) rfl ⟨_, _, i + 1, B.length + 1, wrap64 (by omega) (by omega), rfl, by omega, rfl, by rw [hend]; simp, by rw [hend]; rfl⟩
          · have e : slashS s i p = [] := by rw [slashS, if_neg (by simp [slashAt, h1, hl, h4]; omega)]
            rw [e, List.append_nil] at hend
            refine rn rfl ?_
            refine round_keep (s.length - (i + 1)) [12, 11, 10, 3, 1] [4, 1] (by omega) rfl ⟨_, _, i + 1, _, wrap64 (by omega) (by omega), rfl, by omega, rfl, by rw [hend], by rw [hend]; rfl⟩
      · have e : slashS s i p = [] := by rw [slashS, if_neg (by simp [slashAt, h1])]
        rw [e, List.append_nil] at hend
        refine rn rfl ?_
        refine round_keep (s.length - (i + 1)) [12, 11, 10, 3, 1] [4, 1] (by omega) rfl ⟨_, _, i + 1, _, wrap64 (by omega) (by omega), rfl, by omega, rfl, by rw [hend], by rw [hend]; rfl⟩
    · have hil : i = s.length := by omega
      subst hil
      have hj := join_len2 [44, 32] (pts s s.length) 30 hpt
      have hj2 : (30 + [(44 : UInt8), 32].length) * (pts s s.length).length ≤ 32 * 24 := Nat.mul_le_mul_left _ (by omega)
      have e : SgF s = Lib.join (pts s s.length) [44, 32] := by rw [SgF, if_pos hv]; rfl
      rw [e]
      generalize pts s s.length = A at *
      refine rn rfl ?_
      refine round_ext ?_
      refine rn rfl ?_
      refine goal_step (step_callE [] rfl rfl rfl rfl rfl rfl (congrArg (fun z => [T.one (C.fs z), T.one (C.str [44, 32])]) (takeAll eS _ _ rfl)) (join_ct A [44, 32] (by omega) (by omega))) ?_
      rintro σ2 ⟨r, o', ⟨rfl, rfl⟩, hσ⟩
      obtain rfl := Option.some.inj hσ
      clear hσ
      refine rn rfl ?_
      exact rn rfl (fin_is [] rfl ⟨rfl, rfl⟩)

theorem named_first {s : Sig} {i : Nat} {p : Param} (hS : OkS s) (hp : s[i]? = some p) (hk : p.kind = 3) : (idxI (kIs 3) s 0 == (i : Int)) = (i == 0 || (s[i - 1]?.map Param.kind) != some 3) := by
  have hany : s.any (kIs 3) = true := List.any_eq_true.2 ⟨p, List.mem_of_getElem? hp, by simp [kIs, hk]⟩
  rw [idxI_some hany, Nat.zero_add]
  have hil := lt_of_some hp
  have hpi : kIs 3 s[i] = true := by
    rw [List.getElem?_eq_getElem hil] at hp; cases hp; simp [kIs, hk]
  have hle : s.findIdx (kIs 3) ≤ i := by
    by_cases h : i < s.findIdx (kIs 3)
    · have := List.not_of_lt_findIdx h
      simp [hpi] at this
    · omega
  by_cases h0 : i = 0
  · subst h0
    have : s.findIdx (kIs 3) = 0 := by omega
    rw [this]; simp
  · obtain ⟨l, hl⟩ := at_some (xs := s) (i := i - 1) (by omega)
    have hb : (i == 0) = false := by simpa using h0
    rw [hb, hl, Bool.false_or, Option.map_some]
    by_cases h3 : l.kind = 3
    · have : s.findIdx (kIs 3) ≤ i - 1 := by
        by_cases h : i - 1 < s.findIdx (kIs 3)
        · have := List.not_of_lt_findIdx h
          have hl2 : s[i - 1]'(by omega) = l := by
            have h5 := List.getElem?_eq_getElem (l := s) (i := i - 1) (by omega)
            rw [hl] at h5
            exact (Option.some.inj h5).symm
          simp [kIs, hl2, h3] at this
        · omega
      rw [h3]
      simp
      omega
    · have : s.findIdx (kIs 3) = i := by
        refine Nat.le_antisymm hle (Nat.le_of_not_lt fun hlt => ?_)
        have hf : kIs 3 s[s.findIdx (kIs 3)] = true := List.findIdx_getElem (w := by omega)
        have h1 := hS.sorted (i - 1 - s.findIdx (kIs 3)) (s.findIdx (kIs 3)) _ l (List.getElem?_eq_getElem (by omega)) (by rw [show s.findIdx (kIs 3) + (i - 1 - s.findIdx (kIs 3)) = i - 1 by omega]; exact hl)
        have h2 := hS.sorted 1 (i - 1) l p hl (by rw [show i - 1 + 1 = i by omega]; exact hp)
        have h4 : (s[s.findIdx (kIs 3)]'(by omega)).kind = 3 := by simpa [kIs] using hf
        omega
      rw [this]
      simp [h3]

theorem join_snoc2 (A : List Str) (n sep : Str) : Lib.join (A ++ [n]) sep = if A = [] then n else Lib.join A sep ++ sep ++ n := by
  cases A with
  | nil => rw [List.nil_append, Lib.join_one, if_pos rfl]
  | cons x r =>
    rw [if_neg (by simp), List.cons_append, Lib.join_cons, Lib.join_cons]
    simp [Lib.joinTail]

theorem sjoin_ct (xs : List Str) (sep : Str) (hl : xs.length ≤ 1000) (hk : ∀ x ∈ xs, x.length ≤ 1000) (hs : sep.length ≤ 100) : ACalls pk 66 [.one (.fs (xs.map eS)), .one (.str sep)] [] (fun r o => r = .one (.str (Lib.join xs sep)) ∧ o = []) := by
  refine acalls_of_body Tryz.func66 rfl (by kernel_rfl) rfl ?_
  refine rn rfl ?_
  refine goal_loop_keep (fun m σ => ∃ (n : Int) (i : Nat) (acc : Str), n = i ∧ i ≤ xs.length ∧ m = xs.length - i ∧ acc = Lib.join (xs.take i) sep ∧
      σ = ⟨[(6, .one (.int .i64 n)), (5, .one (.str acc)), (1, .one (.str sep)), (0, .one (.fs (xs.map eS)))], [], []⟩) xs.length [6, 5, 1, 0] [] rfl
    ⟨_, 0, _, rfl, by omega, by omega, by rw [List.take_zero, Lib.join_nil], rfl⟩ ?_
  rintro m σ ⟨n, i, acc, rfl, hi, rfl, hacc, rfl⟩
  have hal : acc.length ≤ 1100 * 1000 := by
    have h1 := join_len2 sep (xs.take i) 1000 (fun n h => hk n (List.mem_of_mem_take h))
    have h2 : (xs.take i).length ≤ 1000 := by rw [List.length_take]; omega
    have h3 : (1000 + sep.length) * (xs.take i).length ≤ 1100 * 1000 := Nat.mul_le_mul (by omega) h2
    rw [hacc]; omega
  refine rn rfl ?_
  refine goal_cond rfl (fun h => ?_) (fun h => ?_) <;> (try simp only [gt_iff_lt, ge_iff_le, bne_iff_ne, ne_eq, bne_eq_false_iff_eq, beq_iff_eq, beq_eq_false_iff_ne, Bool.not_eq_true', Bool.not_eq_false', decide_eq_true_eq, decide_eq_false_iff_not, List.length_map] at h)
  · obtain ⟨x, hx⟩ := at_some (xs := xs) (i := i) (by omega)
    have hxl := hk x (List.mem_of_getElem? hx)
    have hst := join_snoc2 (xs.take i) x sep
    rw [take_snoc hx, ← hacc] at hst
    refine rn rfl ?_
    refine goal_cond rfl (fun h1 => ?_) (fun h1 => ?_) <;> (try simp only [gt_iff_lt, ge_iff_le, bne_iff_ne, ne_eq, bne_eq_false_iff_eq, beq_iff_eq, beq_eq_false_iff_ne, Bool.not_eq_true', Bool.not_eq_false', decide_eq_true_eq, decide_eq_false_iff_not, List.length_map] at h1)
    · have hne : ¬ xs.take i = [] := fun h0 => by
        have := congrArg List.length h0
        rw [List.length_take, List.length_nil] at this
        omega
      rw [if_neg hne] at hst
      refine rn rfl ?_
      refine goal_did rfl rfl (dA_concat (acc ++ sep) rfl rfl rfl (by (try simp); omega) rfl rfl) ?_
      refine rn rfl ?_
      refine goal_did rfl rfl (dA_index (eS x) rfl rfl rfl rfl rfl rfl rfl (by omega) (by (try simp); omega) (map_at (by simpa using hx)) rfl) ?_
      refine rn rfl ?_
      refine goal_did rfl rfl (dA_concat (acc ++ sep ++ x) rfl rfl rfl (by (try simp); omega) rfl rfl) ?_
      refine rn rfl ?_
      refine round_keep (xs.length - (i + 1)) [6, 5, 1, 0] [] (by omega) rfl ⟨_, i + 1, _, wrap64 (by omega) (by omega), by omega, rfl, hst.symm, rfl⟩
    · have h0 : i = 0 := by omega
      subst h0
      rw [List.take_zero, Lib.join_nil] at hacc
      subst hacc
      rw [List.take_zero, if_pos rfl] at hst
      refine rn rfl ?_
      refine goal_did rfl rfl (dA_index (eS x) rfl rfl rfl rfl rfl rfl rfl (by omega) (by (try simp); omega) (map_at (by simpa using hx)) rfl) ?_
      refine rn rfl ?_
      refine goal_did rfl rfl (dA_concat ([] ++ x) rfl rfl rfl (by simp; omega) rfl rfl) ?_
      refine rn rfl ?_
      refine round_keep (xs.length - (0 + 1)) [6, 5, 1, 0] [] (by omega) rfl ⟨_, 0 + 1, _, wrap64 (by omega) (by omega), by omega, rfl, by rw [hst]; rfl, rfl⟩
  · rw [show i = xs.length by omega, List.take_length] at hacc
    subst hacc
    refine rn rfl ?_
    refine round_ext ?_
    exact rn rfl (fin_is [] rfl ⟨rfl, rfl⟩)

theorem sSigText_ct (s : Sig) (hS : OkS s) : ACalls pk 40 [.agg (eG s)] [] (fun r o => r = .one (.str (SgT s)) ∧ o = []) := by
  have h8 := hS.len
  have hb : s.length ≤ 9223372036854775807 := by omega
  have hidx := fun i p (hp : s[i]? = some p) => named_first hS hp
  have hge := idxI_ge (pred := kIs 2) (xs := s) (i := 0)
  refine acalls_of_body Tryz.func40 rfl (by kernel_rfl) rfl ?_
  refine rn rfl ?_
  refine goal_loop_keep (fun m σ => ∃ (n : Int) (i len : Nat), n = i ∧ i ≤ s.length ∧ m = s.length - i ∧ len = (pts s i).length ∧
      σ = ⟨[(4, .one (.int .i64 n)), (3, .one (.os 0 0 len len)), (1, .one (.op 1 0 0))], [ownS (pts s i), some ⟨1, [eG s], false, false, true⟩], []⟩) s.length [4, 3, 1] [1, 0] rfl
    ⟨_, 0, _, rfl, by omega, by omega, rfl, rfl⟩ ?_
  rintro m σ ⟨n, i, len, rfl, hi, rfl, rfl, rfl⟩
  obtain ⟨hpl, hpt⟩ := pts_len hS.params i hi
  refine rn rfl ?_
  refine goal_cond rfl (fun h => ?_) (fun h => ?_) <;> (try simp only [gt_iff_lt, ge_iff_le, bne_iff_ne, ne_eq, bne_eq_false_iff_eq, beq_iff_eq, beq_eq_false_iff_ne, Bool.not_eq_true', Bool.not_eq_false', decide_eq_true_eq, decide_eq_false_iff_not, List.length_map] at h)
  · obtain ⟨p, hp⟩ := at_some (xs := s) (i := i) (by omega)
    obtain ⟨q1, q2, q3, q4, q5, q6⟩ := okQ_parts (hS.params p (List.mem_of_getElem? hp))
    have hst := pts_succ hp
    refine rn rfl ?_
    refine goal_did rfl rfl (dA_index (eQ p) rfl rfl rfl rfl rfl rfl rfl (by omega) (by (try simp); omega) (map_at (by simpa using hp)) rfl) ?_
    refine rt 6 rfl ?_
    refine goal_cutR (fun σ => ∃ l : Nat, l = (pts s i ++ starS s i p).length ∧ σ = ⟨[(5, .one (.op 2 0 0)), (4, .one (.int .i64 i)), (3, .one (.os 0 0 l l)), (1, .one (.op 1 0 0))],
      [ownS (pts s i ++ starS s i p), some ⟨1, [eG s], false, false, true⟩, some ⟨4, [eQ p], false, false, true⟩], []⟩) ?_ ?_
    · refine rn rfl ?_
      refine goal_guard rfl rfl rfl (fun h1 => ?_) (fun h1 => ?_) <;> (try simp only [gt_iff_lt, ge_iff_le, bne_iff_ne, ne_eq, bne_eq_false_iff_eq, beq_iff_eq, beq_eq_false_iff_ne, Bool.not_eq_true', Bool.not_eq_false', decide_eq_true_eq, decide_eq_false_iff_not, List.length_map] at h1)
      · refine rn rfl ?_
        refine goal_step (step_call [] rfl rfl rfl rfl rfl rfl (kindAt_ct s 2 hb)) ?_
        rintro σ2 ⟨r, o', ⟨rfl, rfl⟩, hσ⟩
        obtain rfl := Option.some.inj hσ
        clear hσ
        refine rn rfl ?_
        refine goal_guard rfl rfl rfl (fun h2 => ?_) (fun h2 => ?_) <;> (try simp only [gt_iff_lt, ge_iff_le, bne_iff_ne, ne_eq, bne_eq_false_iff_eq, beq_iff_eq, beq_eq_false_iff_ne, Bool.not_eq_true', Bool.not_eq_false', decide_eq_true_eq, decide_eq_false_iff_not, List.length_map] at h2)
        · refine rn rfl ?_
          refine goal_step (step_call [] rfl rfl rfl rfl rfl rfl (kindAt_ct s 3 hb)) ?_
          rintro σ2 ⟨r, o', ⟨rfl, rfl⟩, hσ⟩
          obtain rfl := Option.some.inj hσ
          clear hσ
          refine rn rfl ?_
          refine goal_cond rfl (fun h3 => ?_) (fun h3 => ?_) <;> (try simp only [gt_iff_lt, ge_iff_le, bne_iff_ne, ne_eq, bne_eq_false_iff_eq, beq_iff_eq, beq_eq_false_iff_ne, Bool.not_eq_true', Bool.not_eq_false', decide_eq_true_eq, decide_eq_false_iff_not, List.length_map] at h3)
          · have e : starS s i p = [[42]] := by
              have e1 : s.any (kIs 2) = false := by
                cases hb : s.any (kIs 2) with
                | false => rfl
                | true => have := hge.2 hb; omega
              rw [starS, if_pos ?_]
              rw [starAt, e1, ← hidx i p hp h1, h3]
              simp [h1]
            rw [e]
            refine rn rfl ?_
            refine goal_did rfl rfl (dA_append (old := (pts s i).map eS) (rows := ([[42]] : List Str).map eS) (((pts s i) ++ ([[42]] : List Str)).map eS) ((pts s i).length + 1) true (Dst.own rfl rfl rfl rfl rfl (by first | (simp; done) | (simp; omega)) (whole (by first | (simp; done) | (simp; omega)))) (Src.os rfl rfl (Nat.le_refl 1) rfl) rfl rfl rfl rfl rfl rfl rfl rfl (rows_len eS_len _) (rows_len eS_len _) (by (try simp only [List.length_map, List.length_append, List.length_cons, List.length_nil, List.length_take, List.length_drop]); show _ * 16 ≤ _; omega) (by first | (simp; done) | (simp; omega)) (by simp) (by first | (simp; done) | (simp; omega)) (fun _ => noOwnR_map _ eS_noOwn _)) ?_
            refine rn rfl ?_
            exact cut_nrm [5, 4, 3, 1] [4, 1, 2] rfl ⟨(pts s i).length + 1, by simp, rfl⟩
          · have e : starS s i p = [] := by
              have e2 : (idxI (kIs 3) s 0 == (i : Int)) = false := by simpa using h3
              rw [starS, if_neg ?_]
              rw [starAt, ← hidx i p hp h1, e2]
              simp
            rw [e, List.append_nil]
            refine rn rfl ?_
            exact cut_nrm [5, 4, 3, 1] [0, 1, 2] rfl ⟨_, rfl, rfl⟩
        · have e : starS s i p = [] := by
            rw [starS, if_neg ?_]
            rw [starAt, hge.1 (by omega)]
            simp
          rw [e, List.append_nil]
          refine rn rfl ?_
          exact cut_nrm [5, 4, 3, 1] [0, 1, 2] rfl ⟨_, rfl, rfl⟩
      · have e : starS s i p = [] := by rw [starS, if_neg (by simp [starAt, h1])]
        rw [e, List.append_nil]
        refine rn rfl ?_
        exact cut_nrm [5, 4, 3, 1] [0, 1, 2] rfl ⟨_, rfl, rfl⟩
    rintro _ ⟨l, rfl, rfl⟩
    have hsl : (starS s i p).length ≤ 1 := by unfold starS; split <;> simp
    generalize hA : pts s i ++ starS s i p = A at *
    have hAl : A.length ≤ 100 := by rw [← hA]; simp; omega
    refine rn rfl ?_
    refine goal_step (step_call [] rfl rfl rfl rfl rfl rfl (stext_ct p (by omega) (by omega) (by omega))) ?_
    rintro σ2 ⟨r, o', ⟨rfl, rfl⟩, hσ⟩
    obtain rfl := Option.some.inj hσ
    clear hσ
    refine rn rfl ?_
    refine goal_did rfl rfl (dA_append (old := (A).map eS) (rows := ([prmT p] : List Str).map eS) (((A) ++ ([prmT p] : List Str)).map eS) (A.length + 1) true (Dst.own rfl rfl rfl rfl rfl (by first | (simp; done) | (simp; omega)) (whole (by first | (simp; done) | (simp; omega)))) (Src.os rfl rfl (Nat.le_refl 1) rfl) rfl rfl rfl rfl rfl rfl rfl rfl (rows_len eS_len _) (rows_len eS_len _) (by (try simp only [List.length_map, List.length_append, List.length_cons, List.length_nil, List.length_take, List.length_drop]); show _ * 16 ≤ _; omega) (by first | (simp; done) | (simp; omega)) (by simp) (by first | (simp; done) | (simp; omega)) (fun _ => noOwnR_map _ eS_noOwn _)) ?_
    refine rn rfl ?_
    have hend : pts s (i + 1) = A ++ [prmT p] ++ slashS s i p := by rw [hst, ptAt, ← hA]; simp
    generalize hB : A ++ [prmT p] = B at *
    have hBl : B.length = A.length + 1 := by rw [← hB]; simp
    rw [← hBl]
    refine rn rfl ?_
    have hw0 : IntKind.i64.wrap ((i : Int) + 1) = (i : Int) + 1 := wrap64 (by omega) (by omega)
    refine goal_guard rfl rfl rfl (fun h1 => ?_) (fun h1 => ?_) <;> (try simp only [gt_iff_lt, ge_iff_le, bne_iff_ne, ne_eq, bne_eq_false_iff_eq, beq_iff_eq, beq_eq_false_iff_ne, Bool.not_eq_true', Bool.not_eq_false', decide_eq_true_eq, decide_eq_false_iff_not, List.length_map] at h1)
    · refine rn rfl ?_
      refine goal_guard rfl rfl rfl (fun h2 => ?_) (fun h2 => ?_) <;> (try simp only [gt_iff_lt, ge_iff_le, bne_iff_ne, ne_eq, bne_eq_false_iff_eq, beq_iff_eq, beq_eq_false_iff_ne, Bool.not_eq_true', Bool.not_eq_false', decide_eq_true_eq, decide_eq_false_iff_not, List.length_map] at h2)
      · have e : slashS s i p = [[47]] := by rw [slashS, if_pos (by simp [slashAt, h1, show i + 1 = s.length by omega])]
        rw [e] at hend
        refine rn rfl ?_
        refine goal_did rfl rfl (dA_append (old := (B).map eS) (rows := ([[47]] : List Str).map eS) (((B) ++ ([[47]] : List Str)).map eS) (B.length + 1) true (Dst.own rfl rfl rfl rfl rfl (by first | (simp; done) | (simp; omega)) (whole (by first | (simp; done) | (simp; omega)))) (Src.os rfl rfl (Nat.le_refl 1) rfl) rfl rfl rfl rfl rfl rfl rfl rfl (rows_len eS_len _) (rows_len eS_len _) (by (try simp only [List.length_map, List.length_append, List.length_cons, List.length_nil, List.length_take, List.length_drop]); show _ * 16 ≤ _; omega) (by first | (simp; done) | (simp; omega)) (by simp) (by first | (simp; done) | (simp; omega)) (fun _ => noOwnR_map _ eS_noOwn _)) ?_
        refine rn rfl ?_
        refine round_keep (s.length - (i + 1)) [4, 3, 1] [6, 1] (by omega) rfl ⟨_, i + 1, B.length + 1, wrap64 (by omega) (by omega), by omega, rfl, by rw [hend]; simp, by rw [hend]; rfl⟩
      · obtain ⟨l, hl⟩ := at_some (xs := s) (i := i + 1) (by omega)
        have hw : IntKind.i64.wrap ((i : Int) + 1) = ((i + 1 : Nat) : Int) := by rw [wrap64] <;> omega
        refine rn rfl ?_
        refine goal_did rfl rfl (dA_index (eQ l) rfl rfl rfl rfl rfl rfl rfl (by rw [hw]; omega) (by rw [hw]; simp; omega) (map_at (by rw [hw]; simpa using hl)) rfl) ?_
        refine rn rfl ?_
        refine goal_cond rfl (fun h4 => ?_) (fun h4 => ?_) <;> (try simp only [gt_iff_lt, ge_iff_le, bne_iff_ne, ne_eq, bne_eq_false_iff_eq, beq_iff_eq, beq_eq_false_iff_ne, Bool.not_eq_true', Bool.not_eq_false', decide_eq_true_eq, decide_eq_false_iff_not, List.length_map] at h4)
        · have e : slashS s i p = [[47]] := by rw [slashS, if_pos (by simp [slashAt, h1, hl, h4])]
          rw [e] at hend
          refine rn rfl ?_
          refine goal_did rfl rfl (dA_append (old := (B).map eS) (rows := ([[47]] : List Str).map eS) (((B) ++ ([[47]] : List Str)).map eS) (B.length + 1) true (Dst.own rfl rfl rfl rfl rfl (by first | (simp; done) | (simp; omega)) (whole (by first | (simp; done) | (simp; omega)))) (Src.os rfl rfl (Nat.le_refl 1) rfl) rfl rfl rfl rfl rfl rfl rfl rfl (rows_len eS_len _) (rows_len eS_len _) (by (try simp only [List.length_map, List.length_append, List.length_cons, List.length_nil, List.length_take, List.length_drop]); show _ * 16 ≤ _; omega) (by first | (simp; done) | (simp; omega)) (by simp) (by first | (simp; done) | (simp; omega)) (fun _ => noOwnR_map _ eS_noOwn _)) ?_
          refine rn rfl ?_
          refine round_keep (s.length - (i + 1)) [4, 3, 1] [6, 1] (by omega) rfl ⟨_, i + 1, B.length + 1, wrap64 (by omega) (by omega), by omega, rfl, by rw [hend]; simp, by rw [hend]; rfl⟩
        · have e : slashS s i p = [] := by rw [slashS, if_neg (by simp [slashAt, h1, hl, h4]; omega)]
          rw [e, List.append_nil] at hend
          refine rn rfl ?_
          refine round_keep (s.length - (i + 1)) [4, 3, 1] [4, 1] (by omega) rfl ⟨_, i + 1, _, wrap64 (by omega) (by omega), by omega, rfl, by rw [hend], by rw [hend]; rfl⟩
    · have e : slashS s i p = [] := by rw [slashS, if_neg (by simp [slashAt, h1])]
      rw [e, List.append_nil] at hend
      refine rn rfl ?_
      refine round_keep (s.length - (i + 1)) [4, 3, 1] [4, 1] (by omega) rfl ⟨_, i + 1, _, wrap64 (by omega) (by omega), by omega, rfl, by rw [hend], by rw [hend]; rfl⟩

  · have hil : i = s.length := by omega
    subst hil
    have e : SgT s = Lib.join (pts s s.length) [44, 32] := rfl
    rw [e]
    generalize pts s s.length = A at *
    refine rn rfl ?_
    refine round_ext ?_
    refine rn rfl ?_
    refine goal_step (step_callE [] rfl rfl rfl rfl rfl rfl (congrArg (fun z => [T.one (C.fs z), T.one (C.str [44, 32])]) (takeAll eS _ _ rfl)) (sjoin_ct A [44, 32] (by omega) (fun x hx => by have := hpt x hx; omega) (by simp))) ?_
    rintro σ2 ⟨r, o', ⟨rfl, rfl⟩, hσ⟩
    obtain rfl := Option.some.inj hσ
    clear hσ
    refine rn rfl ?_
    exact rn rfl (fin_is [] rfl ⟨rfl, rfl⟩)

def cut2 : Str → Str → List Str
  | cur, [] => [cur]
  | cur, [x] => [cur ++ [x]]
  | cur, x :: y :: l => if x = 44 ∧ y = 32 then cur :: cut2 [] l else cut2 (cur ++ [x]) (y :: l)

theorem cut2_nil (cur : Str) : cut2 cur [] = [cur] := by rw [cut2]

theorem cut2_one (cur : Str) (x : UInt8) : cut2 cur [x] = [cur ++ [x]] := by rw [cut2]

theorem cut2_eq (cur l : Str) : cut2 cur (44 :: 32 :: l) = cur :: cut2 [] l := by rw [cut2, if_pos ⟨rfl, rfl⟩]

theorem cut2_ne {x y : UInt8} (h : ¬ (x = 44 ∧ y = 32)) (cur l : Str) : cut2 cur (x :: y :: l) = cut2 (cur ++ [x]) (y :: l) := by rw [cut2, if_neg h]

def hdApp2 (a : Str) : List Str → List Str
  | [] => []
  | h :: t => (a ++ h) :: t

theorem cut2_hd : ∀ (k : Nat) (l cur : Str), l.length ≤ k → cut2 cur l = hdApp2 cur (cut2 [] l)
  | k, [], cur, _ => by simp [cut2_nil, hdApp2]
  | k, [x], cur, _ => by simp [cut2_one, hdApp2]
  | 0, x :: y :: l, cur, h => by simp at h
  | k + 1, x :: y :: l, cur, h => by
    by_cases he : x = 44 ∧ y = 32
    · obtain ⟨rfl, rfl⟩ := he
      rw [cut2_eq, cut2_eq]; simp [hdApp2]
    · have hl : (y :: l).length ≤ k := by simp at h ⊢; omega
      rw [cut2_ne he, cut2_ne he, cut2_hd k _ (cur ++ [x]) hl, cut2_hd k _ ([] ++ [x]) hl]
      cases cut2 [] (y :: l) with
      | nil => rfl
      | cons a t => simp [hdApp2]

theorem pre2 {x y : UInt8} {l : Str} (h : ¬ (x = 44 ∧ y = 32)) : ([44, 32] : Str).isPrefixOf (x :: y :: l) = false := by
  by_cases h1 : x = 44
  · have h2 : ¬ y = 32 := fun h2 => h ⟨h1, h2⟩
    simp [List.isPrefixOf, Ne.symm h2]
  · simp [List.isPrefixOf, Ne.symm h1]

theorem index_skip {b : UInt8} {l : Str} (hp : ([44, 32] : Str).isPrefixOf (b :: l) = false) : Lib.index (b :: l) [44, 32] = if Lib.index l [44, 32] == -1 then -1 else Lib.index l [44, 32] + 1 := by
  rw [Lib.index, hp]; simp

theorem count_skip {b : UInt8} {l : Str} (hp : ([44, 32] : Str).isPrefixOf (b :: l) = false) : Lib.count (b :: l) [44, 32] = Lib.count l [44, 32] := by
  have hi := index_skip hp
  have hge := Lib.index_ge l [44, 32]
  by_cases h : Lib.index l [44, 32] = -1
  · rw [h] at hi
    rw [Lib.count_miss hi, Lib.count_miss h]
  · obtain ⟨i, hi2⟩ : ∃ i : Nat, Lib.index l [44, 32] = i := ⟨(Lib.index l [44, 32]).toNat, by omega⟩
    have hb : (Lib.index l [44, 32] == -1) = false := by simpa using h
    rw [hb, hi2] at hi
    rw [Lib.count_hit (i := i + 1) (by simp) (by rw [hi]; simp), Lib.count_hit (by simp) hi2]
    congr 2

theorem split_skip {b : UInt8} {l : Str} (hp : ([44, 32] : Str).isPrefixOf (b :: l) = false) : Lib.split (b :: l) [44, 32] = hdApp2 [b] (Lib.split l [44, 32]) := by
  unfold Lib.split
  rw [count_skip hp]
  cases hk : Lib.count l [44, 32] with
  | zero => rfl
  | succ k =>
    have hne : ¬ Lib.index l [44, 32] = -1 := fun h0 => by rw [Lib.count_miss h0] at hk; cases hk
    have hge := Lib.index_ge l [44, 32]
    have hb : (Lib.index l [44, 32] == -1) = false := by simpa using hne
    rw [Lib.splitK, Lib.splitK, index_skip hp, hb]
    simp only [Bool.false_eq_true, if_false]
    have h2 : ¬ ((Lib.index l [44, 32] + 1 == -1) = true) := by simp; omega
    rw [if_neg h2]
    simp only [hdApp2]
    have h3 : (Lib.index l [44, 32] + 1).toNat = (Lib.index l [44, 32]).toNat + 1 := by omega
    rw [h3]
    simp [Nat.add_right_comm]

theorem split_cut2 : ∀ (k : Nat) (s : Str), s.length ≤ k → Lib.split s [44, 32] = cut2 [] s
  | k, [], _ => by
    have : Lib.count [] [44, 32] = 0 := Lib.count_miss rfl
    unfold Lib.split
    rw [this, cut2_nil]; rfl
  | k, [x], _ => by
    have hp : ([44, 32] : Str).isPrefixOf [x] = false := by simp [List.isPrefixOf]
    have : Lib.count [] [44, 32] = 0 := Lib.count_miss rfl
    rw [split_skip hp, cut2_one]
    unfold Lib.split
    rw [this]; rfl
  | 0, x :: y :: l, h => by simp at h
  | k + 1, x :: y :: l, h => by
    by_cases he : x = 44 ∧ y = 32
    · obtain ⟨rfl, rfl⟩ := he
      have hi : Lib.index (44 :: 32 :: l) [44, 32] = ((0 : Nat) : Int) := by rw [Lib.index]; simp [List.isPrefixOf]
      have ih := split_cut2 k l (by simp at h; omega)
      unfold Lib.split at ih ⊢
      rw [Lib.count_hit (by simp) hi, Nat.add_comm, Lib.splitK, cut2_eq, ← ih, hi]
      simp
    · have ih := split_cut2 k (y :: l) (by simp at h ⊢; omega)
      rw [split_skip (pre2 he), ih, cut2_ne he, cut2_hd _ _ ([] ++ [x]) (Nat.le_refl _)]
      rfl

theorem cut2_len : ∀ (k : Nat) (l cur : Str), l.length ≤ k → (cut2 cur l).length ≤ l.length + 1 ∧ ∀ p ∈ cut2 cur l, p.length ≤ cur.length + l.length
  | k, [], cur, _ => by simp [cut2_nil]
  | k, [x], cur, _ => by simp [cut2_one]
  | 0, x :: y :: l, cur, h => by simp at h
  | k + 1, x :: y :: l, cur, h => by
    by_cases he : x = 44 ∧ y = 32
    · obtain ⟨rfl, rfl⟩ := he
      rw [cut2_eq]
      obtain ⟨i1, i2⟩ := cut2_len k l [] (by simp at h; omega)
      refine ⟨by simp only [List.length_cons]; omega, fun p hp => ?_⟩
      rcases List.mem_cons.1 hp with rfl | hp
      · omega
      · have := i2 p hp; simp only [List.length_nil, List.length_cons] at *; omega
    · rw [cut2_ne he]
      obtain ⟨i1, i2⟩ := cut2_len k (y :: l) (cur ++ [x]) (by simp at h ⊢; omega)
      refine ⟨by simp at i1 ⊢; omega, fun p hp => ?_⟩
      have := i2 p hp; simp at this ⊢; omega

theorem no_cut2 : ∀ {l cur : Str}, (44 : UInt8) ∉ l → cut2 cur l = [cur ++ l]
  | [], cur, _ => by simp [cut2_nil]
  | [x], cur, _ => by simp [cut2_one]
  | x :: y :: l, cur, h => by
    have hx : ¬ (x = 44 ∧ y = 32) := fun he => h (by simp [he.1])
    rw [cut2_ne hx, no_cut2 (fun hm => h (List.mem_cons_of_mem _ hm))]; simp

theorem cut2_app : ∀ {a cur l : Str}, (44 : UInt8) ∉ a → cut2 cur (a ++ 44 :: 32 :: l) = (cur ++ a) :: cut2 [] l
  | [], cur, l, _ => by rw [List.nil_append, cut2_eq]; simp
  | x :: a, cur, l, h => by
    simp only [List.mem_cons, not_or] at h
    have hx : ∀ y, ¬ (x = 44 ∧ y = (32 : UInt8)) := fun y he => h.1 he.1.symm
    have ih := cut2_app (a := a) (cur := cur ++ [x]) (l := l) h.2
    cases a with
    | nil =>
      rw [List.cons_append, List.nil_append, cut2_ne (hx 44), cut2_eq]
    | cons y a =>
      rw [List.cons_append, List.cons_append, cut2_ne (hx y)]
      rw [List.cons_append] at ih
      rw [ih]; simp

/-- What is joined is cut into the same. -/
theorem cut2_join : ∀ (x : Str) (r : List Str), (44 : UInt8) ∉ x → (∀ p ∈ r, (44 : UInt8) ∉ p) → cut2 [] (Lib.join (x :: r) [44, 32]) = x :: r
  | x, [], hx, _ => by rw [Lib.join_one, no_cut2 hx]; simp
  | x, y :: r, hx, hr => by
    have hj : Lib.join (x :: y :: r) [44, 32] = x ++ 44 :: 32 :: Lib.join (y :: r) [44, 32] := by
      rw [Lib.join_cons, Lib.join_cons]
      simp [Lib.joinTail]
    rw [hj, cut2_app hx, cut2_join y r (hr y (by simp)) (fun p hp => hr p (by simp [hp]))]
    simp

theorem name_no {n : Str} {c : UInt8} (h : okName n = true) (hc : letter c = false) : c ∉ n := fun hm => by
  unfold okName at h
  simp only [Bool.and_eq_true, List.all_eq_true] at h
  have := h.1 c hm
  rw [hc] at this
  cases this

def itoaC (c : UInt8) : Bool := c == 45 || (decide (48 ≤ c) && decide (c ≤ 57))

theorem digit_C : ∀ k, k < 10 → itoaC (UInt8.ofNat (48 + k)) = true := by decide

theorem dec_mem {n : Nat} (h : n ≤ 99) {c : UInt8} (hc : c ∈ Lib.decDigits n) : itoaC c = true := by
  by_cases h1 : n < 10
  · rw [Lib.decDigits_one h1, List.mem_singleton] at hc
    subst hc
    exact digit_C n h1
  · rw [Lib.decDigits_two h1 (by omega)] at hc
    simp only [List.mem_cons, List.not_mem_nil, or_false] at hc
    rcases hc with rfl | rfl
    · exact digit_C _ (by omega)
    · exact digit_C _ (by omega)

theorem itoa_mem {n : Int} (h1 : -99 ≤ n) (h2 : n ≤ 99) {c : UInt8} (hc : c ∈ Lib.itoa n) : itoaC c = true := by
  have hn := itoa_nat n.natAbs
  by_cases h : n < 0
  · have e : Lib.itoa n = [45] ++ Lib.itoa ((n.natAbs : Nat) : Int) := by
      rw [itoa_nat]; unfold Lib.itoa; rw [if_pos h]; rfl
    rw [e, hn] at hc
    simp only [List.singleton_append, List.mem_cons] at hc
    rcases hc with rfl | hc
    · rfl
    · exact dec_mem (by omega) hc
  · rw [show n = ((n.natAbs : Nat) : Int) by omega, hn] at hc
    exact dec_mem (by omega) hc

/-- What a parameter's text holds. -/
theorem prm_no {p : Param} {c : UInt8} (h : okQ p = true) (h1 : letter c = false) (h2 : itoaC c = false) (h3 : c ≠ 42) (h4 : c ≠ 61) : c ∉ prmT p := by
  obtain ⟨k1, _, _, k2, k3, _⟩ := okQ_parts h
  have hn := name_no k1 h1
  have hi : c ∉ Lib.itoa p.dflt := fun hm => by rw [itoa_mem k2 k3 hm] at h2; cases h2
  unfold prmT
  split
  · simp [h3, hn]
  · split
    · simp [h3, hn]
    · split
      · simp [h4, hn, hi]
      · exact hn

theorem pts_no {s : Sig} {c : UInt8} (h : ∀ p ∈ s, okQ p = true) (h1 : letter c = false) (h2 : itoaC c = false) (h3 : c ≠ 42) (h4 : c ≠ 61) (h5 : c ≠ 47) : ∀ i, i ≤ s.length → ∀ t ∈ pts s i, c ∉ t := by
  intro i
  induction i with
  | zero => intro _ t ht; simp [pts] at ht
  | succ i ih =>
    intro hi t ht
    obtain ⟨p, hp⟩ := at_some (xs := s) (i := i) (by omega)
    rw [pts_succ hp, ptAt] at ht
    have hpn := prm_no (h p (List.mem_of_getElem? hp)) h1 h2 h3 h4
    simp only [List.mem_append, List.mem_singleton] at ht
    rcases ht with ht | (ht | ht) | ht
    · exact ih (by omega) t ht
    · unfold starS at ht
      split at ht
      · simp only [List.mem_singleton] at ht; subst ht; simp [h3]
      · cases ht
    · subst ht; exact hpn
    · unfold slashS at ht
      split at ht
      · simp only [List.mem_singleton] at ht; subst ht; simp [h5]
      · cases ht

theorem pts_ne {s : Sig} (h : s ≠ []) : pts s s.length ≠ [] := by
  obtain ⟨p, hp⟩ := at_some (xs := s) (i := s.length - 1) (by have := List.length_pos_iff.2 h; omega)
  have hl := List.length_pos_iff.2 h
  have e := pts_succ hp
  rw [show s.length - 1 + 1 = s.length by omega] at e
  rw [e, ptAt]
  simp

theorem cut_SgT {s : Sig} (hS : OkS s) (h : s ≠ []) : cut2 [] (SgT s) = pts s s.length := by
  have hno := pts_no (c := 44) hS.params (by decide) (by decide) (by decide) (by decide) (by decide) s.length (Nat.le_refl _)
  have hne := pts_ne h
  unfold SgT
  generalize pts s s.length = A at *
  cases A with
  | nil => exact absurd rfl hne
  | cons x r => exact cut2_join x r (hno x (by simp)) (fun p hp => hno p (by simp [hp]))

def okIs (s : Str) (n : Int) : Bool := match Lib.atoiAll s with
  | .ok v => v == n
  | _ => false

theorem okIs_eq {s : Str} {n : Int} (h : okIs s n = true) : Lib.atoiAll s = .ok n := by
  unfold okIs at h
  split at h
  · rename_i v hv
    rw [hv, beq_iff_eq.1 h]
  · cases h

theorem atoi1 : ∀ a, a < 10 → okIs [UInt8.ofNat (48 + a)] (a : Nat) = true ∧ okIs [45, UInt8.ofNat (48 + a)] (-(a : Int)) = true := by decide +kernel

theorem atoi2 : ∀ a, a < 10 → ∀ b, b < 10 → okIs [UInt8.ofNat (48 + a), UInt8.ofNat (48 + b)] ((10 * a + b : Nat) : Int) = true ∧ okIs [45, UInt8.ofNat (48 + a), UInt8.ofNat (48 + b)] (-((10 * a + b : Nat) : Int)) = true := by decide +kernel

theorem itoa_forms {n : Int} (h1 : -99 ≤ n) (h2 : n ≤ 99) : (∃ a : Nat, a < 10 ∧ n = a ∧ Lib.itoa n = [UInt8.ofNat (48 + a)]) ∨ (∃ a : Nat, a < 10 ∧ n = -(a : Int) ∧ Lib.itoa n = [45, UInt8.ofNat (48 + a)]) ∨
    (∃ a b : Nat, 1 ≤ a ∧ a < 10 ∧ b < 10 ∧ n = ((10 * a + b : Nat) : Int) ∧ Lib.itoa n = [UInt8.ofNat (48 + a), UInt8.ofNat (48 + b)]) ∨ (∃ a b : Nat, 1 ≤ a ∧ a < 10 ∧ b < 10 ∧ n = -((10 * a + b : Nat) : Int) ∧ Lib.itoa n = [45, UInt8.ofNat (48 + a), UInt8.ofNat (48 + b)]) := by
  have hn := itoa_nat n.natAbs
  by_cases h : n < 0
  · have e : Lib.itoa n = [45] ++ Lib.itoa ((n.natAbs : Nat) : Int) := by
      rw [itoa_nat]; unfold Lib.itoa; rw [if_pos h]; rfl
    rw [hn] at e
    by_cases h3 : n.natAbs < 10
    · rw [Lib.decDigits_one h3] at e
      exact .inr (.inl ⟨n.natAbs, h3, by omega, e⟩)
    · rw [Lib.decDigits_two h3 (by omega)] at e
      exact .inr (.inr (.inr ⟨n.natAbs / 10, n.natAbs % 10, by omega, by omega, by omega, by omega, e⟩))
  · have e : Lib.itoa n = Lib.decDigits n.natAbs := by rw [← hn]; congr 1; omega
    by_cases h3 : n.natAbs < 10
    · rw [Lib.decDigits_one h3] at e
      exact .inl ⟨n.natAbs, h3, by omega, e⟩
    · rw [Lib.decDigits_two h3 (by omega)] at e
      exact .inr (.inr (.inl ⟨n.natAbs / 10, n.natAbs % 10, by omega, by omega, by omega, by omega, e⟩))

theorem atoi_itoa {n : Int} (h1 : -99 ≤ n) (h2 : n ≤ 99) : Lib.atoiAll (Lib.itoa n) = .ok n := by
  rcases itoa_forms h1 h2 with ⟨a, ha, hn, e⟩ | ⟨a, ha, hn, e⟩ | ⟨a, b, _, ha, hb, hn, e⟩ | ⟨a, b, _, ha, hb, hn, e⟩
  · rw [e, hn]; exact okIs_eq (atoi1 a ha).1
  · rw [e, hn]; exact okIs_eq (atoi1 a ha).2
  · rw [e, hn]; exact okIs_eq (atoi2 a ha b hb).1
  · rw [e, hn]; exact okIs_eq (atoi2 a ha b hb).2

theorem fold1 : ∀ a, a < 10 → foldD 0 [UInt8.ofNat (48 + a)] = some a ∧ sgnAt [UInt8.ofNat (48 + a)] = 0 := by decide +kernel

theorem fold2 : ∀ a, a < 10 → ∀ b, b < 10 → foldD 0 [UInt8.ofNat (48 + a), UInt8.ofNat (48 + b)] = some (10 * a + b) ∧ sgnAt [UInt8.ofNat (48 + a), UInt8.ofNat (48 + b)] = 0 := by decide +kernel

theorem rd_of {s : Str} {n : Nat} {m : Int} (hf : foldD 0 (s.drop (sgnAt s)) = some n) (hg : sgQ s n = m) (hs : s = Lib.itoa m) : RdS s = (m, true) := by
  unfold RdS
  rw [hf]
  simp only
  rw [hg, ← hs]
  simp

theorem rd_itoa {n : Int} (h1 : -99 ≤ n) (h2 : n ≤ 99) : RdS (Lib.itoa n) = (n, true) := by
  have hsg : ∀ l : Str, sgnAt (45 :: l) = 1 := fun l => rfl
  rcases itoa_forms h1 h2 with ⟨a, ha, hn, e⟩ | ⟨a, ha, hn, e⟩ | ⟨a, b, _, ha, hb, hn, e⟩ | ⟨a, b, _, ha, hb, hn, e⟩
  · obtain ⟨f1, f2⟩ := fold1 a ha
    refine rd_of (n := a) ?_ ?_ rfl
    · rw [e, f2]; exact f1
    · rw [e, sgQ, f2, if_neg (by decide), hn]
  · obtain ⟨f1, f2⟩ := fold1 a ha
    refine rd_of (n := a) ?_ ?_ rfl
    · rw [e, hsg]; exact f1
    · rw [e, sgQ, hsg, if_pos rfl, hn]
  · obtain ⟨f1, f2⟩ := fold2 a ha b hb
    refine rd_of (n := 10 * a + b) ?_ ?_ rfl
    · rw [e, f2]; exact f1
    · rw [e, sgQ, f2, if_neg (by decide), hn]
  · obtain ⟨f1, f2⟩ := fold2 a ha b hb
    refine rd_of (n := 10 * a + b) ?_ ?_ rfl
    · rw [e, hsg]; exact f1
    · rw [e, sgQ, hsg, if_pos rfl, hn]

def cutQ (t : Str) : Str × Str × Bool := Lib.cut t [61]

def setK (k : Int) (p : Param) : Param := ⟨p.name, k, p.hasD, p.dflt⟩

def stepP (st : Sig × Int) (t : Str) : Sig × Int :=
  if t = [47] then (st.1.map (setK 0), st.2)
  else if t = [42] then (st.1, 3)
  else if Lib.hasPrefix t [42, 42] = true then (st.1 ++ [⟨t.drop 2, 4, false, 0⟩], st.2)
  else if Lib.hasPrefix t [42] = true then (st.1 ++ [⟨t.drop 1, 2, false, 0⟩], 3)
  else (st.1 ++ [⟨(cutQ t).1, st.2, (cutQ t).2.2, if (cutQ t).2.2 = true then (RdS (cutQ t).2.1).1 else 0⟩], st.2)

def exS (s : Sig) (i : Nat) : Sig := if (s[i]?.map Param.kind) = some 0 then (s.take i).map (setK 1) else s.take i

def kdS (s : Sig) (i : Nat) : Int := if (s.take i).any (fun p => p.kind == 2 || p.kind == 3) = true then 3 else 1

theorem index_no {c : UInt8} : ∀ {a : Str}, c ∉ a → Lib.index a [c] = -1
  | [], _ => rfl
  | x :: a, h => by
    simp only [List.mem_cons, not_or] at h
    have hp : ([c] : Str).isPrefixOf (x :: a) = false := by simp [List.isPrefixOf, h.1]
    rw [Lib.index, hp, index_no h.2]; rfl

theorem index_at {c : UInt8} : ∀ {a b : Str}, c ∉ a → Lib.index (a ++ c :: b) [c] = (a.length : Int)
  | [], b, _ => by rw [List.nil_append, Lib.index]; simp [List.isPrefixOf]
  | x :: a, b, h => by
    simp only [List.mem_cons, not_or] at h
    have hp : ([c] : Str).isPrefixOf (x :: (a ++ c :: b)) = false := by simp [List.isPrefixOf, h.1]
    rw [List.cons_append, Lib.index, hp, index_at h.2]
    have : ¬ ((a.length : Int) == -1) = true := by simp
    rw [if_neg (by simp), if_neg this]
    simp

theorem cutQ_no {a : Str} (h : (61 : UInt8) ∉ a) : cutQ a = (a, [], false) := by
  unfold cutQ Lib.cut
  rw [index_no h]; rfl

theorem cutQ_at {a b : Str} (h : (61 : UInt8) ∉ a) : cutQ (a ++ [61] ++ b) = (a, b, true) := by
  have e : a ++ [61] ++ b = a ++ 61 :: b := by simp
  unfold cutQ Lib.cut
  rw [e, index_at h, if_pos (by omega)]
  simp

theorem name_head {n : Str} (h : okName n = true) : ∃ c r, n = c :: r ∧ letter c = true := by
  have h0 := h
  unfold okName inR at h
  simp only [Bool.and_eq_true, List.all_eq_true, decide_eq_true_eq] at h
  cases n with
  | nil => simp at h
  | cons c r => exact ⟨c, r, rfl, h.1 c (by simp)⟩

theorem step_one {p : Param} (h : okQ p = true) (hs : singleQ p = true) (ps : Sig) (k : Int) : stepP (ps, k) (prmT p) = (ps ++ [setK k p], k) := by
  obtain ⟨k1, _, _, k2, k3, _⟩ := okQ_parts h
  obtain ⟨c, r, hn, hc⟩ := name_head k1
  have hk := single_kind.1 hs
  have h61 : (61 : UInt8) ∉ p.name := name_no k1 (by decide)
  have c47 : ¬ c = 47 := fun h0 => by rw [h0] at hc; revert hc; decide
  have c42 : ¬ c = 42 := fun h0 => by rw [h0] at hc; revert hc; decide
  have hp : ∃ r', prmT p = c :: r' := by
    unfold prmT
    rw [if_neg (by omega), if_neg (by omega), hn]
    split
    · exact ⟨_, rfl⟩
    · exact ⟨_, rfl⟩
  obtain ⟨r', hr⟩ := hp
  unfold stepP
  rw [if_neg (by rw [hr]; simp [c47]), if_neg (by rw [hr]; simp [c42]), if_neg (by rw [hr]; simp [Lib.hasPrefix, List.isPrefixOf, Ne.symm c42]), if_neg (by rw [hr]; simp [Lib.hasPrefix, List.isPrefixOf, Ne.symm c42])]
  unfold prmT setK
  rw [if_neg (by omega), if_neg (by omega)]
  cases hd : p.hasD with
  | true =>
    rw [if_pos rfl, cutQ_at h61]
    simp [rd_itoa k2 k3]
  | false =>
    have h0 : p.dflt = 0 := by
      simp only [okQ, hd, Bool.and_eq_true, Bool.false_or, beq_iff_eq] at h
      exact h.1.2
    rw [if_neg (by simp), cutQ_no h61]
    simp [h0]

theorem step_rest {p : Param} (h : okQ p = true) (hk : p.kind = 2) (ps : Sig) (k : Int) : stepP (ps, k) (prmT p) = (ps ++ [p], 3) := by
  obtain ⟨k1, _, _, k2, k3, _⟩ := okQ_parts h
  obtain ⟨c, r, hn, hc⟩ := name_head k1
  have c42 : ¬ c = 42 := fun h0 => by rw [h0] at hc; revert hc; decide
  have hd : p.hasD = false := by
    have hs : singleQ p = false := by
      cases hs : singleQ p with
      | false => rfl
      | true => have := single_kind.1 hs; omega
    simp only [okQ, hs, Bool.and_eq_true, Bool.false_or, Bool.not_eq_true'] at h
    exact h.2
  have h0 : p.dflt = 0 := by
    simp only [okQ, hd, Bool.and_eq_true, Bool.false_or, beq_iff_eq] at h
    exact h.1.2
  unfold stepP prmT
  rw [if_pos hk, hn]
  have e : p = ⟨c :: r, 2, false, 0⟩ := by rw [← hn, ← hk, ← hd, ← h0]
  rw [if_neg (by simp), if_neg (by simp), if_neg (by simp [Lib.hasPrefix, List.isPrefixOf, Ne.symm c42]), if_pos (by simp [Lib.hasPrefix, List.isPrefixOf]), e]
  simp

theorem step_map {p : Param} (h : okQ p = true) (hk : p.kind = 4) (ps : Sig) (k : Int) : stepP (ps, k) (prmT p) = (ps ++ [p], k) := by
  obtain ⟨k1, _, _, k2, k3, _⟩ := okQ_parts h
  obtain ⟨c, r, hn, hc⟩ := name_head k1
  have hd : p.hasD = false := by
    have hs : singleQ p = false := by
      cases hs : singleQ p with
      | false => rfl
      | true => have := single_kind.1 hs; omega
    simp only [okQ, hs, Bool.and_eq_true, Bool.false_or, Bool.not_eq_true'] at h
    exact h.2
  have h0 : p.dflt = 0 := by
    simp only [okQ, hd, Bool.and_eq_true, Bool.false_or, beq_iff_eq] at h
    exact h.1.2
  have et : prmT p = 42 :: 42 :: c :: r := by unfold prmT; rw [if_neg (by omega), if_pos hk, hn]; rfl
  unfold stepP
  rw [et]
  have e : p = ⟨c :: r, 4, false, 0⟩ := by rw [← hn, ← hk, ← hd, ← h0]
  rw [if_neg (by simp), if_neg (by simp), if_pos (by simp [Lib.hasPrefix, List.isPrefixOf]), e]
  simp

theorem setK_same {p : Param} {k : Int} (h : p.kind = k) : setK k p = p := by subst h; rfl

theorem kdS_succ {s : Sig} {i : Nat} {p : Param} (hp : s[i]? = some p) : kdS s (i + 1) = if p.kind = 2 ∨ p.kind = 3 then 3 else kdS s i := by
  unfold kdS
  rw [← take_snoc hp, List.any_append]
  cases h : (s.take i).any (fun p => p.kind == 2 || p.kind == 3) with
  | true => simp
  | false =>
    by_cases hk : p.kind = 2 ∨ p.kind = 3
    · rw [if_pos hk]; rcases hk with hk | hk <;> simp [hk]
    · rw [if_neg hk]; simp only [not_or] at hk; simp [hk.1, hk.2]

theorem kdS_low {s : Sig} {i : Nat} {p : Param} (hS : OkS s) (hp : s[i]? = some p) (hk : p.kind ≤ 1) : kdS s i = 1 := by
  unfold kdS
  rw [if_neg]
  intro h
  rw [List.any_eq_true] at h
  obtain ⟨q, hq, hqk⟩ := h
  obtain ⟨j, hj⟩ := List.getElem?_of_mem hq
  rw [List.getElem?_take] at hj
  split at hj
  · rename_i hji
    have := hS.sorted (i - j) j q p hj (by rw [show j + (i - j) = i by omega]; exact hp)
    simp only [Bool.or_eq_true, beq_iff_eq] at hqk
    omega
  · cases hj

theorem exS_next {s : Sig} {i : Nat} (h : ∀ q, s[i]? = some q → q.kind ≠ 0) : exS s i = s.take i := by
  unfold exS
  rw [if_neg]
  cases hq : s[i]? with
  | none => simp
  | some q => simp [h q hq]

theorem fold_pts {s : Sig} (hS : OkS s) : ∀ i, i ≤ s.length → (pts s i).foldl stepP ([], 1) = (exS s i, kdS s i)
  | 0, _ => by simp [pts, exS, kdS]
  | i + 1, hi => by
    obtain ⟨p, hp⟩ := at_some (xs := s) (i := i) (by omega)
    have hq := hS.params p (List.mem_of_getElem? hp)
    have hkr := hS.kindRange (List.mem_of_getElem? hp)
    have ih := fold_pts hS i (by omega)
    rw [pts_succ hp, List.foldl_append, ih, ptAt, List.foldl_append, List.foldl_append, List.foldl_cons, List.foldl_nil]
    have hnext : ∀ q, s[i + 1]? = some q → p.kind ≤ q.kind := fun q hq2 => hS.sorted 1 i p q hp hq2
    have hslash : p.kind ≠ 0 → slashS s i p = [] := fun h0 => by rw [slashS, if_neg (by simp [slashAt, h0])]
    have hstar : p.kind ≠ 3 → starS s i p = [] := fun h0 => by rw [starS, if_neg (by simp [starAt, h0])]
    have hex : p.kind ≠ 0 → exS s i = s.take i ∧ exS s (i + 1) = s.take i ++ [p] := fun h0 => by
      refine ⟨exS_next fun q hq2 => ?_, ?_⟩
      · rw [hp] at hq2; cases hq2; exact h0
      · rw [exS_next fun q hq2 => ?_, take_snoc hp]
        have := hnext q hq2; omega
    rw [kdS_succ hp]
    by_cases h0 : p.kind = 0
    · rw [hstar (by omega), List.foldl_nil, step_one hq (single_kind.2 (.inl h0)), kdS_low hS hp (by omega), if_neg (by omega)]
      have e1 : exS s i = (s.take i).map (setK 1) := by unfold exS; rw [hp]; simp [h0]
      have hall : ∀ q ∈ s.take (i + 1), q.kind = 0 := fun q hq2 => by
        obtain ⟨j, hj⟩ := List.getElem?_of_mem hq2
        rw [List.getElem?_take] at hj
        split at hj
        · rename_i hji
          have h1 := hS.sorted (i - j) j q p hj (by rw [show j + (i - j) = i by omega]; exact hp)
          have h2 := (hS.kindRange (List.mem_of_getElem? hj)).1
          omega
        · cases hj
      have e2 : (s.take i).map (setK 1) ++ [setK 1 p] = (s.take (i + 1)).map (setK 1) := by rw [← take_snoc hp]; simp
      rw [e1, e2]
      by_cases hsl : slashAt s i p = true
      · have e3 : slashS s i p = [[47]] := by rw [slashS, if_pos hsl]
        have e4 : exS s (i + 1) = s.take (i + 1) := exS_next fun q hq2 h => by
          simp only [slashAt, h0, hq2, h, Bool.and_eq_true, Bool.or_eq_true, beq_iff_eq] at hsl
          have := lt_of_some hq2
          rcases hsl.2 with h1 | h1
          · omega
          · simp at h1
            exact h1 h
        rw [e3, e4, List.foldl_cons, List.foldl_nil]
        unfold stepP
        rw [if_pos rfl]
        have e5 : ((s.take (i + 1)).map (setK 1)).map (setK 0) = s.take (i + 1) := by
          rw [List.map_map]
          have : (s.take (i + 1)).map (setK 0 ∘ setK 1) = (s.take (i + 1)).map id := List.map_congr_left fun q hq2 => by
            simp only [Function.comp, setK, id]
            have := hall q hq2
            rw [← this]
          rw [this, List.map_id]
        rw [e5]
      · have e3 : slashS s i p = [] := by rw [slashS, if_neg hsl]
        have e4 : exS s (i + 1) = (s.take (i + 1)).map (setK 1) := by
          unfold exS
          rw [if_pos]
          simp only [slashAt, h0, Bool.and_eq_true, Bool.or_eq_true, beq_iff_eq, not_and, not_or] at hsl
          have := (hsl trivial).2
          simpa using this
        rw [e3, e4, List.foldl_nil]
    · obtain ⟨x1, x2⟩ := hex h0
      rw [hslash h0, x1, x2, List.foldl_nil]
      by_cases h1 : p.kind = 1
      · rw [hstar (by omega), List.foldl_nil, step_one hq (single_kind.2 (.inr (.inl h1))), kdS_low hS hp (by omega), if_neg (by omega), setK_same h1]
      · by_cases h2 : p.kind = 2
        · rw [hstar (by omega), List.foldl_nil, step_rest hq h2, if_pos (.inl h2)]
        · by_cases h3 : p.kind = 3
          · rw [if_pos (.inr h3)]
            by_cases hst : starAt s i p = true
            · rw [starS, if_pos hst, List.foldl_cons, List.foldl_nil]
              have : stepP (s.take i, kdS s i) [42] = (s.take i, 3) := by unfold stepP; rw [if_neg (by decide), if_pos rfl]
              rw [this, step_one hq (single_kind.2 (.inr (.inr h3))), setK_same h3]
            · rw [starS, if_neg hst, List.foldl_nil]
              have hk : kdS s i = 3 := by
                unfold kdS
                rw [if_pos]
                rw [List.any_eq_true]
                simp only [starAt, h3, Bool.and_eq_true, Bool.or_eq_true, Bool.not_eq_true', beq_iff_eq, not_and, not_or] at hst
                by_cases hany : s.any (kIs 2) = true
                · obtain ⟨q, hqm, hqk⟩ := List.any_eq_true.1 hany
                  obtain ⟨j, hj⟩ := List.getElem?_of_mem hqm
                  have hqk2 : q.kind = 2 := by simpa [kIs] using hqk
                  have hji : j < i := by
                    by_cases hji : j < i
                    · exact hji
                    · have := hS.sorted (j - i) i p q hp (by rw [show i + (j - i) = j by omega]; exact hj)
                      omega
                  refine ⟨q, ?_, by simp [hqk2]⟩
                  exact List.mem_of_getElem? (i := j) (by rw [List.getElem?_take, if_pos hji]; exact hj)
                · have h5 := hst trivial (by simpa using hany)
                  have hi0 : ¬ i = 0 := h5.1
                  obtain ⟨l, hl⟩ := at_some (xs := s) (i := i - 1) (by omega)
                  have h6 := h5.2
                  rw [hl] at h6
                  refine ⟨l, List.mem_of_getElem? (i := i - 1) (by rw [List.getElem?_take, if_pos (by omega)]; exact hl), ?_⟩
                  simp at h6
                  simp [h6]
              rw [hk, step_one hq (single_kind.2 (.inr (.inr h3))), setK_same h3]
          · have h4 : p.kind = 4 := by omega
            rw [hstar h3, List.foldl_nil, step_map hq h4, if_neg (by omega)]

theorem fold_all {s : Sig} (hS : OkS s) : ((pts s s.length).foldl stepP ([], 1)).1 = s := by
  rw [fold_pts hS s.length (Nat.le_refl _), exS_next (fun q hq => by simp at hq), List.take_length]

def pieces2 (s : Str) : List Str := if s = [] then [] else cut2 [] s

theorem splitList_ct (s : Str) (hl : s.length ≤ 1048576) : ACalls pk 50 [.one (.str s)] [] (fun r o => r = .one (.os 0 0 (pieces2 s).length (pieces2 s).length) ∧ o = [ownS (pieces2 s)]) := by
  refine acalls_of_body Tryz.func50 rfl (by kernel_rfl) rfl ?_
  refine rn rfl ?_
  cases hs : (s == []) with
  | true =>
    have h0 : s = [] := by simpa using hs
    subst h0
    refine goal_cond rfl (fun _ => ?_) (fun h => by simp at h)
    refine rn rfl ?_
    exact fin_is [0] rfl ⟨rfl, rfl⟩
  | false =>
    have h0 : ¬ s = [] := by simpa using hs
    have hpos : 0 < s.length := List.length_pos_iff.2 h0
    have hp : pieces2 s = cut2 [] s := by unfold pieces2; rw [if_neg h0]
    rw [hp]
    refine goal_cond rfl (fun h => by cases h) (fun _ => ?_)
    refine rn rfl ?_
    refine goal_loop_keep (fun m σ => ∃ (q f : Int) (i a n : Nat) (out : List Str), q = i ∧ f = a ∧ i < s.length + 1 ∧ a ≤ s.length ∧ m = s.length - i ∧ n = out.length ∧ out.length ≤ i ∧
        ((a ≤ i ∧ out ++ cut2 ((s.drop a).take (i - a)) (s.drop i) = cut2 [] s) ∨ (a = i + 1 ∧ s[i]? = some 32 ∧ out ++ cut2 [] (s.drop a) = cut2 [] s)) ∧
      σ = ⟨[(5, .one (.int .i64 q)), (4, .one (.int .i64 f)), (3, .one (.os 0 0 n n)), (0, .one (.str s))], [ownS out], []⟩) s.length [5, 4, 3, 0] [0] rfl
      ⟨_, 0, 0, 0, 0, [], rfl, rfl, by omega, by omega, by omega, rfl, by simp, .inl ⟨by omega, by simp⟩, rfl⟩ ?_
    rintro m σ ⟨q, f, i, a, n, out, rfl, rfl, hi, ha, rfl, rfl, hol, hcut, rfl⟩
    have hw : IntKind.i64.wrap ((i : Int) + 1) = ((i + 1 : Nat) : Int) := by rw [wrap64] <;> omega
    have hw2 : IntKind.i64.wrap ((i : Int) + 2) = ((i + 2 : Nat) : Int) := by rw [wrap64] <;> omega
    refine rn rfl ?_
    refine goal_cond rfl (fun h => ?_) (fun h => ?_) <;> (try simp only [gt_iff_lt, ge_iff_le, bne_iff_ne, ne_eq, bne_eq_false_iff_eq, beq_iff_eq, beq_eq_false_iff_ne, Bool.not_eq_true', Bool.not_eq_false', decide_eq_true_eq, decide_eq_false_iff_not, List.length_map] at h)
    · rw [hw] at h
      obtain ⟨x, hx⟩ := at_some (xs := s) (i := i) (by omega)
      obtain ⟨y, hy⟩ := at_some (xs := s) (i := i + 1) (by omega)
      have hd : s.drop i = x :: y :: s.drop (i + 2) := by rw [drop_at hx, drop_at hy]
      refine rn rfl ?_
      refine goal_did rfl rfl (dA_strIndex x rfl rfl rfl rfl rfl rfl (by omega) (by simpa using hx)) ?_
      refine rn rfl ?_
      have hsnoc : ∀ b, b ≤ i → (s.drop b).take (i - b) ++ [x] = (s.drop b).take (i + 1 - b) := fun b hb => by
        have : (s.drop b)[i - b]? = some x := by rw [List.getElem?_drop]; rw [show b + (i - b) = i by omega]; exact hx
        rw [show i + 1 - b = (i - b) + 1 by omega, take_snoc this]
      have hkeep : ¬ (x = 44 ∧ y = 32) → (a ≤ i + 1 ∧ out ++ cut2 ((s.drop a).take (i + 1 - a)) (s.drop (i + 1)) = cut2 [] s) := fun hne => by
        rcases hcut with ⟨h1, h2⟩ | ⟨h1, h2, h3⟩
        · refine ⟨by omega, ?_⟩
          rw [hd, cut2_ne hne, hsnoc a h1] at h2
          rw [drop_at hy]; exact h2
        · refine ⟨by omega, ?_⟩
          rw [h1, Nat.sub_self, List.take_zero, ← h1]; exact h3
      cases hx4 : ((x.toNat : Int) == 44) with
      | true =>
        have hxe : x = 44 := UInt8.toNat_inj.1 (by have := beq_iff_eq.1 hx4; have h44 : (44 : UInt8).toNat = 44 := rfl; omega)
        refine goal_guard rfl rfl rfl (fun _ => ?_) (fun h1 => by simp [hx4] at h1)
        refine rn rfl ?_
        refine goal_did rfl rfl (dA_strIndex y rfl rfl rfl rfl rfl rfl (by rw [hw]; omega) (by rw [hw]; simpa using hy)) ?_
        refine rn rfl ?_
        cases hy4 : ((y.toNat : Int) == 32) with
        | true =>
          have hye : y = 32 := UInt8.toNat_inj.1 (by have := beq_iff_eq.1 hy4; have h44 : (32 : UInt8).toNat = 32 := rfl; omega)
          have hcut2 : a ≤ i ∧ out ++ [(s.drop a).take (i - a)] ++ cut2 [] (s.drop (i + 2)) = cut2 [] s := by
            rcases hcut with ⟨h1, h2⟩ | ⟨h1, h2, h3⟩
            · refine ⟨h1, ?_⟩
              rw [hd, hxe, hye, cut2_eq] at h2
              rw [← h2]; simp
            · rw [hx, hxe] at h2; cases h2
          obtain ⟨hai, hcut2⟩ := hcut2
          refine goal_cond rfl (fun _ => ?_) (fun h1 => by simp at h1)
          refine rn rfl ?_
          refine goal_did rfl rfl (dA_strSlice a i ((s.drop a).take (i - a)) rfl rfl rfl rfl (Bnd.some_ rfl rfl) (Bnd.some_ rfl rfl) hai (by omega) rfl rfl) ?_
          refine rn rfl ?_
          refine goal_did rfl rfl (dA_append (old := (out).map eS) (rows := ([(s.drop a).take (i - a)] : List Str).map eS) (((out) ++ ([(s.drop a).take (i - a)] : List Str)).map eS) (out.length + 1) true (Dst.own rfl rfl rfl rfl rfl (by first | (simp; done) | (simp; omega)) (whole (by first | (simp; done) | (simp; omega)))) (Src.os rfl rfl (Nat.le_refl 1) rfl) rfl rfl rfl rfl rfl rfl rfl rfl (rows_len eS_len _) (rows_len eS_len _) (by (try simp only [List.length_map, List.length_append, List.length_cons, List.length_nil, List.length_take, List.length_drop]); show _ * 16 ≤ _; omega) (by first | (simp; done) | (simp; omega)) (by simp) (by first | (simp; done) | (simp; omega)) (fun _ => noOwnR_map _ eS_noOwn _)) ?_
          refine rn rfl ?_
          refine round_keep (s.length - (i + 1)) [5, 4, 3, 0] [2] (by omega) rfl ⟨_, _, i + 1, i + 2, _, out ++ [(s.drop a).take (i - a)], hw, hw2, by omega, by omega, rfl, by simp, by simp; omega, .inr ⟨rfl, by rw [hy, hye], hcut2⟩, rfl⟩
        | false =>
          have hye : ¬ (x = 44 ∧ y = 32) := fun h1 => by rw [h1.2] at hy4; simp at hy4
          refine goal_cond rfl (fun h1 => by simp at h1) (fun _ => ?_)
          refine rn rfl ?_
          refine round_keep (s.length - (i + 1)) [5, 4, 3, 0] [0] (by omega) rfl ⟨_, _, i + 1, a, _, out, hw, rfl, by omega, by omega, rfl, rfl, by omega, .inl (hkeep hye), rfl⟩
      | false =>
        have hxe : ¬ (x = 44 ∧ y = 32) := fun h1 => by rw [h1.1] at hx4; simp at hx4
        refine goal_guard rfl rfl rfl (fun h1 => by simp [hx4] at h1) (fun _ => ?_)
        refine rn rfl ?_
        refine round_keep (s.length - (i + 1)) [5, 4, 3, 0] [0] (by omega) rfl ⟨_, _, i + 1, a, _, out, hw, rfl, by omega, by omega, rfl, rfl, by omega, .inl (hkeep hxe), rfl⟩
    · rw [hw] at h
      have hfin : out ++ [s.drop a] = cut2 [] s := by
        rcases hcut with ⟨h1, h2⟩ | ⟨h1, h2, h3⟩
        · have h3 : (s.drop a).take (i - a) ++ s.drop i = s.drop a := by
            have h5 := List.take_append_drop (i - a) (s.drop a)
            rw [List.drop_drop, show a + (i - a) = i by omega] at h5
            exact h5
          have hll : (s.drop i).length ≤ 1 := by rw [List.length_drop]; omega
          generalize s.drop i = l at *
          generalize (s.drop a).take (i - a) = c at *
          rw [← h2, ← h3]
          match l, hll with
          | [], _ => rw [cut2_nil]; simp
          | [z], _ => rw [cut2_one]
        · have := lt_of_some h2
          rw [← h3, List.drop_eq_nil_of_le (by omega), cut2_nil]
      refine rn rfl ?_
      refine round_ext ?_
      refine rn rfl ?_
      refine goal_did rfl rfl (dA_strSlice a s.length ((s.drop a).take (s.length - a)) rfl rfl rfl rfl (Bnd.some_ rfl rfl) Bnd.none_ ha (Nat.le_refl _) rfl rfl) ?_
      refine rn rfl ?_
      refine goal_did rfl rfl (dA_append (old := (out).map eS) (rows := ([(s.drop a).take (s.length - a)] : List Str).map eS) (((out) ++ ([(s.drop a).take (s.length - a)] : List Str)).map eS) (out.length + 1) true (Dst.own rfl rfl rfl rfl rfl (by first | (simp; done) | (simp; omega)) (whole (by first | (simp; done) | (simp; omega)))) (Src.os rfl rfl (Nat.le_refl 1) rfl) rfl rfl rfl rfl rfl rfl rfl rfl (rows_len eS_len _) (rows_len eS_len _) (by (try simp only [List.length_map, List.length_append, List.length_cons, List.length_nil, List.length_take, List.length_drop]); show _ * 16 ≤ _; omega) (by first | (simp; done) | (simp; omega)) (by simp) (by first | (simp; done) | (simp; omega)) (fun _ => noOwnR_map _ eS_noOwn _)) ?_
      refine rn rfl ?_
      have e : (s.drop a).take (s.length - a) = s.drop a := List.take_of_length_le (by simp)
      rw [← hfin, e]
      refine fin_is [2] rfl ⟨?_, rfl⟩
      rw [show (out ++ [s.drop a]).length = out.length + 1 by simp]

def foldS (t : Str) : Sig := ((cut2 [] t).foldl stepP ([], 1)).1

def isS (t : Str) : Bool := okSig (foldS t) && (SgT (foldS t) == t)

def ParS (t : Str) : Sig × Bool := if t = [] then ([], true) else if isS t = true then (foldS t, true) else ([], false)

theorem SgT_nil : SgT [] = [] := rfl

theorem isS_of {s : Sig} {t : Str} (hS : OkS s) (h : SgT s = t) (h0 : t ≠ []) : isS t = true ∧ foldS t = s ∧ cut2 [] t = pts s s.length := by
  have hne : s ≠ [] := fun h1 => by subst h1; exact h0 (h.symm.trans SgT_nil)
  have hc := cut_SgT hS hne
  rw [h] at hc
  have hf : foldS t = s := by unfold foldS; rw [hc]; exact fold_all hS
  refine ⟨?_, hf, hc⟩
  unfold isS
  rw [hf, h, okSig_iff.2 hS]
  simp

theorem isS_is {t : Str} (h : isS t = true) : OkS (foldS t) ∧ SgT (foldS t) = t := by
  unfold isS at h
  simp only [Bool.and_eq_true, beq_iff_eq] at h
  exact ⟨okSig_iff.1 h.1, h.2⟩

theorem ParS_ok {t : Str} (h : (ParS t).2 = true) : okSig (ParS t).1 = true ∧ SgF (ParS t).1 = t := by
  unfold ParS at h ⊢
  by_cases h0 : t = []
  · rw [if_pos h0]; exact ⟨rfl, h0.symm⟩
  · rw [if_neg h0] at h ⊢
    by_cases h1 : isS t = true
    · rw [if_pos h1]
      obtain ⟨a1, a2⟩ := isS_is h1
      refine ⟨okSig_iff.2 a1, ?_⟩
      unfold SgF
      rw [if_pos (okSig_iff.2 a1)]; exact a2
    · rw [if_neg h1] at h; cases h

theorem pts_mem {s : Sig} : ∀ i, i ≤ s.length → ∀ t ∈ pts s i, t = [47] ∨ t = [42] ∨ ∃ p ∈ s, t = prmT p := by
  intro i
  induction i with
  | zero => intro _ t ht; simp [pts] at ht
  | succ i ih =>
    intro hi t ht
    obtain ⟨p, hp⟩ := at_some (xs := s) (i := i) (by omega)
    rw [pts_succ hp, ptAt] at ht
    simp only [List.mem_append, List.mem_singleton] at ht
    rcases ht with ht | (ht | ht) | ht
    · exact ih (by omega) t ht
    · unfold starS at ht
      split at ht
      · simp only [List.mem_singleton] at ht; exact .inr (.inl ht)
      · cases ht
    · exact .inr (.inr ⟨p, List.mem_of_getElem? hp, ht⟩)
    · unfold slashS at ht
      split at ht
      · simp only [List.mem_singleton] at ht; exact .inl ht
      · cases ht

theorem prmT_rest {p : Param} (hk : p.kind = 2) : prmT p = 42 :: p.name := by unfold prmT; rw [if_pos hk]; rfl

theorem prmT_map {p : Param} (hk : p.kind = 4) : prmT p = 42 :: 42 :: p.name := by unfold prmT; rw [if_neg (by omega), if_pos hk]; rfl

theorem prmT_single {p : Param} (h : okQ p = true) (hs : singleQ p = true) : ∃ c r, prmT p = c :: r ∧ letter c = true := by
  obtain ⟨k1, _⟩ := okQ_parts h
  obtain ⟨c, r, hn, hc⟩ := name_head k1
  have hk := single_kind.1 hs
  unfold prmT
  rw [if_neg (by omega), if_neg (by omega), hn]
  split
  · exact ⟨c, _, rfl, hc⟩
  · exact ⟨c, _, rfl, hc⟩

theorem letter_ne {c d : UInt8} (h : letter c = true) (hd : letter d = false) : ¬ c = d := fun h0 => by rw [h0, hd] at h; cases h

theorem kind_forms {p : Param} (h : okQ p = true) : singleQ p = true ∨ p.kind = 2 ∨ p.kind = 4 := by
  obtain ⟨_, k0, k4, _⟩ := okQ_parts h
  by_cases h2 : p.kind = 2
  · exact .inr (.inl h2)
  · by_cases h4 : p.kind = 4
    · exact .inr (.inr h4)
    · exact .inl (single_kind.2 (by omega))

/-- What a part can be. -/
theorem part_forms {t : Str} (h : isS t = true) (h0 : t ≠ []) {x : Str} (hx : x ∈ cut2 [] t) : x = [47] ∨ x = [42] ∨ ∃ p, okQ p = true ∧ x = prmT p := by
  obtain ⟨a1, a2⟩ := isS_is h
  rw [(isS_of a1 a2 h0).2.2] at hx
  rcases pts_mem _ (Nat.le_refl _) x hx with h1 | h1 | ⟨p, hp, h1⟩
  · exact .inl h1
  · exact .inr (.inl h1)
  · exact .inr (.inr ⟨p, a1.params p hp, h1⟩)

theorem part_num {t : Str} (h : isS t = true) (h0 : t ≠ []) {x : Str} (hx : x ∈ cut2 [] t) (h1 : x ≠ [47]) (h2 : Lib.hasPrefix x [42] = false) (hc : (cutQ x).2.2 = true) : ∃ d : Int, -99 ≤ d ∧ d ≤ 99 ∧ (cutQ x).2.1 = Lib.itoa d := by
  rcases part_forms h h0 hx with rfl | rfl | ⟨p, hp, rfl⟩
  · exact absurd rfl h1
  · exact absurd h2 (by decide)
  · obtain ⟨k1, _, _, k2, k3, _⟩ := okQ_parts hp
    have h61 : (61 : UInt8) ∉ p.name := name_no k1 (by decide)
    rcases kind_forms hp with hs | hk | hk
    · have hk := single_kind.1 hs
      unfold prmT at hc ⊢
      rw [if_neg (by omega), if_neg (by omega)] at hc ⊢
      cases hd : p.hasD with
      | true => rw [if_pos rfl, cutQ_at h61]; exact ⟨p.dflt, k2, k3, rfl⟩
      | false => rw [hd, if_neg (by simp), cutQ_no h61] at hc; cases hc
    · rw [prmT_rest hk] at h2
      simp [Lib.hasPrefix, List.isPrefixOf] at h2
    · rw [prmT_map hk] at h2
      simp [Lib.hasPrefix, List.isPrefixOf] at h2

theorem part_map {t : Str} (h : isS t = true) (h0 : t ≠ []) {x : Str} (hx : x ∈ cut2 [] t) (h2 : Lib.hasPrefix x [42, 42] = true) : 2 < x.length := by
  rcases part_forms h h0 hx with rfl | rfl | ⟨p, hp, rfl⟩
  · exact absurd h2 (by decide)
  · exact absurd h2 (by decide)
  · obtain ⟨k1, _⟩ := okQ_parts hp
    obtain ⟨c, r, hn, hc⟩ := name_head k1
    rcases kind_forms hp with hs | hk | hk
    · obtain ⟨c, r, hr, hc⟩ := prmT_single hp hs
      have := letter_ne hc (d := 42) (by decide)
      rw [hr] at h2
      simp [Lib.hasPrefix, List.isPrefixOf, Ne.symm this] at h2
    · have := letter_ne hc (d := 42) (by decide)
      rw [prmT_rest hk, hn] at h2
      simp [Lib.hasPrefix, List.isPrefixOf, Ne.symm this] at h2
    · rw [prmT_map hk, hn]; simp

theorem pre_take {x : Str} : ∀ {p : Str}, Lib.hasPrefix x p = true → p.length ≤ x.length ∧ x.take p.length = p := fun {p} h => by
  unfold Lib.hasPrefix at h
  have := List.isPrefixOf_iff_prefix.1 h
  exact ⟨this.length_le, (List.prefix_iff_eq_take.1 this).symm⟩

theorem cutQ_len (x : Str) : (cutQ x).1.length ≤ x.length ∧ (cutQ x).2.1.length ≤ x.length := by
  unfold cutQ Lib.cut
  split
  · simp; omega
  · simp

theorem stepP_map {x : Str} (h1 : ¬ x = [47]) (h2 : ¬ x = [42]) (h3 : Lib.hasPrefix x [42, 42] = true) (ps : Sig) (k : Int) : stepP (ps, k) x = (ps ++ [⟨x.drop 2, 4, false, 0⟩], k) := by
  unfold stepP; rw [if_neg h1, if_neg h2, if_pos h3]

theorem stepP_rest {x : Str} (h1 : ¬ x = [47]) (h2 : ¬ x = [42]) (h3 : ¬ Lib.hasPrefix x [42, 42] = true) (h4 : Lib.hasPrefix x [42] = true) (ps : Sig) (k : Int) : stepP (ps, k) x = (ps ++ [⟨x.drop 1, 2, false, 0⟩], 3) := by
  unfold stepP; rw [if_neg h1, if_neg h2, if_neg h3, if_pos h4]

theorem stepP_else {x : Str} (h1 : ¬ x = [47]) (h2 : ¬ x = [42]) (h3 : ¬ Lib.hasPrefix x [42, 42] = true) (h4 : ¬ Lib.hasPrefix x [42] = true) (ps : Sig) (k : Int) : stepP (ps, k) x = (ps ++ [⟨(cutQ x).1, k, (cutQ x).2.2, if (cutQ x).2.2 = true then (RdS (cutQ x).2.1).1 else 0⟩], k) := by
  unfold stepP; rw [if_neg h1, if_neg h2, if_neg h3, if_neg h4]

theorem ParS_not {t : Str} (h0 : t ≠ []) (h : isS t ≠ true) : ParS t = ([], false) := by unfold ParS; rw [if_neg h0, if_neg h]

theorem ParS_yes {t : Str} (h0 : t ≠ []) (h : isS t = true) : ParS t = (foldS t, true) := by unfold ParS; rw [if_neg h0, if_pos h]

/-- What is valid and has the text is what the fold gives. -/
theorem isS_end {t : Str} {ps : Sig} (h0 : t ≠ []) (hS : okSig ps = true) (h : SgF ps = t) : isS t = true ∧ foldS t = ps := by
  unfold SgF at h
  rw [if_pos hS] at h
  obtain ⟨a, b, _⟩ := isS_of (okSig_iff.1 hS) h h0
  exact ⟨a, b⟩

/-- What the fold gives is valid and has the text. -/
theorem isS_fold {t : Str} {ps : Sig} (h : isS t = true) (hf : foldS t = ps) : okSig ps = true ∧ SgF ps = t := by
  obtain ⟨a, b⟩ := isS_is h
  rw [hf] at a b
  refine ⟨okSig_iff.2 a, ?_⟩
  unfold SgF
  rw [if_pos (okSig_iff.2 a)]; exact b

theorem slash_one {s : Sig} (hS : OkS s) : ∀ i, i ≤ s.length → ∀ j : Nat, (pts s i)[j]? = some [47] → ∀ q ∈ (((pts s i).take j).foldl stepP ([], 1)).1, q.kind = 1 := by
  intro i
  induction i with
  | zero => intro _ j hj; simp [pts] at hj
  | succ i ih =>
    intro hi j hj
    obtain ⟨p, hp⟩ := at_some (xs := s) (i := i) (by omega)
    have hq := hS.params p (List.mem_of_getElem? hp)
    rw [pts_succ hp] at hj ⊢
    by_cases hjl : j < (pts s i).length
    · rw [List.getElem?_append_left hjl] at hj
      rw [List.take_append_of_le_length (by omega)]
      exact ih (by omega) j hj
    · obtain ⟨k, rfl⟩ : ∃ k, j = (pts s i).length + k := ⟨j - (pts s i).length, by omega⟩
      rw [List.getElem?_append_right (by omega), Nat.add_sub_cancel_left] at hj
      rw [List.take_length_add_append, List.foldl_append, fold_pts hS i (by omega)]
      have hprm : prmT p ≠ [47] := by
        rcases kind_forms hq with hs | hk | hk
        · obtain ⟨c, r, hr, hc⟩ := prmT_single hq hs
          rw [hr]; intro h0
          exact letter_ne hc (d := 47) (by decide) (by simpa using (List.cons.inj h0).1)
        · rw [prmT_rest hk]; simp
        · rw [prmT_map hk]; simp
      by_cases hsl : slashAt s i p = true
      · have h0 : p.kind = 0 := by
          simp only [slashAt, Bool.and_eq_true, beq_iff_eq] at hsl
          exact hsl.1
        have hst : starS s i p = [] := by rw [starS, if_neg (by simp [starAt, h0])]
        unfold ptAt at hj ⊢
        rw [hst, slashS, if_pos hsl] at hj ⊢
        have hk1 : k = 1 := by
          match k with
          | 0 => simp at hj; exact absurd hj hprm
          | 1 => rfl
          | k + 2 => simp at hj
        subst hk1
        have e : List.take 1 ([] ++ [prmT p] ++ [[47]]) = [prmT p] := rfl
        rw [e, List.foldl_cons, List.foldl_nil, step_one hq (single_kind.2 (.inl h0))]
        intro q hq2
        have e1 : exS s i = (s.take i).map (setK 1) := by unfold exS; rw [hp]; simp [h0]
        simp only [e1, List.mem_append, List.mem_map, List.mem_singleton] at hq2
        rcases hq2 with ⟨q', _, rfl⟩ | rfl
        · rfl
        · simp [setK, kdS_low hS hp (by omega)]
      · exfalso
        unfold ptAt at hj
        rw [slashS, if_neg hsl, List.append_nil] at hj
        have hm := List.mem_of_getElem? hj
        simp only [List.mem_append, List.mem_singleton] at hm
        rcases hm with hm | hm
        · unfold starS at hm
          split at hm
          · simp at hm
          · cases hm
        · exact hprm hm.symm

/-- At a slash all parameters so far are of the kind of both. -/
theorem slash_kinds {t : Str} (h : isS t = true) (h0 : t ≠ []) {j : Nat} (hj : (cut2 [] t)[j]? = some [47]) : ∀ q ∈ (((cut2 [] t).take j).foldl stepP ([], 1)).1, q.kind = 1 := by
  obtain ⟨a1, a2⟩ := isS_is h
  have e := (isS_of a1 a2 h0).2.2
  rw [e] at hj ⊢
  exact slash_one a1 _ (Nat.le_refl _) j hj

theorem index_split {c : UInt8} {s : Str} {i : Nat} (hx : s[i]? = some c) (hno : c ∉ s.take i) : Lib.index s [c] = (i : Int) := by
  have e : s = s.take i ++ c :: s.drop (i + 1) := by rw [← drop_at hx, List.take_append_drop]
  have h := index_at (b := s.drop (i + 1)) hno
  rw [← e] at h
  rw [h, List.length_take]
  have := lt_of_some hx
  congr 1
  omega

theorem indexByte_ct (s : Str) (c : UInt8) (hl : s.length ≤ 1073741824) : ACalls pk 78 [.one (.str s), .one (.int .u8 c.toNat)] [] (fun r o => r = .one (.int .i64 (Lib.index s [c])) ∧ o = []) := by
  refine acalls_of_body Tryz.func78 rfl (by kernel_rfl) rfl ?_
  refine rn rfl ?_
  refine goal_loop_keep (fun m σ => ∃ (q : Int) (i : Nat), q = i ∧ i ≤ s.length ∧ m = s.length - i ∧ c ∉ s.take i ∧
      σ = ⟨[(5, .one (.int .i64 q)), (4, .one (.int .i64 0)), (1, .one (.int .u8 c.toNat)), (0, .one (.str s))], [], []⟩) s.length [5, 4, 1, 0] [] rfl
    ⟨_, 0, rfl, by omega, by omega, by simp, rfl⟩ ?_
  rintro m σ ⟨q, i, rfl, hi, rfl, hno, rfl⟩
  refine rn rfl ?_
  refine goal_cond rfl (fun h => ?_) (fun h => ?_) <;> (try simp only [gt_iff_lt, ge_iff_le, bne_iff_ne, ne_eq, bne_eq_false_iff_eq, beq_iff_eq, beq_eq_false_iff_ne, Bool.not_eq_true', Bool.not_eq_false', decide_eq_true_eq, decide_eq_false_iff_not, List.length_map] at h)
  · obtain ⟨x, hx⟩ := at_some (xs := s) (i := i) (by omega)
    refine rn rfl ?_
    refine goal_did rfl rfl (dA_strIndex x rfl rfl rfl rfl rfl rfl (by omega) (by simpa using hx)) ?_
    refine rn rfl ?_
    cases hc : ((x.toNat : Int) == (c.toNat : Int)) with
    | true =>
      have hxe : x = c := UInt8.toNat_inj.1 (by have := beq_iff_eq.1 hc; omega)
      subst hxe
      refine goal_cond rfl (fun _ => ?_) (fun h1 => by simp at h1)
      refine rn rfl ?_
      refine fin_is [] rfl ⟨?_, rfl⟩
      rw [index_split hx hno]
    | false =>
      have hxe : ¬ x = c := fun h1 => by rw [h1] at hc; simp at hc
      refine goal_cond rfl (fun h1 => by simp at h1) (fun _ => ?_)
      refine rn rfl ?_
      refine round_keep (s.length - (i + 1)) [5, 4, 1, 0] [] (by omega) rfl ⟨_, i + 1, wrap64 (by omega) (by omega), by omega, rfl, ?_, rfl⟩
      rw [← take_snoc hx]
      simp [hno, Ne.symm hxe]
  · rw [show i = s.length by omega, List.take_length] at hno
    refine rn rfl ?_
    refine round_ext ?_
    refine rn rfl ?_
    refine fin_is [] rfl ⟨?_, rfl⟩
    rw [index_no hno]

def prmS (x : Str) (k : Int) : Param × Bool :=
  if 2 < x.length ∧ x.take 2 = [42, 42] then (⟨x.drop 2, 4, false, 0⟩, true)
  else if 1 < x.length ∧ x[0]? = some 42 then (⟨x.drop 1, 2, false, 0⟩, true)
  else if (cutQ x).2.2 = true then (⟨(cutQ x).1, k, true, (RdS (cutQ x).2.1).1⟩, (RdS (cutQ x).2.1).2) else (⟨x, k, false, 0⟩, true)

theorem sparseParam_ct (x : Str) (k : Int) (hl : x.length ≤ 1048576) : ACalls pk 51 [.one (.str x), .one (.int .i64 k)] [] (fun r o => r = .tup [.agg (eQ (prmS x k).1), .one (.bool (prmS x k).2)] ∧ o = []) := by
  refine acalls_of_body Tryz.func51 rfl (by kernel_rfl) rfl ?_
  refine rt1 1 rfl ?_
  refine goal_cutR (fun σ => σ = ⟨[(10, .one (.bool (decide (2 < x.length ∧ x.take 2 = [42, 42])))), (5, .one (.bool false)), (4, .one (.op 0 0 0)), (1, .one (.int .i64 k)), (0, .one (.str x))], [some ⟨4, [[.str [], .int .i64 0, .bool false, .int .i64 0]], false, false, true⟩], []⟩) ?_ ?_
  · refine rn rfl ?_
    refine goal_guard rfl rfl rfl (fun h2 => ?_) (fun h2 => ?_) <;> (try simp only [gt_iff_lt, ge_iff_le, bne_iff_ne, ne_eq, bne_eq_false_iff_eq, beq_iff_eq, beq_eq_false_iff_ne, Bool.not_eq_true', Bool.not_eq_false', decide_eq_true_eq, decide_eq_false_iff_not, List.length_map] at h2)
    · refine rn rfl ?_
      refine goal_did rfl rfl (dA_strSlice 0 2 (x.take 2) rfl rfl rfl rfl Bnd.none_ (Bnd.some_ rfl rfl) (by omega) (by omega) rfl rfl) ?_
      refine rn rfl ?_
      have e : (decide (2 < x.length ∧ x.take 2 = [42, 42])) = (x.take 2 == [42, 42]) := by
        rw [Bool.eq_iff_iff, decide_eq_true_eq, beq_iff_eq]; exact ⟨fun h => h.2, fun h => ⟨by omega, h⟩⟩
      rw [e]
      exact cut_nrm [10, 5, 4, 1, 0] [0] rfl rfl
    · refine rn rfl ?_
      have e : (decide (2 < x.length ∧ x.take 2 = [42, 42])) = false := by
        rw [decide_eq_false_iff_not]; intro h; omega
      rw [e]
      exact cut_nrm [10, 5, 4, 1, 0] [0] rfl rfl
  rintro _ rfl
  by_cases hp2 : 2 < x.length ∧ x.take 2 = [42, 42]
  · have e : prmS x k = (⟨x.drop 2, 4, false, 0⟩, true) := by unfold prmS; rw [if_pos hp2]
    rw [decide_eq_true hp2, e]
    refine goal_cond rfl (fun _ => ?_) (fun h1 => by simp at h1)
    refine rn rfl ?_
    refine goal_did rfl rfl (dA_strSlice 2 x.length (x.drop 2) rfl rfl rfl rfl (Bnd.some_ rfl rfl) Bnd.none_ (by omega) (Nat.le_refl _) rfl (by rw [← List.length_drop, List.take_length])) ?_
    refine rn rfl ?_
    exact rn rfl (fin_is [] rfl ⟨rfl, rfl⟩)
  · rw [decide_eq_false hp2]
    refine goal_cond rfl (fun h1 => by simp at h1) (fun _ => ?_)
    refine rt1 3 rfl ?_
    refine goal_cutR (fun σ => σ = ⟨[(22, .one (.bool (decide (1 < x.length ∧ x[0]? = some 42)))), (5, .one (.bool false)), (4, .one (.op 0 0 0)), (1, .one (.int .i64 k)), (0, .one (.str x))], [some ⟨4, [[.str [], .int .i64 0, .bool false, .int .i64 0]], false, false, true⟩], []⟩) ?_ ?_
    · refine rn rfl ?_
      refine goal_guard rfl rfl rfl (fun h2 => ?_) (fun h2 => ?_) <;> (try simp only [gt_iff_lt, ge_iff_le, bne_iff_ne, ne_eq, bne_eq_false_iff_eq, beq_iff_eq, beq_eq_false_iff_ne, Bool.not_eq_true', Bool.not_eq_false', decide_eq_true_eq, decide_eq_false_iff_not, List.length_map] at h2)
      · obtain ⟨c, hc⟩ := at_some (xs := x) (i := 0) (by omega)
        refine rn rfl ?_
        refine goal_did rfl rfl (dA_strIndex c rfl rfl rfl rfl rfl rfl (by omega) (by simpa using hc)) ?_
        refine rn rfl ?_
        have e : (decide (1 < x.length ∧ x[0]? = some 42)) = ((c.toNat : Int) == 42) := by
          rw [Bool.eq_iff_iff, decide_eq_true_eq, beq_iff_eq, hc]
          constructor
          · intro h; have := Option.some.inj h.2; subst this; rfl
          · intro h; refine ⟨by omega, ?_⟩
            congr 1
            exact UInt8.toNat_inj.1 (by have h42 : (42 : UInt8).toNat = 42 := rfl; omega)
        rw [e]
        exact cut_nrm [22, 5, 4, 1, 0] [0] rfl rfl
      · refine rn rfl ?_
        have e : (decide (1 < x.length ∧ x[0]? = some 42)) = false := by
          rw [decide_eq_false_iff_not]; intro h; omega
        rw [e]
        exact cut_nrm [22, 5, 4, 1, 0] [0] rfl rfl
    rintro _ rfl
    by_cases hp1 : 1 < x.length ∧ x[0]? = some 42
    · have e : prmS x k = (⟨x.drop 1, 2, false, 0⟩, true) := by unfold prmS; rw [if_neg hp2, if_pos hp1]
      rw [decide_eq_true hp1, e]
      refine goal_cond rfl (fun _ => ?_) (fun h1 => by simp at h1)
      refine rn rfl ?_
      refine goal_did rfl rfl (dA_strSlice 1 x.length (x.drop 1) rfl rfl rfl rfl (Bnd.some_ rfl rfl) Bnd.none_ (by omega) (Nat.le_refl _) rfl (by rw [← List.length_drop, List.take_length])) ?_
      refine rn rfl ?_
      exact rn rfl (fin_is [] rfl ⟨rfl, rfl⟩)
    · rw [decide_eq_false hp1]
      refine goal_cond rfl (fun h1 => by simp at h1) (fun _ => ?_)
      refine rn rfl ?_
      have hb := indexByte_ct x 61 (by omega)
      by_cases hm : (61 : UInt8) ∈ x
      · obtain ⟨a, b, hx, hno⟩ := List.eq_append_cons_of_mem hm
        have hi : Lib.index x [61] = (a.length : Int) := by rw [hx]; exact index_at hno
        have hc : cutQ x = (a, b, true) := by
          rw [hx, show a ++ 61 :: b = a ++ [61] ++ b by simp]; exact cutQ_at hno
        have hla : a.length + 1 ≤ x.length := by rw [hx]; simp
        have hdr : x.drop (a.length + 1) = b := by rw [hx]; simp
        have htk : x.take a.length = a := by rw [hx]; simp
        have hbl : b.length ≤ x.length := by rw [← hdr]; simp
        have e : prmS x k = (⟨a, k, true, (RdS b).1⟩, (RdS b).2) := by unfold prmS; rw [if_neg hp2, if_neg hp1, hc]; rfl
        rw [e]
        rw [hi] at hb
        refine goal_step (step_call [] rfl rfl rfl rfl rfl rfl (hb)) ?_
        rintro σ2 ⟨r, o', ⟨rfl, rfl⟩, hσ⟩
        obtain rfl := Option.some.inj hσ
        clear hσ
        refine rn rfl ?_
        refine goal_cond rfl (fun h1 => by simp at h1; omega) (fun _ => ?_)
        refine rn rfl ?_
        have hw : IntKind.i64.wrap ((a.length : Int) + 1) = ((a.length + 1 : Nat) : Int) := by rw [wrap64] <;> omega
        refine goal_did rfl rfl (dA_strSlice (a.length + 1) x.length b rfl rfl rfl rfl (Bnd.some_ rfl hw) Bnd.none_ (by omega) (Nat.le_refl _) rfl (by rw [hdr, List.take_of_length_le]; rw [← hdr]; simp)) ?_
        refine rn rfl ?_
        refine goal_step (step_call [] rfl rfl rfl rfl rfl rfl (srd_ct b (by omega))) ?_
        rintro σ2 ⟨r, o', ⟨rfl, rfl⟩, hσ⟩
        obtain rfl := Option.some.inj hσ
        clear hσ
        refine rn rfl ?_
        refine goal_did rfl rfl (dA_strSlice 0 a.length a rfl rfl rfl rfl Bnd.none_ (Bnd.some_ rfl rfl) (by omega) (by omega) rfl (by simp [htk])) ?_
        refine rn rfl ?_
        exact rn rfl (fin_is [] rfl ⟨rfl, rfl⟩)
      · have hi : Lib.index x [61] = -1 := index_no hm
        have e : prmS x k = (⟨x, k, false, 0⟩, true) := by unfold prmS; rw [if_neg hp2, if_neg hp1, cutQ_no hm]; rfl
        rw [e]
        rw [hi] at hb
        refine goal_step (step_call [] rfl rfl rfl rfl rfl rfl (hb)) ?_
        rintro σ2 ⟨r, o', ⟨rfl, rfl⟩, hσ⟩
        obtain rfl := Option.some.inj hσ
        clear hσ
        refine rn rfl ?_
        refine goal_cond rfl (fun _ => ?_) (fun h1 => by simp at h1)
        refine rn rfl ?_
        exact rn rfl (fin_is [] rfl ⟨rfl, rfl⟩)

section
open Go Go.RowKit
theorem below_drew {w : World} (k : Nat) : Below w.heap.size w (w.drewN k) := ⟨rfl, rfl, rfl, by simp [World.drewN], fun i hi => by simp only [World.drewN]⟩

theorem cut_ct (s sep : Str) (hs : s.length ≤ 1073741824) : ACalls pk 23 [.one (.str s), .one (.str sep)] [] (fun r o => r = .tup [.one (.str (Lib.cut s sep).1), .one (.str (Lib.cut s sep).2.1), .one (.bool (Lib.cut s sep).2.2)] ∧ o = []) := by
  refine acalls_plain ⟨_, Tryz.func23, rfl, by kernel_rfl⟩ fun D w vals hG hT => ?_
  simp only [TRs, TR, CR] at hT
  obtain ⟨x, r, rfl, rfl, y, r', rfl, rfl, rfl⟩ := hT
  obtain ⟨m, hm⟩ := glob_int hG
  refine (Go.Proofs.Any.strings_Cut lays_n145 ⟨s.toArray⟩ ⟨sep.toArray⟩ m w (by simp [ByteArray.size]; omega) hm).mono ?_
  rintro en w' ⟨rfl, k, rfl⟩
  refine ⟨_, _, rfl, below_drew k, rfl, ?_⟩
  simp only [TR, TRs, CR]
  exact ⟨_, rfl, _, _, rfl, rfl, _, _, rfl, rfl, _, _, rfl, rfl, rfl⟩

theorem hasPrefix_ct (s p : Str) : ACalls pk 26 [.one (.str s), .one (.str p)] [] (fun r o => r = .one (.bool (Lib.hasPrefix s p)) ∧ o = []) := by
  refine acalls_plain ⟨_, Tryz.func26, rfl, by kernel_rfl⟩ fun D w vals hG hT => ?_
  simp only [TRs, TR, CR] at hT
  obtain ⟨x, r, rfl, rfl, y, r', rfl, rfl, rfl⟩ := hT
  refine (Go.Proofs.Any.strings_HasPrefix lays_n99 ⟨s.toArray⟩ ⟨p.toArray⟩ w).mono ?_
  rintro en w' ⟨rfl, rfl⟩
  exact ⟨_, _, rfl, Below.refl _ _, rfl, by simp only [TR, CR]⟩
end

structure Slot where
  given : Bool
  list : List Int
  pairs : List Pair
deriving DecidableEq

abbrev Bnds := List Slot

variable {N np : Nat} {σ : State}

theorem single_four {p : Param} (h : p.kind = 4) : singleQ p = false := by
  cases hz : singleQ p with
  | false => rfl
  | true => rw [single_kind] at hz; omega

/-- What the map has got. -/
def MapHas (s : Sig) (b : Bnds) (ps : List Pair) : Prop := ∀ (i : Nat) (p : Param) (x : Slot), s[i]? = some p → b[i]? = some x → p.kind = 4 → x.pairs = ps

theorem MapHas.set {s : Sig} {b : Bnds} {ps : List Pair} (h : MapHas s b ps) {i : Nat} {p : Param} {y : Slot} (hp : s[i]? = some p) (hk : p.kind ≠ 4) : MapHas s (b.set i y) ps := by
  intro j q x hq hx hqk
  rw [List.getElem?_set] at hx
  by_cases hij : i = j
  · subst hij; rw [hp] at hq; cases hq; exact absurd hqk hk
  · rw [if_neg hij] at hx; exact h j q x hq hx hqk

theorem MapHas.put {s : Sig} (hs : OkS s) {b : Bnds} {ps : List Pair} {i : Nat} {p : Param} {y : Slot} (hp : s[i]? = some p) (hk : p.kind = 4) (hy : y.pairs = ps) : MapHas s (b.set i y) ps := by
  intro j q x hq hx hqk
  have hij : i = j := hs.one hp hq (by omega) (single_four hqk)
  subst hij
  rw [List.getElem?_set] at hx
  split at hx
  · split at hx
    · cases hx; exact hy
    · cases hx
  · rename_i h0; exact absurd rfl h0

structure LenF (f : Flat) : Prop where
  places : f.places.length ≤ 1048576
  named : f.named.length ≤ 1048576
  names : ∀ p ∈ f.named, p.name.length ≤ 9223372036854775807

theorem OkF.len {f : Flat} (h : OkF f) : LenF f := ⟨by have := h.places; omega, by have := h.named; omega, fun p hp => by
  have := h.pairs p hp
  simp only [okPair, okName, inR, Bool.and_eq_true, decide_eq_true_eq] at this
  omega⟩

def overN (ps qs : List Pair) : List Pair := qs.foldl (fun ps p => putP ps p.name p.value) ps

def overQ (f g : Flat) : Flat := ⟨f.places ++ g.places, overN f.named g.named⟩

theorem overN_len : ∀ (qs ps : List Pair), (overN ps qs).length ≤ ps.length + qs.length
  | [], ps => by simp [overN]
  | q :: qs, ps => by
    have h1 := overN_len qs (putP ps q.name q.value)
    have h2 := putP_length ps q.name q.value
    simp only [overN, List.foldl_cons, List.length_cons] at h1 ⊢
    omega

theorem overN_mem : ∀ {qs ps : List Pair} {p : Pair}, p ∈ overN ps qs → (∃ q ∈ ps, p.name = q.name) ∨ ∃ q ∈ qs, p.name = q.name
  | [], ps, p, h => .inl ⟨p, h, rfl⟩
  | q :: qs, ps, p, h => by
    rcases overN_mem (qs := qs) (ps := putP ps q.name q.value) h with ⟨r, hr, hn⟩ | ⟨r, hr, hn⟩
    · rcases putP_mem hr with h1 | ⟨r', hr', h1⟩
      · exact .inr ⟨q, by simp, by rw [hn, h1]⟩
      · exact .inl ⟨r', hr', by rw [hn, h1]⟩
    · exact .inr ⟨r, by simp [hr], hn⟩

theorem LenF.over {f g : Flat} (hf : LenF f) (hg : LenF g) : (overQ f g).places.length ≤ 16777216 ∧ (overQ f g).named.length ≤ 16777216 ∧ ∀ p ∈ (overQ f g).named, p.name.length ≤ 9223372036854775807 := by
  refine ⟨by have := hf.places; have := hg.places; simp [overQ]; omega, by have h := overN_len g.named f.named; have := hf.named; have := hg.named; simp only [overQ]; omega, fun p hp => ?_⟩
  rcases overN_mem hp with ⟨q, hq, hn⟩ | ⟨q, hq, hn⟩
  · rw [hn]; exact hf.names q hq
  · rw [hn]; exact hg.names q hq

/-- All of the memory, zs data. -/
def allD (w : World) (b : Nat) : Prop := b < w.heap.size

/-- A value of type 't' that can be read is some 'a', its cells told by 'enc'. -/
def Opens (P : Program) (t : TypeId) {α : Type} (enc : α → List C) (ok : α → Prop) : Prop :=
  ∀ (H : Type) (en : TypeId × Value → H) (w : World) (fuel : Nat) (cs : List Value) (x : DataW H × List MemPlace), DataW.trod en P w 0 (fun _ => true) true fuel t cs = some x →
    ∃ a : α, ok a ∧ CRp (allD w) w.heap [] (enc a) cs ∧ cs.length = (enc a).length

section
open Go Go.ChangeShapes Go.WideShapes Go.ChangeAt Go.RowKit
section

variable {X : Pk} {t : Nat} {ti te : TI}

end

theorem Opens.map {P : Program} {t : TypeId} {α β : Type} {enc : α → List C} {ok : α → Prop} {enc' : β → List C} {ok' : β → Prop} (h : Opens P t enc ok) (g : α → β) (he : ∀ a, enc' (g a) = enc a) (ho : ∀ a, ok a → ok' (g a)) : Opens P t enc' ok' := by
  intro H en w fuel cs x hx
  obtain ⟨a, h1, h2, h3⟩ := h H en w fuel cs x hx
  exact ⟨g a, ho a h1, by rw [he]; exact h2, by rw [he]; exact h3⟩

/-- A law's contract, zs a call from any memory. -/
theorem law_calls {X : Pk} {f : FuncId} {args : List T} {vals : Array Value} {w : World} (h : ACalls X f args [] (fun r o => r = .one (.bool true) ∧ o = [])) (hgl : GlobOk w []) (ha : TRs (allD w) w.heap [] args vals.toList) :
    Calls X.P f vals w fun e w' => e = .returned (.bool true) ∧ Below w.heap.size w w' := by
  have hsr : SR (allD w) w.heap [] [] := ⟨rfl, by simp, by simp, by simp, fun b hb => hb⟩
  refine (h.2 (allD w) [] w vals.toList hgl hsr ha (by simp)).mono ?_
  rintro en w' ⟨v, r, o', D', e', rfl, ⟨rfl, rfl⟩, htr, _, hext, _⟩
  simp only [TR, CR] at htr
  subst htr
  refine ⟨rfl, hext.os, hext.tape, hext.output, hext.size, fun k hk => hext.block k hk ?_⟩
  rintro ⟨id, a, esz, cap, n, he, _⟩
  simp at he
end

def rG (s : Sig) : T := .agg [.os 0 0 s.length s.length]

def oG (s : Sig) : List (Option AObj) := [ownQ s]

theorem asG (s : Sig) : T.agg [C.fs (List.take s.length (List.drop 0 (s.map eQ)))] = T.agg (eG s) := by
  rw [takeAll eQ _ _ rfl]; rfl

theorem map_step {α : Type} {f : α → α} {xs : List α} {j : Nat} {y : α} (h : xs[j]? = some y) : ((xs.take j).map f ++ xs.drop j)[j]? = some y ∧ ((xs.take j).map f ++ xs.drop j).set j (f y) = (xs.take (j + 1)).map f ++ xs.drop (j + 1) := by
  have hl : ((xs.take j).map f).length = j := by have := lt_of_some h; simp; omega
  rw [drop_at h, ← take_snoc h]
  constructor
  · rw [List.getElem?_append_right (by omega), hl, Nat.sub_self]; rfl
  · rw [List.set_append_right _ _ (by omega), hl, Nat.sub_self]; simp

theorem iParseSig_ct (t : Str) (hl : t.length ≤ 1048576) : ACalls pk 11 [.one (.str t)] [] (fun r o => r = .tup [rG (ParS t).1, .one (.bool (ParS t).2)] ∧ o = oG (ParS t).1) := by
  refine acalls_of_body Tryz.func11 rfl (by kernel_rfl) rfl ?_
  refine rn rfl ?_
  cases h0 : (t == []) with
  | true =>
    have ht : t = [] := by simpa using h0
    have e : ParS t = ([], true) := by unfold ParS; rw [if_pos ht]
    rw [e]
    refine goal_cond rfl (fun _ => ?_) (fun h => by simp at h)
    refine rn rfl ?_
    refine fin_weak (Weak.adoptO 0 0 4) (fin_is [1] rfl ⟨rfl, rfl⟩)
  | false =>
    have ht : ¬ t = [] := by simpa using h0
    refine goal_cond rfl (fun h => by cases h) (fun _ => ?_)
    refine rn rfl ?_
    refine goal_step (step_call [] rfl rfl rfl rfl rfl rfl (split_ct t [44, 32] (by omega) (by simp))) ?_
    rintro σ2 ⟨r, o', ⟨rfl, rfl⟩, hσ⟩
    obtain rfl := Option.some.inj hσ
    clear hσ
    refine rn rfl ?_
    refine goal_weakCod (Weak.adoptO 1 0 4) ?_
    have hparts : Lib.split t [44, 32] = cut2 [] t := split_cut2 _ t (Nat.le_refl _)
    obtain ⟨hpl, hpt⟩ := cut2_len _ t [] (Nat.le_refl _)
    have hV : isS t = true → ∀ x ∈ cut2 [] t, x ∈ pts (foldS t) (foldS t).length := fun h x hx => by
      obtain ⟨a1, a2⟩ := isS_is h
      rw [← (isS_of a1 a2 ht).2.2]; exact hx
    rw [hparts]
    have hfold : foldS t = ((cut2 [] t).foldl stepP ([], 1)).1 := rfl
    generalize hA : cut2 [] t = A at *
    refine goal_loop_keep (fun m σ => ∃ (n L k : Int) (i l : Nat) (ps : Sig), n = i ∧ L = A.length ∧ i ≤ A.length ∧ m = A.length - i ∧ l = ps.length ∧ ps.length ≤ i ∧ (∀ p ∈ ps, p.name.length ≤ t.length) ∧ (isS t = true → (ps, k) = (A.take i).foldl stepP ([], 1)) ∧
        σ = ⟨[(21, .one (.int .i64 n)), (20, .one (.int .i64 L)), (19, .one (.fs (A.map eS))), (5, .one (.int .i64 k)), (4, .one (.op 1 0 0)), (3, .one (.bool false)), (2, .one (.op 0 0 0)), (0, .one (.str t))],
          [some ⟨1, [[.fs []]], false, false, true⟩, some ⟨1, [[.os 2 0 l l]], false, false, true⟩, ownQ ps], []⟩) A.length [21, 20, 19, 5, 4, 3, 2, 0] [0, 1, 2] rfl
      ⟨_, _, _, 0, 0, [], rfl, by simp, by omega, by omega, rfl, by simp, by simp, fun _ => rfl, rfl⟩ ?_
    rintro m σ ⟨n, L, k, i, l, ps, rfl, rfl, hi, rfl, rfl, hpsl, hpn, hv, rfl⟩
    refine rn rfl ?_
    refine goal_cond rfl (fun h => ?_) (fun h => ?_) <;> (try simp only [gt_iff_lt, ge_iff_le, bne_iff_ne, ne_eq, bne_eq_false_iff_eq, beq_iff_eq, beq_eq_false_iff_ne, Bool.not_eq_true', Bool.not_eq_false', decide_eq_true_eq, decide_eq_false_iff_not, List.length_map] at h)
    · obtain ⟨x, hx⟩ := at_some (xs := A) (i := i) (by omega)
      have hxm := List.mem_of_getElem? hx
      have hxl : x.length ≤ t.length := by have := hpt x hxm; simpa using this
      have hst : isS t = true → (A.take (i + 1)).foldl stepP ([], 1) = stepP (ps, k) x := fun h => by
        rw [← take_snoc hx, List.foldl_append, ← hv h]; rfl
      refine rn rfl ?_
      refine goal_did rfl rfl (dA_index (eS x) rfl rfl rfl rfl rfl rfl rfl (by omega) (by (try simp); omega) (map_at (by simpa using hx)) rfl) ?_
      refine rn rfl ?_
      cases h47 : (x == [47]) with
      | true =>
        have hx47 : x = [47] := by simpa using h47
        refine goal_cond rfl (fun _ => ?_) (fun h1 => by simp at h1)
        refine rn rfl ?_
        refine goal_loop_keep (fun m σ => ∃ (n L : Int) (j l : Nat) (qs : Sig), n = j ∧ L = ps.length ∧ j ≤ ps.length ∧ m = ps.length - j ∧ l = ps.length ∧ qs = (ps.take j).map (setK 0) ++ ps.drop j ∧
            σ = ⟨[(58, .one (.int .i64 n)), (57, .one (.int .i64 L)), (21, .one (.int .i64 i)), (20, .one (.int .i64 A.length)), (19, .one (.fs (A.map eS))), (5, .one (.int .i64 k)), (4, .one (.op 1 0 0)), (3, .one (.bool false)), (2, .one (.op 0 0 0)), (0, .one (.str t))],
              [some ⟨1, [[.fs []]], false, false, true⟩, some ⟨1, [[.os 2 0 l l]], false, false, true⟩, ownQ qs], []⟩) ps.length [58, 57, 21, 20, 19, 5, 4, 3, 2, 0] [0, 1, 2] rfl
          ⟨_, _, 0, _, ps, rfl, rfl, by omega, by omega, rfl, by simp, rfl⟩ ?_
        rintro m σ ⟨n, L, j, l, qs, rfl, rfl, hj, rfl, rfl, hqs, rfl⟩
        have hql : qs.length = ps.length := by rw [hqs]; simp; omega
        refine rn rfl ?_
        refine goal_cond rfl (fun hjl => ?_) (fun hjl => ?_) <;> (try simp only [gt_iff_lt, ge_iff_le, bne_iff_ne, ne_eq, bne_eq_false_iff_eq, beq_iff_eq, beq_eq_false_iff_ne, Bool.not_eq_true', Bool.not_eq_false', decide_eq_true_eq, decide_eq_false_iff_not, List.length_map] at hjl)
        · obtain ⟨y, hy⟩ := at_some (xs := ps) (i := j) (by omega)
          obtain ⟨hy1, hy2⟩ := map_step (f := setK 0) hy
          rw [← hqs] at hy1 hy2
          refine rn rfl ?_
          refine goal_did rfl rfl (dA_indexOwn rfl rfl rfl rfl rfl rfl rfl rfl rfl (by omega) (by (try simp); omega)) ?_
          refine goal_did rfl rfl (dA_step rfl) ?_
          refine goal_did rfl rfl (dA_storeEl (eQ y) ((qs.set j (setK 0 y)).map eQ) true rfl rfl rfl rfl rfl (map_at (by simpa using hy1)) rfl rfl (by simp [eQ]) (by rw [map_set]; simp [patch, eQ, setK, constC]) (fun _ => noOwnR_map _ eQ_noOwn _)) ?_
          refine rn rfl ?_
          refine round_keep (ps.length - (j + 1)) [58, 57, 21, 20, 19, 5, 4, 3, 2, 0] [0, 1, 2] (by omega) rfl ⟨_, _, j + 1, _, qs.set j (setK 0 y), wrap64 (by omega) (by omega), rfl, by omega, rfl, rfl, hy2, rfl⟩
        · rw [show j = ps.length by omega, List.take_length, List.drop_length, List.append_nil] at hqs
          refine rn rfl ?_
          refine round_ext ?_
          refine rn rfl ?_
          refine round_keep (A.length - (i + 1)) [21, 20, 19, 5, 4, 3, 2, 0] [0, 1, 2] (by omega) rfl ⟨_, _, k, i + 1, _, qs, wrap64 (by omega) (by omega), rfl, by omega, rfl, hql.symm, by omega, ?_, fun h => ?_, rfl⟩
          · intro p hp
            rw [hqs] at hp
            obtain ⟨p', hp', rfl⟩ := List.mem_map.1 hp
            exact hpn p' hp'
          · rw [hst h, stepP, if_pos hx47, hqs]
      | false =>
        have hx47 : ¬ x = [47] := by simpa using h47
        refine goal_cond rfl (fun h1 => by simp at h1) (fun _ => ?_)
        refine rn rfl ?_
        cases h42 : (x == [42]) with
        | true =>
          have hx42 : x = [42] := by simpa using h42
          refine goal_cond rfl (fun _ => ?_) (fun h1 => by simp at h1)
          refine rn rfl ?_
          refine round_keep (A.length - (i + 1)) [21, 20, 19, 5, 4, 3, 2, 0] [0, 1, 2] (by omega) rfl ⟨_, _, 3, i + 1, _, ps, wrap64 (by omega) (by omega), rfl, by omega, rfl, rfl, by omega, hpn, fun h => ?_, rfl⟩
          rw [hst h, stepP, if_neg hx47, if_pos hx42]
        | false =>
          have hx42 : ¬ x = [42] := by simpa using h42
          refine goal_cond rfl (fun h1 => by simp at h1) (fun _ => ?_)
          refine rn rfl ?_
          refine goal_step (step_call [] rfl rfl rfl rfl rfl rfl (hasPrefix_ct x [42, 42])) ?_
          rintro σ2 ⟨r, o', ⟨rfl, rfl⟩, hσ⟩
          obtain rfl := Option.some.inj hσ
          clear hσ
          refine rn rfl ?_
          refine goal_cond rfl (fun p2 => ?_) (fun p2 => ?_) <;> (try simp only [gt_iff_lt, ge_iff_le, bne_iff_ne, ne_eq, bne_eq_false_iff_eq, beq_iff_eq, beq_eq_false_iff_ne, Bool.not_eq_true', Bool.not_eq_false', decide_eq_true_eq, decide_eq_false_iff_not, List.length_map] at p2)
          · have hx2 : 2 ≤ x.length := (pre_take p2).1
            refine rn rfl ?_
            refine goal_drawL [1] [8] 9 rfl ?_
            refine drnL [0, 1, 2] (by kernel_rfl) (by kernel_rfl) rfl rfl ?_
            refine AHL_did 3 rfl (by kernel_rfl) (by kernel_rfl) (by kernel_rfl) (by kernel_rfl) rfl rfl (dA_strSlice 2 x.length (x.drop 2) rfl rfl rfl rfl (Bnd.some_ rfl rfl) Bnd.none_ hx2 (Nat.le_refl _) rfl (by rw [← List.length_drop, List.take_length])) ?_
            refine drnL [4] (by kernel_rfl) (by kernel_rfl) rfl rfl ?_
            refine AHL_oneDid 5 rfl (by kernel_rfl) rfl rfl (dA_step rfl) (mdOk rfl) ?_
            refine AHL_oneDid 6 rfl (by kernel_rfl) rfl rfl (dA_append (old := (ps).map eQ) (rows := ([⟨x.drop 2, 4, false, 0⟩] : List Param).map eQ) (((ps) ++ ([⟨x.drop 2, 4, false, 0⟩] : List Param)).map eQ) (ps.length + 1) true (Dst.own rfl rfl rfl rfl rfl (by first | (simp; done) | (simp; omega)) (whole (by first | (simp; done) | (simp; omega)))) (Src.os rfl rfl (Nat.le_refl 1) rfl) rfl rfl rfl rfl rfl rfl rfl rfl (rows_len eQ_len _) (rows_len eQ_len _) (by (try simp only [List.length_map, List.length_append, List.length_cons, List.length_nil, List.length_take, List.length_drop]); show _ * 40 ≤ _; omega) (by first | (simp; done) | (simp; omega)) (by simp) (by first | (simp; done) | (simp; omega)) (fun _ => noOwnR_map _ eQ_noOwn _)) (mdOk rfl) ?_
            refine drnL [7] (by kernel_rfl) (by kernel_rfl) rfl rfl ?_
            refine AHL_lateDid 8 rfl (by kernel_rfl) rfl rfl (dA_step rfl) ?_
            refine AH_end (by kernel_rfl) ?_
            refine rn rfl ?_
            refine round_keep (A.length - (i + 1)) [21, 20, 19, 5, 4, 3, 2, 0] [0, 1, 4] (by omega) rfl ⟨_, _, k, i + 1, _, ps ++ [⟨x.drop 2, 4, false, 0⟩], wrap64 (by omega) (by omega), rfl, by omega, rfl, by simp, by simp; omega, ?_, fun h => ?_, rfl⟩
            · intro p hp; simp at hp; rcases hp with hp | rfl
              · exact hpn p hp
              · simp; omega
            · rw [hst h, stepP_map hx47 hx42 p2]
          · refine rn rfl ?_
            refine goal_step (step_call [] rfl rfl rfl rfl rfl rfl (hasPrefix_ct x [42])) ?_
            rintro σ2 ⟨r, o', ⟨rfl, rfl⟩, hσ⟩
            obtain rfl := Option.some.inj hσ
            clear hσ
            refine rn rfl ?_
            refine goal_cond rfl (fun p1 => ?_) (fun p1 => ?_) <;> (try simp only [gt_iff_lt, ge_iff_le, bne_iff_ne, ne_eq, bne_eq_false_iff_eq, beq_iff_eq, beq_eq_false_iff_ne, Bool.not_eq_true', Bool.not_eq_false', decide_eq_true_eq, decide_eq_false_iff_not, List.length_map] at p1)
            · have hx2 : 1 ≤ x.length := (pre_take p1).1
              refine rn rfl ?_
              refine goal_drawL [1] [8] 9 rfl ?_
              refine drnL [0, 1, 2] (by kernel_rfl) (by kernel_rfl) rfl rfl ?_
              refine AHL_did 3 rfl (by kernel_rfl) (by kernel_rfl) (by kernel_rfl) (by kernel_rfl) rfl rfl (dA_strSlice 1 x.length (x.drop 1) rfl rfl rfl rfl (Bnd.some_ rfl rfl) Bnd.none_ hx2 (Nat.le_refl _) rfl (by rw [← List.length_drop, List.take_length])) ?_
              refine drnL [4] (by kernel_rfl) (by kernel_rfl) rfl rfl ?_
              refine AHL_oneDid 5 rfl (by kernel_rfl) rfl rfl (dA_step rfl) (mdOk rfl) ?_
              refine AHL_oneDid 6 rfl (by kernel_rfl) rfl rfl (dA_append (old := (ps).map eQ) (rows := ([⟨x.drop 1, 2, false, 0⟩] : List Param).map eQ) (((ps) ++ ([⟨x.drop 1, 2, false, 0⟩] : List Param)).map eQ) (ps.length + 1) true (Dst.own rfl rfl rfl rfl rfl (by first | (simp; done) | (simp; omega)) (whole (by first | (simp; done) | (simp; omega)))) (Src.os rfl rfl (Nat.le_refl 1) rfl) rfl rfl rfl rfl rfl rfl rfl rfl (rows_len eQ_len _) (rows_len eQ_len _) (by (try simp only [List.length_map, List.length_append, List.length_cons, List.length_nil, List.length_take, List.length_drop]); show _ * 40 ≤ _; omega) (by first | (simp; done) | (simp; omega)) (by simp) (by first | (simp; done) | (simp; omega)) (fun _ => noOwnR_map _ eQ_noOwn _)) (mdOk rfl) ?_
              refine drnL [7] (by kernel_rfl) (by kernel_rfl) rfl rfl ?_
              refine AHL_lateDid 8 rfl (by kernel_rfl) rfl rfl (dA_step rfl) ?_
              refine AH_end (by kernel_rfl) ?_
              refine rn rfl ?_
              refine round_keep (A.length - (i + 1)) [21, 20, 19, 5, 4, 3, 2, 0] [0, 1, 4] (by omega) rfl ⟨_, _, 3, i + 1, _, ps ++ [⟨x.drop 1, 2, false, 0⟩], wrap64 (by omega) (by omega), rfl, by omega, rfl, by simp, by simp; omega, ?_, fun h => ?_, rfl⟩
              · intro p hp; simp at hp; rcases hp with hp | rfl
                · exact hpn p hp
                · simp; omega
              · rw [hst h, stepP_rest hx47 hx42 (by simp [p2]) p1]
            · obtain ⟨cl1, cl2⟩ := cutQ_len x
              have hel := stepP_else hx47 hx42 (by simp [p2]) (by simp [p1]) ps k
              have hnum : isS t = true → (cutQ x).2.2 = true → ∃ d : Int, -99 ≤ d ∧ d ≤ 99 ∧ (cutQ x).2.1 = Lib.itoa d := fun h hc => part_num h ht (hA ▸ hxm) hx47 p1 hc
              refine rn rfl ?_
              refine goal_step (step_call [] rfl rfl rfl rfl rfl rfl (cut_ct x [61] (by omega))) ?_
              rintro σ2 ⟨r, o', ⟨rfl, rfl⟩, hσ⟩
              obtain rfl := Option.some.inj hσ
              clear hσ
              refine rn rfl ?_
              rw [show Lib.cut x [61] = cutQ x from rfl]
              generalize cutQ x = cq at cl1 cl2 hel hnum ⊢
              obtain ⟨q1, q2, q3⟩ := cq
              dsimp only at cl1 cl2 hel hnum ⊢
              cases q3 with
              | true =>
                refine rn rfl ?_
                refine goal_cond rfl (fun _ => ?_) (fun h1 => by simp at h1)
                refine rn rfl ?_
                refine goal_step (step_call [] rfl rfl rfl rfl rfl rfl (ird_ct q2 (by omega))) ?_
                rintro σ2 ⟨r, o', ⟨⟨n, ok, rfl, g1, g2, g3, g4⟩, rfl⟩, hσ⟩
                obtain rfl := Option.some.inj hσ
                clear hσ
                refine rn rfl ?_
                cases ok with
                | false =>
                  have hno : isS t ≠ true := fun h => by
                    obtain ⟨d, d1, d2, d3⟩ := hnum h rfl
                    have := (g2 d (by rw [d3]; exact atoi_itoa d1 d2) d3.symm).1
                    cases this
                  rw [ParS_not ht hno]
                  refine goal_cond rfl (fun _ => ?_) (fun h1 => by simp at h1)
                  refine rn rfl ?_
                  refine fin_weak (Weak.adoptO 0 0 4) (fin_is [4] rfl ⟨rfl, rfl⟩)
                | true =>
                  refine goal_cond rfl (fun h1 => by simp at h1) (fun _ => ?_)
                  refine rn rfl ?_
                  refine goal_did rfl rfl (dA_append (old := (ps).map eQ) (rows := ([⟨q1, k, true, n⟩] : List Param).map eQ) (((ps) ++ ([⟨q1, k, true, n⟩] : List Param)).map eQ) (ps.length + 1) true (Dst.own rfl rfl rfl rfl rfl (by first | (simp; done) | (simp; omega)) (whole (by first | (simp; done) | (simp; omega)))) (Src.os rfl rfl (Nat.le_refl 1) rfl) rfl rfl rfl rfl rfl rfl rfl rfl (rows_len eQ_len _) (rows_len eQ_len _) (by (try simp only [List.length_map, List.length_append, List.length_cons, List.length_nil, List.length_take, List.length_drop]); show _ * 40 ≤ _; omega) (by first | (simp; done) | (simp; omega)) (by simp) (by first | (simp; done) | (simp; omega)) (fun _ => noOwnR_map _ eQ_noOwn _)) ?_
                  refine rn rfl ?_
                  refine round_keep (A.length - (i + 1)) [21, 20, 19, 5, 4, 3, 2, 0] [0, 1, 5] (by omega) rfl ⟨_, _, k, i + 1, _, ps ++ [⟨q1, k, true, n⟩], wrap64 (by omega) (by omega), rfl, by omega, rfl, by simp, by simp; omega, ?_, fun h => ?_, rfl⟩
                  · intro p hp; simp at hp; rcases hp with hp | rfl
                    · exact hpn p hp
                    · simp; omega
                  · obtain ⟨d, d1, d2, d3⟩ := hnum h rfl
                    have e1 := (g2 d (by rw [d3]; exact atoi_itoa d1 d2) d3.symm).2
                    rw [hst h, hel, if_pos rfl, d3, rd_itoa d1 d2, e1]
              | false =>
                refine rn rfl ?_
                refine goal_cond rfl (fun h1 => by simp at h1) (fun _ => ?_)
                refine rn rfl ?_
                refine goal_did rfl rfl (dA_append (old := (ps).map eQ) (rows := ([⟨q1, k, false, 0⟩] : List Param).map eQ) (((ps) ++ ([⟨q1, k, false, 0⟩] : List Param)).map eQ) (ps.length + 1) true (Dst.own rfl rfl rfl rfl rfl (by first | (simp; done) | (simp; omega)) (whole (by first | (simp; done) | (simp; omega)))) (Src.os rfl rfl (Nat.le_refl 1) rfl) rfl rfl rfl rfl rfl rfl rfl rfl (rows_len eQ_len _) (rows_len eQ_len _) (by (try simp only [List.length_map, List.length_append, List.length_cons, List.length_nil, List.length_take, List.length_drop]); show _ * 40 ≤ _; omega) (by first | (simp; done) | (simp; omega)) (by simp) (by first | (simp; done) | (simp; omega)) (fun _ => noOwnR_map _ eQ_noOwn _)) ?_
                refine rn rfl ?_
                refine round_keep (A.length - (i + 1)) [21, 20, 19, 5, 4, 3, 2, 0] [0, 1, 5] (by omega) rfl ⟨_, _, k, i + 1, _, ps ++ [⟨q1, k, false, 0⟩], wrap64 (by omega) (by omega), rfl, by omega, rfl, by simp, by simp; omega, ?_, fun h => ?_, rfl⟩
                · intro p hp; simp at hp; rcases hp with hp | rfl
                  · exact hpn p hp
                  · simp; omega
                · rw [hst h, hel, if_neg (by simp)]
    · have hiA : i = A.length := by omega
      rw [hiA, List.take_length] at hv
      refine rn rfl ?_
      refine round_ext ?_
      refine rn rfl ?_
      refine goal_step (step_lendE [] rfl rfl rfl rfl rfl rfl rfl (cons_eq (asG ps) rfl) (ivalidSig_ct ps (by omega) (fun p hp => by have := hpn p hp; omega)) (by rintro r o ⟨rfl, rfl⟩; exact ⟨rfl, rfl⟩)) ?_
      rintro σ2 ⟨r, o', ⟨rfl, rfl⟩, hσ⟩
      obtain rfl := Option.some.inj hσ
      clear hσ
      refine rn rfl ?_
      cases hok : okSig ps with
      | false =>
        have hno : isS t ≠ true := fun h => by
          have := (isS_fold h (by rw [hfold, ← hv h])).1
          rw [hok] at this; cases this
        rw [ParS_not ht hno]
        refine goal_guard rfl rfl rfl (fun h => ?_) (fun h => by simp at h)
        refine rn rfl ?_
        refine fin_weak (Weak.adoptO 0 0 4) (fin_is [3] rfl ⟨rfl, rfl⟩)
      | true =>
        refine goal_guard rfl rfl rfl (fun h => by simp at h) (fun h => ?_)
        refine rn rfl ?_
        refine goal_step (step_lendE [] rfl rfl rfl rfl rfl rfl rfl (cons_eq (asG ps) rfl) (iSigText_ct ps (by omega) (fun p hp => by have := hpn p hp; omega)) (by rintro r o ⟨rfl, rfl⟩; exact ⟨rfl, rfl⟩)) ?_
        rintro σ2 ⟨r, o', ⟨rfl, rfl⟩, hσ⟩
        obtain rfl := Option.some.inj hσ
        clear hσ
        refine rn rfl ?_
        cases htx : (SgF ps == t) with
        | false =>
          have hno : isS t ≠ true := fun h => by
            have := (isS_fold h (by rw [hfold, ← hv h])).2
            rw [this] at htx; simp at htx
          rw [ParS_not ht hno]
          refine goal_cond rfl (fun _ => ?_) (fun h => by simp at h)
          refine rn rfl ?_
          refine fin_weak (Weak.adoptO 0 0 4) (fin_is [3] rfl ⟨rfl, rfl⟩)
        | true =>
          have he : SgF ps = t := by simpa using htx
          obtain ⟨y1, y2⟩ := isS_end ht hok he
          rw [ParS_yes ht y1, y2]
          refine goal_cond rfl (fun h => by simp at h) (fun _ => ?_)
          refine rn rfl ?_
          refine goal_step (step_callE [] rfl rfl rfl rfl rfl rfl (cons_eq (asG ps) rfl) (icopySig_ct ps (by omega))) ?_
          rintro σ2 ⟨r, o', ⟨rfl, rfl⟩, hσ⟩
          obtain rfl := Option.some.inj hσ
          clear hσ
          refine rn rfl ?_
          exact rn rfl (fin_is [3] rfl ⟨rfl, rfl⟩)

theorem pre_iff {x p : Str} : Lib.hasPrefix x p = true ↔ x.take p.length = p := by
  unfold Lib.hasPrefix
  rw [List.isPrefixOf_iff_prefix, List.prefix_iff_eq_take]
  exact eq_comm

theorem cutQ_none {x : Str} (h : (cutQ x).2.2 = false) : (cutQ x).1 = x := by
  unfold cutQ Lib.cut at h ⊢
  split at h
  · cases h
  · rename_i h1; rw [if_neg h1]

/-- A part of a valid text is read zs the fold says. -/
theorem prmS_step {t : Str} (h : isS t = true) (h0 : t ≠ []) {x : Str} (hx : x ∈ cut2 [] t) (h47 : ¬ x = [47]) (h42 : ¬ x = [42]) {k : Int} (hk : k ≠ 2) (ps : Sig) :
    (prmS x k).2 = true ∧ stepP (ps, k) x = (ps ++ [(prmS x k).1], if (prmS x k).1.kind = 2 then 3 else k) := by
  cases h2 : Lib.hasPrefix x [42, 42] with
  | true =>
    have hl := part_map h h0 hx h2
    have e : prmS x k = (⟨x.drop 2, 4, false, 0⟩, true) := by unfold prmS; rw [if_pos ⟨hl, pre_iff.1 h2⟩]
    rw [e, stepP_map h47 h42 h2]
    exact ⟨rfl, by rw [if_neg (by simp)]⟩
  | false =>
    have n2 : ¬ (2 < x.length ∧ x.take 2 = [42, 42]) := fun h1 => by
      have := pre_iff (x := x) (p := [42, 42]).2 h1.2
      rw [h2] at this; cases this
    cases h1 : Lib.hasPrefix x [42] with
    | true =>
      have ht := pre_iff.1 h1
      have e : prmS x k = (⟨x.drop 1, 2, false, 0⟩, true) := by
        unfold prmS
        rw [if_neg n2, if_pos]
        match x, ht, h42 with
        | [], ht, _ => simp at ht
        | [c], ht, h42 => simp at ht; exact absurd (by rw [ht]) h42
        | c :: d :: r, ht, _ =>
          simp at ht
          exact ⟨by simp, by simp [ht]⟩
      rw [e, stepP_rest h47 h42 (by simp [h2]) h1]
      exact ⟨rfl, by rw [if_pos rfl]⟩
    | false =>
      have n1 : ¬ (1 < x.length ∧ x[0]? = some 42) := fun hh => by
        have : Lib.hasPrefix x [42] = true := pre_iff.2 (by
          match x, hh with
          | [], hh => simp at hh
          | c :: r, hh => have := hh.2; simp at this; simp [this])
        rw [h1] at this; cases this
      rw [stepP_else h47 h42 (by simp [h2]) (by simp [h1])]
      cases hc : (cutQ x).2.2 with
      | true =>
        obtain ⟨d, d1, d2, d3⟩ := part_num h h0 hx h47 h1 hc
        have e : prmS x k = (⟨(cutQ x).1, k, true, (RdS (cutQ x).2.1).1⟩, (RdS (cutQ x).2.1).2) := by unfold prmS; rw [if_neg n2, if_neg n1, if_pos hc]
        rw [e, if_pos rfl, d3, rd_itoa d1 d2]
        exact ⟨rfl, by rw [if_neg hk]⟩
      | false =>
        have e : prmS x k = (⟨x, k, false, 0⟩, true) := by unfold prmS; rw [if_neg n2, if_neg n1, if_neg (by simp [hc])]
        rw [e, cutQ_none hc, if_neg (by simp)]
        exact ⟨rfl, by rw [if_neg hk]⟩

theorem prmS_len (x : Str) (k : Int) : (prmS x k).1.name.length ≤ x.length := by
  obtain ⟨c1, c2⟩ := cutQ_len x
  unfold prmS
  split
  · simp
  · split
    · simp
    · split
      · exact c1
      · exact Nat.le_refl _

def setB (p : Param) : Param := if p.kind = 1 then setK 0 p else p

theorem setB_name (p : Param) : (setB p).name = p.name := by unfold setB; split <;> rfl

theorem splitListD_ct (s : Str) (hl : s.length ≤ 1048576) : ACalls pk 50 [.one (.str s)] [] (fun r o => r = .one (.fs ((pieces2 s).map eS)) ∧ o = []) :=
  (splitList_ct s hl).told [] (by rintro r o ⟨rfl, rfl⟩; exact ⟨_, _, rfl, by rw [takeAll eS _ _ rfl], rfl⟩)

theorem ParS_end {t : Str} {ps : Sig} (h0 : t = [] → ps = []) (hf : t ≠ [] → isS t = true → foldS t = ps) : (ParS t).2 = (okSig ps && SgT ps == t) ∧ ((ParS t).2 = true → ps = (ParS t).1) := by
  by_cases ht : t = []
  · have hp := h0 ht
    have e : ParS t = ([], true) := by unfold ParS; rw [if_pos ht]
    rw [e, hp, ht]
    exact ⟨rfl, fun _ => rfl⟩
  · by_cases hi : isS t = true
    · have hp := hf ht hi
      obtain ⟨a, b⟩ := isS_is hi
      rw [ParS_yes ht hi, ← hp, okSig_iff.2 a, b]
      exact ⟨by simp, fun _ => rfl⟩
    · rw [ParS_not ht hi]
      refine ⟨?_, fun h => by cases h⟩
      cases hc : (okSig ps && SgT ps == t) with
      | false => rfl
      | true =>
        simp only [Bool.and_eq_true, beq_iff_eq] at hc
        exact absurd (isS_of (okSig_iff.1 hc.1) hc.2 ht).1 hi

theorem sparseSig_ct (t : Str) (hl : t.length ≤ 1048576) : ACalls pk 29 [.one (.str t)] [] (fun r o => ∃ s : Sig, r = .tup [rG s, .one (.bool (ParS t).2)] ∧ o = oG s ∧ ((ParS t).2 = true → s = (ParS t).1)) := by
  refine acalls_of_body Tryz.func29 rfl (by kernel_rfl) rfl ?_
  refine rn rfl ?_
  refine goal_step (step_call [] rfl rfl rfl rfl rfl rfl (splitListD_ct t hl)) ?_
  rintro σ2 ⟨r, o', ⟨rfl, rfl⟩, hσ⟩
  obtain rfl := Option.some.inj hσ
  clear hσ
  refine rn rfl ?_
  refine goal_weakCod (Weak.adoptO 1 0 4) ?_
  obtain ⟨hpl, hpt⟩ := cut2_len _ t [] (Nat.le_refl _)
  have hA0 : t = [] → pieces2 t = [] := fun h => by unfold pieces2; rw [if_pos h]
  have hA1 : t ≠ [] → pieces2 t = cut2 [] t := fun h => by unfold pieces2; rw [if_neg h]
  have hAl : (pieces2 t).length ≤ t.length + 1 ∧ ∀ x ∈ pieces2 t, x.length ≤ t.length := by
    by_cases h0 : t = []
    · rw [hA0 h0]; simp
    · rw [hA1 h0]; exact ⟨hpl, fun x hx => by have := hpt x hx; simpa using this⟩
  obtain ⟨hAl1, hAl2⟩ := hAl
  generalize hA : pieces2 t = A at *
  refine goal_loop_keep (fun m σ => ∃ (n k : Int) (i l : Nat) (ps : Sig), n = i ∧ (k = 1 ∨ k = 3) ∧ i ≤ A.length ∧ m = A.length - i ∧ l = ps.length ∧ ps.length ≤ i ∧ (∀ p ∈ ps, p.name.length ≤ t.length) ∧ (t ≠ [] → isS t = true → (ps, k) = (A.take i).foldl stepP ([], 1)) ∧
      σ = ⟨[(7, .one (.int .i64 n)), (6, .one (.int .i64 k)), (5, .one (.fs (A.map eS))), (4, .one (.op 1 0 0)), (3, .one (.bool false)), (2, .one (.op 0 0 0)), (0, .one (.str t))],
        [some ⟨1, [[.fs []]], false, false, true⟩, some ⟨1, [[.os 2 0 l l]], false, false, true⟩, ownQ ps], []⟩) A.length [7, 6, 5, 4, 3, 2, 0] [0, 1, 2] rfl
    ⟨_, _, 0, 0, [], rfl, .inl rfl, by omega, by omega, rfl, by simp, by simp, fun _ _ => rfl, rfl⟩ ?_
  rintro m σ ⟨n, k, i, l, ps, rfl, hk, hi, rfl, rfl, hpsl, hpn, hv, rfl⟩
  refine rn rfl ?_
  refine goal_cond rfl (fun h => ?_) (fun h => ?_) <;> (try simp only [gt_iff_lt, ge_iff_le, bne_iff_ne, ne_eq, bne_eq_false_iff_eq, beq_iff_eq, beq_eq_false_iff_ne, Bool.not_eq_true', Bool.not_eq_false', decide_eq_true_eq, decide_eq_false_iff_not, List.length_map] at h)
  · obtain ⟨x, hx⟩ := at_some (xs := A) (i := i) (by omega)
    have hxm := List.mem_of_getElem? hx
    have hxl : x.length ≤ t.length := hAl2 x hxm
    have hst : t ≠ [] → isS t = true → (A.take (i + 1)).foldl stepP ([], 1) = stepP (ps, k) x := fun h0 h => by
      rw [← take_snoc hx, List.foldl_append, ← hv h0 h]; rfl
    refine rn rfl ?_
    refine goal_did rfl rfl (dA_index (eS x) rfl rfl rfl rfl rfl rfl rfl (by omega) (by (try simp); omega) (map_at (by simpa using hx)) rfl) ?_
    refine rn rfl ?_
    cases h47 : (x == [47]) with
    | true =>
      have hx47 : x = [47] := by simpa using h47
      refine goal_cond rfl (fun _ => ?_) (fun h1 => by simp at h1)
      refine rn rfl ?_
      refine goal_loop_keep (fun m σ => ∃ (n : Int) (j l : Nat) (qs : Sig), n = j ∧ j ≤ ps.length ∧ m = ps.length - j ∧ l = ps.length ∧ qs = (ps.take j).map setB ++ ps.drop j ∧
          σ = ⟨[(8, .one (.int .i64 n)), (7, .one (.int .i64 i)), (6, .one (.int .i64 k)), (5, .one (.fs (A.map eS))), (4, .one (.op 1 0 0)), (3, .one (.bool false)), (2, .one (.op 0 0 0)), (0, .one (.str t))],
            [some ⟨1, [[.fs []]], false, false, true⟩, some ⟨1, [[.os 2 0 l l]], false, false, true⟩, ownQ qs], []⟩) ps.length [8, 7, 6, 5, 4, 3, 2, 0] [0, 1, 2] rfl
        ⟨_, 0, _, ps, rfl, by omega, by omega, rfl, by simp, rfl⟩ ?_
      rintro m σ ⟨n, j, l, qs, rfl, hj, rfl, rfl, hqs, rfl⟩
      have hql : qs.length = ps.length := by rw [hqs]; simp; omega
      refine rn rfl ?_
      refine goal_cond rfl (fun hjl => ?_) (fun hjl => ?_) <;> (try simp only [gt_iff_lt, ge_iff_le, bne_iff_ne, ne_eq, bne_eq_false_iff_eq, beq_iff_eq, beq_eq_false_iff_ne, Bool.not_eq_true', Bool.not_eq_false', decide_eq_true_eq, decide_eq_false_iff_not, List.length_map] at hjl)
      · obtain ⟨y, hy⟩ := at_some (xs := ps) (i := j) (by omega)
        obtain ⟨hy1, hy2⟩ := map_step (f := setB) hy
        rw [← hqs] at hy1 hy2
        refine rn rfl ?_
        refine goal_did rfl rfl (dA_indexOwn rfl rfl rfl rfl rfl rfl rfl rfl rfl (by omega) (by (try simp); omega)) ?_
        refine goal_did rfl rfl (dA_step rfl) ?_
        refine goal_did rfl rfl (dA_loadEl (eQ y) rfl rfl rfl rfl (map_at (by simpa using hy1)) rfl rfl rfl) ?_
        refine rn rfl ?_
        cases hk1 : (y.kind == 1) with
        | true =>
          have hy1' : setB y = setK 0 y := by unfold setB; rw [if_pos (beq_iff_eq.1 hk1)]
          rw [hy1'] at hy2
          refine goal_cond rfl (fun _ => ?_) (fun h1 => by simp at h1)
          refine rn rfl ?_
          refine goal_did rfl rfl (dA_indexOwn rfl rfl rfl rfl rfl rfl rfl rfl rfl (by omega) (by (try simp); omega)) ?_
          refine goal_did rfl rfl (dA_step rfl) ?_
          refine goal_did rfl rfl (dA_storeEl (eQ y) ((qs.set j (setK 0 y)).map eQ) true rfl rfl rfl rfl rfl (map_at (by simpa using hy1)) rfl rfl (by simp [eQ]) (by rw [map_set]; simp [patch, eQ, setK, constC]) (fun _ => noOwnR_map _ eQ_noOwn _)) ?_
          refine rn rfl ?_
          refine round_keep (ps.length - (j + 1)) [8, 7, 6, 5, 4, 3, 2, 0] [0, 1, 2] (by omega) rfl ⟨_, j + 1, _, qs.set j (setK 0 y), wrap64 (by omega) (by omega), by omega, rfl, rfl, hy2, rfl⟩
        | false =>
          have hy1' : setB y = y := by unfold setB; rw [if_neg (by simpa using hk1)]
          rw [hy1'] at hy2
          have hset : qs.set j y = qs := by
            apply List.ext_getElem?
            intro n
            rw [List.getElem?_set]
            split
            · rename_i hjn; subst hjn; rw [if_pos (lt_of_some hy1), hy1]
            · rfl
          rw [hset] at hy2
          refine goal_cond rfl (fun h1 => by simp at h1) (fun _ => ?_)
          refine rn rfl ?_
          refine round_keep (ps.length - (j + 1)) [8, 7, 6, 5, 4, 3, 2, 0] [0, 1, 2] (by omega) rfl ⟨_, j + 1, _, qs, wrap64 (by omega) (by omega), by omega, rfl, rfl, hy2, rfl⟩
      · rw [show j = ps.length by omega, List.take_length, List.drop_length, List.append_nil] at hqs
        refine rn rfl ?_
        refine round_ext ?_
        refine rn rfl ?_
        refine round_keep (A.length - (i + 1)) [7, 6, 5, 4, 3, 2, 0] [0, 1, 2] (by omega) rfl ⟨_, k, i + 1, _, qs, wrap64 (by omega) (by omega), hk, by omega, rfl, hql.symm, by omega, ?_, fun h0 h => ?_, rfl⟩
        · intro p hp
          rw [hqs] at hp
          obtain ⟨p', hp', rfl⟩ := List.mem_map.1 hp
          rw [setB_name]; exact hpn p' hp'
        · rw [hst h0 h, stepP, if_pos hx47, hqs]
          have hall := slash_kinds h h0 (j := i) (by rw [← hA1 h0, hx, hx47])
          rw [← hA1 h0, ← hv h0 h] at hall
          have : ps.map setB = ps.map (setK 0) := List.map_congr_left fun q hq => by unfold setB; rw [if_pos (hall q hq)]
          rw [this]
    | false =>
      have hx47 : ¬ x = [47] := by simpa using h47
      refine goal_cond rfl (fun h1 => by simp at h1) (fun _ => ?_)
      refine rn rfl ?_
      cases h42 : (x == [42]) with
      | true =>
        have hx42 : x = [42] := by simpa using h42
        refine goal_cond rfl (fun _ => ?_) (fun h1 => by simp at h1)
        refine rn rfl ?_
        refine round_keep (A.length - (i + 1)) [7, 6, 5, 4, 3, 2, 0] [0, 1, 2] (by omega) rfl ⟨_, 3, i + 1, _, ps, wrap64 (by omega) (by omega), .inr rfl, by omega, rfl, rfl, by omega, hpn, fun h0 h => ?_, rfl⟩
        rw [hst h0 h, stepP, if_neg hx47, if_pos hx42]
      | false =>
        have hx42 : ¬ x = [42] := by simpa using h42
        refine goal_cond rfl (fun h1 => by simp at h1) (fun _ => ?_)
        have hps := fun h0 h => prmS_step (t := t) h h0 (x := x) (by rw [← hA1 h0]; exact hxm) hx47 hx42 (k := k) (by omega) ps
        have hpl := prmS_len x k
        refine rn rfl ?_
        refine goal_did rfl rfl (dA_index (eS x) rfl rfl rfl rfl rfl rfl rfl (by omega) (by (try simp); omega) (map_at (by simpa using hx)) rfl) ?_
        refine rn rfl ?_
        refine goal_step (step_call [] rfl rfl rfl rfl rfl rfl (sparseParam_ct x k (by omega))) ?_
        rintro σ2 ⟨r, o', ⟨rfl, rfl⟩, hσ⟩
        obtain rfl := Option.some.inj hσ
        clear hσ
        refine rn rfl ?_
        generalize (prmS x k).1 = p at *
        have ht : t ≠ [] := fun h0 => by rw [hA0 h0] at hxm; cases hxm
        cases hok : (prmS x k).2 with
        | false =>
          have hno : isS t ≠ true := fun h => by
            have := (hps ht h).1
            rw [hok] at this; cases this
          rw [ParS_not ht hno]
          refine goal_cond rfl (fun _ => ?_) (fun h1 => by simp at h1)
          refine rn rfl ?_
          refine fin_weak (Weak.adoptO 0 0 4) (fin_is [4] rfl ⟨[], rfl, rfl, fun h => by cases h⟩)
        | true =>
          refine goal_cond rfl (fun h1 => by simp at h1) (fun _ => ?_)
          refine rn rfl ?_
          cases hk2 : (p.kind == 2) with
          | true =>
            have hk2' : p.kind = 2 := by simpa using hk2
            refine goal_cond rfl (fun _ => ?_) (fun h1 => by simp at h1)
            refine rn rfl ?_
            refine goal_did rfl rfl (dA_append (old := (ps).map eQ) (rows := ([p] : List Param).map eQ) (((ps) ++ ([p] : List Param)).map eQ) (ps.length + 1) true (Dst.own rfl rfl rfl rfl rfl (by first | (simp; done) | (simp; omega)) (whole (by first | (simp; done) | (simp; omega)))) (Src.os rfl rfl (Nat.le_refl 1) rfl) rfl rfl rfl rfl rfl rfl rfl rfl (rows_len eQ_len _) (rows_len eQ_len _) (by (try simp only [List.length_map, List.length_append, List.length_cons, List.length_nil, List.length_take, List.length_drop]); show _ * 40 ≤ _; omega) (by first | (simp; done) | (simp; omega)) (by simp) (by first | (simp; done) | (simp; omega)) (fun _ => noOwnR_map _ eQ_noOwn _)) ?_
            refine rn rfl ?_
            refine round_keep (A.length - (i + 1)) [7, 6, 5, 4, 3, 2, 0] [0, 1, 5] (by omega) rfl ⟨_, 3, i + 1, _, ps ++ [p], wrap64 (by omega) (by omega), .inr rfl, by omega, rfl, by simp, by simp; omega, ?_, fun h0 h => ?_, rfl⟩
            · intro q hq; simp at hq; rcases hq with hq | rfl
              · exact hpn q hq
              · omega
            · rw [hst h0 h, (hps h0 h).2, if_pos hk2']
          | false =>
            have hk2' : ¬ p.kind = 2 := by simpa using hk2
            refine goal_cond rfl (fun h1 => by simp at h1) (fun _ => ?_)
            refine rn rfl ?_
            refine goal_did rfl rfl (dA_append (old := (ps).map eQ) (rows := ([p] : List Param).map eQ) (((ps) ++ ([p] : List Param)).map eQ) (ps.length + 1) true (Dst.own rfl rfl rfl rfl rfl (by first | (simp; done) | (simp; omega)) (whole (by first | (simp; done) | (simp; omega)))) (Src.os rfl rfl (Nat.le_refl 1) rfl) rfl rfl rfl rfl rfl rfl rfl rfl (rows_len eQ_len _) (rows_len eQ_len _) (by (try simp only [List.length_map, List.length_append, List.length_cons, List.length_nil, List.length_take, List.length_drop]); show _ * 40 ≤ _; omega) (by first | (simp; done) | (simp; omega)) (by simp) (by first | (simp; done) | (simp; omega)) (fun _ => noOwnR_map _ eQ_noOwn _)) ?_
            refine rn rfl ?_
            refine round_keep (A.length - (i + 1)) [7, 6, 5, 4, 3, 2, 0] [0, 1, 5] (by omega) rfl ⟨_, k, i + 1, _, ps ++ [p], wrap64 (by omega) (by omega), hk, by omega, rfl, by simp, by simp; omega, ?_, fun h0 h => ?_, rfl⟩
            · intro q hq; simp at hq; rcases hq with hq | rfl
              · exact hpn q hq
              · omega
            · rw [hst h0 h, (hps h0 h).2, if_neg hk2']
  · have hiA : i = A.length := by omega
    rw [hiA, List.take_length] at hv
    refine rn rfl ?_
    refine round_ext ?_
    refine rn rfl ?_
    obtain ⟨f1, f2⟩ := ParS_end (t := t) (ps := ps) (fun h0 => List.length_eq_zero_iff.1 (by rw [hA0 h0] at hiA; simp at hiA; omega)) (fun h0 h => by
      unfold foldS; rw [← hA1 h0, ← hv h0 h])
    have hval := svalidSig_ct ps (by omega) (fun p hp => by have := hpn p hp; omega)
    refine goal_draw' [1, 2] 11 rfl ?_
    refine drn [0, 1] (by kernel_rfl) (by kernel_rfl) rfl rfl ?_
    refine AH_one (i := 2) (by kernel_rfl) (step_lendE [] rfl rfl rfl rfl rfl rfl rfl (cons_eq (asG ps) rfl) (hval) (by rintro r o ⟨rfl, rfl⟩; exact ⟨rfl, rfl⟩)) (by simp) ?_
    rintro σ2 ⟨r, o', ⟨rfl, rfl⟩, hσ⟩
    obtain rfl := Option.some.inj hσ
    clear hσ
    refine drn [3] (by kernel_rfl) (by kernel_rfl) rfl rfl ?_
    refine AH_guard (i := 4) rfl rfl rfl (fun hok => ?_) (fun hok => ?_) <;> (try simp only [gt_iff_lt, ge_iff_le, bne_iff_ne, ne_eq, bne_eq_false_iff_eq, beq_iff_eq, beq_eq_false_iff_ne, Bool.not_eq_true', Bool.not_eq_false', decide_eq_true_eq, decide_eq_false_iff_not, List.length_map] at hok)
    · refine drn [4, 6] (by kernel_rfl) (by kernel_rfl) rfl rfl ?_
      refine AH_one (i := 5) (by kernel_rfl) (step_lendE [] rfl rfl rfl rfl rfl rfl rfl (cons_eq (asG ps) rfl) (sSigText_ct ps (okSig_iff.1 hok)) (by rintro r o ⟨rfl, rfl⟩; exact ⟨rfl, rfl⟩)) (by simp) ?_
      rintro σ2 ⟨r, o', ⟨rfl, rfl⟩, hσ⟩
      obtain rfl := Option.some.inj hσ
      clear hσ
      refine drn [7, 8] (by kernel_rfl) (by kernel_rfl) rfl rfl ?_
      refine AH_oneDid 9 rfl (by kernel_rfl) rfl (dA_step rfl) (mdOk rfl) ?_
      refine drn [10] (by kernel_rfl) (by kernel_rfl) rfl rfl ?_
      refine AH_end (by kernel_rfl) ?_
      refine rn rfl ?_
      rw [hok, Bool.true_and] at f1
      rw [f1] at f2 ⊢
      refine rn rfl (fin_is [2] rfl ⟨ps, rfl, rfl, f2⟩)
    · refine drn [4, 5, 6, 7, 8] (by kernel_rfl) (by kernel_rfl) rfl rfl ?_
      refine AH_oneDid 9 rfl (by kernel_rfl) rfl (dA_step rfl) (mdOk rfl) ?_
      refine drn [10] (by kernel_rfl) (by kernel_rfl) rfl rfl ?_
      refine AH_end (by kernel_rfl) ?_
      refine rn rfl ?_
      rw [hok, Bool.false_and] at f1
      rw [f1] at f2 ⊢
      refine rn rfl (fin_is [2] rfl ⟨ps, rfl, rfl, f2⟩)

theorem sParseSig_ct (t : Str) (hl : t.length ≤ 1048576) : ACalls pk 12 [.one (.str t)] [] (fun r o => r = .tup [rG (ParS t).1, .one (.bool (ParS t).2)] ∧ o = oG (ParS t).1) := by
  refine acalls_of_body Tryz.func12 rfl (by kernel_rfl) rfl ?_
  refine rn rfl ?_
  refine goal_step (step_call [] rfl rfl rfl rfl rfl rfl (sparseSig_ct t hl)) ?_
  rintro σ2 ⟨r, o', ⟨s, rfl, rfl, hs⟩, hσ⟩
  obtain rfl := Option.some.inj hσ
  clear hσ
  cases hok : (ParS t).2 with
  | false =>
    have e : (ParS t).1 = [] := by
      unfold ParS at hok ⊢
      split
      · rfl
      · split
        · rename_i h0 h1; rw [if_neg h0, if_pos h1] at hok; cases hok
        · rfl
    rw [e]
    refine rn rfl ?_
    refine goal_cond rfl (fun _ => ?_) (fun h => by simp at h)
    refine rn rfl ?_
    refine fin_weak (Weak.adoptO 0 0 4) (fin_is [3] rfl ⟨rfl, rfl⟩)
  | true =>
    rw [← hs hok]
    refine rn rfl ?_
    refine goal_cond rfl (fun h => by simp at h) (fun _ => ?_)
    refine rn rfl ?_
    refine fin_is [1] rfl ⟨rfl, rfl⟩

theorem sParseSigD_ct (t : Str) (hl : t.length ≤ 1048576) : ACalls pk 12 [.one (.str t)] [] (fun r o => r = .tup [.agg (eG (ParS t).1), .one (.bool (ParS t).2)] ∧ o = []) :=
  (sParseSig_ct t hl).told [] (by rintro r o ⟨rfl, rfl⟩; exact ⟨_, _, rfl, congrArg (fun x => T.tup [x, .one (.bool (ParS t).2)]) (asG _), rfl⟩)

structure SmallS (s : Sig) : Prop where
  len : s.length ≤ 8
  names : ∀ p ∈ s, p.name.length ≤ 7

theorem OkS.small {s : Sig} (h : OkS s) : SmallS s := ⟨h.len, fun p hp => by have := h.nameLen hp; omega⟩

theorem eqParam_b (x : Param) : eqCells (eQ x) (eQ x) = some true := by
  simp [eqCells, eQ, eqCell, eqKind]

theorem equalSigSelf_ct (s : Sig) (h : s.length ≤ 16777216) : ACalls pk 13 [.agg (eG s), .agg (eG s)] [] (fun r o => r = .one (.bool true) ∧ o = []) := by
  refine acalls_of_body Tryz.func13 rfl (by kernel_rfl) rfl ?_
  refine rn rfl ?_
  refine goal_cond rfl (fun h0 => by simp at h0) (fun _ => ?_)
  refine rn rfl ?_
  refine goal_loop_keep (fun m σ => ∃ (n : Int) (i : Nat), n = i ∧ i ≤ s.length ∧ m = s.length - i ∧
      σ = ⟨[(5, .one (.int .i64 n)), (3, .one (.op 1 0 0)), (2, .one (.op 0 0 0))], [some ⟨1, [eG s], false, false, true⟩, some ⟨1, [eG s], false, false, true⟩], []⟩) s.length [5, 3, 2] [0, 1] rfl
    ⟨_, 0, rfl, by omega, by omega, rfl⟩ ?_
  rintro m σ ⟨n, i, rfl, hi, rfl, rfl⟩
  refine rn rfl ?_
  refine goal_cond rfl (fun hc => ?_) (fun hc => ?_) <;> (try simp only [gt_iff_lt, ge_iff_le, bne_iff_ne, ne_eq, bne_eq_false_iff_eq, beq_iff_eq, beq_eq_false_iff_ne, Bool.not_eq_true', Bool.not_eq_false', decide_eq_true_eq, decide_eq_false_iff_not, List.length_map] at hc)
  · obtain ⟨x, hx⟩ := at_some (xs := s) (i := i) (by omega)
    refine rn rfl ?_
    refine goal_draw' [0, 1] 11 rfl ?_
    refine drn [0, 1, 2, 5, 6, 7] (by kernel_rfl) (by kernel_rfl) rfl rfl ?_
    refine AH_did 3 rfl (by kernel_rfl) (by kernel_rfl) (by kernel_rfl) rfl rfl (dA_index (eQ x) rfl rfl rfl rfl rfl rfl rfl (by omega) (by (try simp); omega) (map_at (by simpa using hx)) rfl) ?_
    refine drn [4] (by kernel_rfl) (by kernel_rfl) rfl rfl ?_
    refine AH_did 8 rfl (by kernel_rfl) (by kernel_rfl) (by kernel_rfl) rfl rfl (dA_index (eQ x) rfl rfl rfl rfl rfl rfl rfl (by omega) (by (try simp); omega) (map_at (by simpa using hx)) rfl) ?_
    refine drn [9] (by kernel_rfl) (by kernel_rfl) rfl rfl ?_
    refine AH_did 10 rfl (by kernel_rfl) (by kernel_rfl) (by kernel_rfl) rfl rfl (dA_eqStruct (b := true) false (.inr ⟨rfl, rfl⟩) rfl rfl rfl rfl rfl rfl (eqParam_b x) (by kernel_rfl) (by kernel_rfl) (by kernel_rfl) rfl) ?_
    refine AH_end (by kernel_rfl) ?_
    refine rn rfl ?_
    refine goal_cond rfl (fun h0 => by cases h0) (fun _ => ?_)
    refine rn rfl ?_
    refine round_keep (s.length - (i + 1)) [5, 3, 2] [0, 1] (by omega) rfl ⟨_, i + 1, wrap64 (by omega) (by omega), by omega, rfl, rfl⟩
  · refine rn rfl (round_ext ?_)
    exact rn rfl (fin_is [] rfl ⟨rfl, rfl⟩)

theorem iParseSigD_ct (t : Str) (hl : t.length ≤ 1048576) : ACalls pk 11 [.one (.str t)] [] (fun r o => r = .tup [.agg (eG (ParS t).1), .one (.bool (ParS t).2)] ∧ o = []) :=
  (iParseSig_ct t hl).told [] (by rintro r o ⟨rfl, rfl⟩; exact ⟨_, _, rfl, congrArg (fun x => T.tup [x, .one (.bool (ParS t).2)]) (asG _), rfl⟩)

theorem ParS_small (t : Str) (h : t.length ≤ 1048576) : (ParS t).1.length ≤ 8 ∧ ∀ p ∈ (ParS t).1, p.name.length ≤ 9223372036854775807 := by
  by_cases h0 : (ParS t).2 = true
  · have hS := okSig_iff.1 (ParS_ok h0).1
    exact ⟨hS.len, fun p hp => by have := okQ_parts (hS.params p hp); omega⟩
  · have e : (ParS t).1 = [] := by
      unfold ParS at h0 ⊢
      split
      · rfl
      · split
        · rename_i h1 h2; rw [if_neg h1, if_pos h2] at h0; exact absurd rfl h0
        · rfl
    rw [e]; simp

theorem fnTopSignature_ct (t : Str) (hl : t.length ≤ 1048576) : ACalls pk 4 [.one (.str t)] [] (fun r o => r = .one (.bool true) ∧ o = []) := by
  obtain ⟨p1, p2⟩ := ParS_small t hl
  have hI := iParseSigD_ct t hl
  have hS := sParseSigD_ct t hl
  have hq := equalSigSelf_ct (ParS t).1 (by omega)
  have hT := iSigText_ct (ParS t).1 (by omega) p2
  have hV := ivalidSig_ct (ParS t).1 (by omega) p2
  have hok := ParS_ok (t := t)
  generalize (ParS t).1 = s at *
  generalize (ParS t).2 = ok at *
  refine acalls_of_body Tryz.func4 rfl (by kernel_rfl) rfl ?_
  refine rn rfl ?_
  refine goal_step (step_call [] rfl rfl rfl rfl rfl rfl (hI)) ?_
  rintro σ2 ⟨r, o', ⟨rfl, rfl⟩, hσ⟩
  obtain rfl := Option.some.inj hσ
  clear hσ
  refine rn rfl ?_
  refine rn rfl ?_
  refine goal_step (step_call [] rfl rfl rfl rfl rfl rfl (hS)) ?_
  rintro σ2 ⟨r, o', ⟨rfl, rfl⟩, hσ⟩
  obtain rfl := Option.some.inj hσ
  clear hσ
  refine rn rfl ?_
  refine rn rfl ?_
  refine goal_step (step_call [] rfl rfl rfl rfl rfl rfl (hq)) ?_
  rintro σ2 ⟨r, o', ⟨rfl, rfl⟩, hσ⟩
  obtain rfl := Option.some.inj hσ
  clear hσ
  refine rn rfl ?_
  refine goal_guard rfl rfl rfl (fun h1 => by cases h1) (fun _ => ?_)
  refine rn rfl ?_
  refine goal_guard rfl rfl rfl (fun h2 => by simp at h2) (fun _ => ?_)
  refine rn rfl ?_
  refine goal_cond rfl (fun h3 => ?_) (fun h3 => ?_)
  · refine rn rfl ?_
    refine goal_step (step_call [] rfl rfl rfl rfl rfl rfl (hq)) ?_
    rintro σ2 ⟨r, o', ⟨rfl, rfl⟩, hσ⟩
    obtain rfl := Option.some.inj hσ
    clear hσ
    refine rn rfl ?_
    refine goal_guard rfl rfl rfl (fun _ => ?_) (fun h4 => by cases h4)
    refine rn rfl (fin_is [] rfl ⟨?_, rfl⟩)
    simp
  · have hk : ok = true := by simpa using h3
    obtain ⟨o1, o2⟩ := hok hk
    rw [o2] at hT
    rw [o1] at hV
    refine rn rfl ?_
    refine goal_step (step_call [] rfl rfl rfl rfl rfl rfl (hT)) ?_
    rintro σ2 ⟨r, o', ⟨rfl, rfl⟩, hσ⟩
    obtain rfl := Option.some.inj hσ
    clear hσ
    refine rn rfl ?_
    refine goal_guard rfl rfl rfl (fun _ => ?_) (fun h4 => by simp at h4)
    refine rn rfl ?_
    refine goal_step (step_call [] rfl rfl rfl rfl rfl rfl (hV)) ?_
    rintro σ2 ⟨r, o', ⟨rfl, rfl⟩, hσ⟩
    obtain rfl := Option.some.inj hσ
    clear hσ
    refine rn rfl ?_
    exact rn rfl (fin_is [] rfl ⟨rfl, rfl⟩)

section
open Go Go.ChangeShapes Go.WideShapes Go.ChangeAt Go.RowKit
theorem var_heap {P : Program} {W : World} {name : String} {g : Nat} {cs : Array Value} (hn : P.globalNamed name = some g) (h : W.var? P name = some cs) : ∃ t fr, W.heap[g]? = some (.cells cs t fr) := by
  unfold World.var? at h
  rw [hn, Option.bind_some] at h
  split at h
  · rename_i cs' t fr hh
    cases h
    exact ⟨t, fr, hh⟩
  · cases h

theorem err_row (u : TypeId) (h : Tryz.prog.typeName? 3 u = some "*errors.errorString") : u = 131 := by
  have hs : "*" ++ "errors.errorString" = "*errors.errorString" := by decide
  exact typeName_ptr_named (nm := "errors.errorString") (by rw [hs]; kernel_rfl) (by kernel_rfl) (by decide) u (by rw [hs]; exact h)

theorem glob_entry {W : World} {a b d : String × DataW Unit} {r : List (String × DataW Unit)} (hsh : W.ShapedOpen Tryz.prog)
    (hL : laidMet Tryz.prog (a :: b :: ("internal/strconv.uint64pow10", Rows.laid_internal_strconv_uint64pow10) :: d :: ("strconv.ErrRange", Rows.laid_strconv_ErrRange) :: ("strconv.ErrSyntax", Rows.laid_strconv_ErrSyntax) :: r) W) : GlobOk W [] := by
  have hp : Lib.TabIs Tryz.prog W "internal/strconv.uint64pow10" .u64 Lib.pow10Tab := Lib.tabIs_of_head (g := gPow) (t := 135) (e := 114) (n := 20) (by kernel_rfl) (by kernel_rfl) (by kernel_rfl) (by kernel_rfl) (by kernel_rfl) (by kernel_rfl) (show laidMet _ (("internal/strconv.uint64pow10", Lib.tabData .u64 Lib.pow10Tab) :: _) W from hL.tail.tail)
  obtain ⟨a1, s1, h1, -⟩ := laid_sentinel hL.tail.tail.tail.tail (show Tryz.prog.globalNamed "strconv.ErrRange" = some 2 by kernel_rfl) (show (Tryz.prog.globals[2]?).map (·.type) = some 69 by kernel_rfl) Tryz.underlying69 err_row Tryz.underlying131 Tryz.underlying133 rfl rfl Tryz.underlying9 (by kernel_rfl) (by kernel_rfl)
  obtain ⟨a2, s2, h2, -⟩ := laid_sentinel hL.tail.tail.tail.tail.tail (show Tryz.prog.globalNamed "strconv.ErrSyntax" = some 1 by kernel_rfl) (show (Tryz.prog.globals[1]?).map (·.type) = some 69 by kernel_rfl) Tryz.underlying69 err_row Tryz.underlying131 Tryz.underlying133 rfl rfl Tryz.underlying9 (by kernel_rfl) (by kernel_rfl)
  obtain ⟨m, hm⟩ := Go.Proofs.cell_of_shapedOpen_int (g := 0) (zero := #[.int .i64 0]) (t := 3) hsh (of_decide_eq_true (by kernel_rfl)) (by kernel_rfl) rfl (by kernel_rfl) (by kernel_rfl) Tryz.underlying3
  obtain ⟨t1, f1, e1⟩ := var_heap (by kernel_rfl) h1
  obtain ⟨t2, f2, e2⟩ := var_heap (by kernel_rfl) h2
  obtain ⟨t3, f3, e3⟩ := var_heap (g := gPow) (by kernel_rfl) hp
  intro g hg
  refine ⟨by rintro ⟨id, ad, esz, cap, n, he, _⟩; simp at he, ?_⟩
  simp only [GL, List.mem_cons, List.not_mem_nil, or_false] at hg
  rcases hg with rfl | rfl | rfl | rfl
  · unfold World.cell? at hm
    split at hm
    · rename_i cs t fr hh
      split at hm
      · cases hm
      · exact ⟨_, hh, cs, t, fr, rfl, fun _ => ⟨m, by simpa using hm⟩, fun h => absurd h (by decide), fun h => absurd h (by decide)⟩
    · cases hm
  · exact ⟨_, e2, _, _, _, rfl, fun h => absurd h (by decide), fun _ => ⟨_, _, rfl⟩, fun h => absurd h (by decide)⟩
  · exact ⟨_, e1, _, _, _, rfl, fun h => absurd h (by decide), fun _ => ⟨_, _, rfl⟩, fun h => absurd h (by decide)⟩
  · exact ⟨_, e3, _, _, _, rfl, fun h => absurd h (by decide), fun h => absurd h (by decide), fun _ => rfl⟩
end

end Go.Proofs.YtkchcffmefbomaaGreatDoor
