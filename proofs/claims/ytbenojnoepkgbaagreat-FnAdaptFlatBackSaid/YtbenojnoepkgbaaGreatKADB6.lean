/- Part 6 of the proof: an abstract machine over the model; contracts of the functions that the law reaches. -/
import Derived.Test.YtbenojnoepkgbaaGreatKADB5
set_option linter.unusedVariables false
set_option linter.unusedSimpArgs false
namespace Go.Proofs.YtbenojnoepkgbaaGreat
open Go
set_option maxRecDepth 100000
set_option maxHeartbeats 1000000

theorem sadapt_ct (old s : Sig) (f : Flat) (ho : LenS old) (hs : LenS s) (hf : LenF f) :
    ACalls pk 16 [.agg (eG old), .agg (eG s), .agg (eF f)] [] (fun r o => r = .tup [.agg (eF (AdF old s f).1), .one (.bool (AdF old s f).2)] ∧ o = []) := by
  have hsp := hs.params
  rw [AdF_spec]
  refine acalls_of_body Tryz.func16 rfl (by kernel_rfl) rfl ?_
  refine rn rfl ?_
  refine goal_step (step_call [] rfl rfl rfl rfl rfl rfl (sBind_ct old f ho hf)) ?_
  rintro σ2 ⟨r, o', ⟨rfl, rfl⟩, hσ⟩
  obtain rfl := Option.some.inj hσ
  clear hσ
  refine rn rfl ?_
  cases hb : (BindQ old f).2 with
  | false =>
    refine goal_guard rfl rfl rfl (fun _ => ?_) (fun h => by simp at h)
    exact rn rfl (fin_is [] rfl ⟨rfl, rfl⟩)
  | true =>
    refine goal_guard rfl rfl rfl (fun h => by simp at h) (fun _ => ?_)
    refine rn rfl ?_
    refine goal_step (step_call [] rfl rfl rfl rfl rfl rfl (svalidSig_ct s (by omega) hs.names)) ?_
    rintro σ2 ⟨r, o', ⟨rfl, rfl⟩, hσ⟩
    obtain rfl := Option.some.inj hσ
    clear hσ
    refine rn rfl ?_
    cases hv : okSig s with
    | false =>
      refine goal_cond rfl (fun _ => ?_) (fun h => by simp at h)
      exact rn rfl (fin_is [] rfl ⟨rfl, rfl⟩)
    | true =>
      refine goal_cond rfl (fun h => by simp at h) (fun _ => ?_)
      obtain ⟨o1, o2, o3, o4⟩ := bindQ_ok hb
      have G : Given old f (BindQ old f).1 := given_of hb
      have hok := okSig_iff.1 hv
      have hsl := hok.len
      simp only [Bool.and_self, if_true]
      have e1 : (BindQ old f).1 = (boundQ old f).1 := by rw [o4]
      obtain ⟨c1, c2⟩ := bind_small old f
      have hA : ∀ x ∈ fillQ old (BindQ old f).1, SlB 8 x := fun x hx => by
        have hsm := G.small hf.names
        obtain ⟨i, hi⟩ := List.getElem?_of_mem hx
        have hlt : i < old.length := by rw [← fillQ_len (s := old) (b := (BindQ old f).1) G.len]; exact lt_of_some hi
        obtain ⟨p, hp⟩ := at_some hlt
        obtain ⟨y, hy⟩ := at_some (xs := (BindQ old f).1) (i := i) (by rw [G.len]; exact hlt)
        rw [fillQ_at hp hy] at hi
        cases hi
        have hy' := c2 y (List.mem_of_getElem? hy)
        unfold fill1
        split
        · exact ⟨by simp, by simp, by simp⟩
        · exact ⟨by omega, by omega, hsm.names y (List.mem_of_getElem? hy)⟩
      generalize (BindQ old f).1 = B at *
      have hBl := G.len
      have hol := o1.len
      have hAl := fillQ_len (s := old) hBl
      have hfi := sfill_ct old B hBl hol (fun x hx => by have := c2 x hx; omega)
      generalize fillQ old B = A at *
      refine rn rfl ?_
      refine goal_draw' [0, 1, 4] 12 rfl ?_
      refine drn [0, 1, 2, 4] (by kernel_rfl) (by kernel_rfl) rfl rfl ?_
      refine AH_two (i := 3) (j := 9) (by kernel_rfl) (step_call [] rfl rfl rfl rfl rfl rfl (hfi)) (by simp) (step_did rfl rfl (dA_step rfl)) (mdOk rfl) ?_ ?_
      · rintro σ2 ⟨r, o', ⟨rfl, rfl⟩, hσ⟩
        obtain rfl := Option.some.inj hσ
        clear hσ
        refine AH_two (i := 5) (j := 9) (by kernel_rfl) (step_call [] rfl rfl rfl rfl rfl rfl (sadapted_ct old s A hok hol hAl hA)) (by simp) (step_did rfl rfl (dA_step rfl)) (mdOk rfl) ?_ ?_
        · rintro σ2 ⟨r, o', ⟨ok, b, rfl, rfl, hbl, hyes, hno⟩, hσ⟩
          obtain rfl := Option.some.inj hσ
          clear hσ
          refine drn [6, 7, 8] (by kernel_rfl) (by kernel_rfl) rfl rfl ?_
          refine AH_oneDid 9 rfl (by kernel_rfl) rfl (dA_step rfl) (mdOk rfl) ?_
          refine AH_oneDid 10 rfl (by kernel_rfl) rfl (dA_step rfl) (mdOk rfl) ?_
          refine drn [11] (by kernel_rfl) (by kernel_rfl) rfl rfl ?_
          refine AH_end (by kernel_rfl) ?_
          refine rn rfl ?_
          cases ok with
          | false =>
            rw [hno rfl]
            refine goal_guard rfl rfl rfl (fun _ => ?_) (fun h => by simp at h)
            exact rn rfl (fin_is [] rfl ⟨rfl, rfl⟩)
          | true =>
            rw [hyes rfl]
            have hsb := ad_small hsl hol hA (pass_ads hok (hyes rfl))
            refine goal_guard rfl rfl rfl (fun h => by simp at h) (fun _ => ?_)
            simp only
            refine rn rfl ?_
            refine goal_step (step_call [] rfl rfl rfl rfl rfl rfl (svalidB_ct s b hs ⟨hsb.len, hsb.size, hsb.names⟩)) ?_
            rintro σ2 ⟨r, o', ⟨rfl, rfl⟩, hσ⟩
            obtain rfl := Option.some.inj hσ
            clear hσ
            refine rn rfl ?_
            rw [VB_eq]
            cases hvb : VBi s b with
            | false =>
              refine goal_cond rfl (fun _ => ?_) (fun h => by simp at h)
              exact rn rfl (fin_is [] rfl ⟨rfl, rfl⟩)
            | true =>
              refine goal_cond rfl (fun h => by simp at h) (fun _ => ?_)
              refine rn rfl ?_
              refine goal_step (step_call [] rfl rfl rfl rfl rfl rfl (sunbound_ct s b (VBi_okB hsb hvb))) ?_
              rintro σ2 ⟨r, o', ⟨rfl, rfl⟩, hσ⟩
              obtain rfl := Option.some.inj hσ
              clear hσ
              refine rn rfl ?_
              exact rn rfl (fin_is [] rfl ⟨rfl, rfl⟩)
        · rintro _ rfl
          refine AH_one (i := 5) (by kernel_rfl) (step_call [] rfl rfl rfl rfl rfl rfl (sadapted_ct old s A hok hol hAl hA)) (by simp) ?_
          rintro σ2 ⟨r, o', ⟨ok, b, rfl, rfl, hbl, hyes, hno⟩, hσ⟩
          obtain rfl := Option.some.inj hσ
          clear hσ
          refine drn [6, 7, 8] (by kernel_rfl) (by kernel_rfl) rfl rfl ?_
          refine AH_oneDid 10 rfl (by kernel_rfl) rfl (dA_step rfl) (mdOk rfl) ?_
          refine drn [11] (by kernel_rfl) (by kernel_rfl) rfl rfl ?_
          refine AH_end (by kernel_rfl) ?_
          refine rn rfl ?_
          cases ok with
          | false =>
            rw [hno rfl]
            refine goal_guard rfl rfl rfl (fun _ => ?_) (fun h => by simp at h)
            exact rn rfl (fin_is [] rfl ⟨rfl, rfl⟩)
          | true =>
            rw [hyes rfl]
            have hsb := ad_small hsl hol hA (pass_ads hok (hyes rfl))
            refine goal_guard rfl rfl rfl (fun h => by simp at h) (fun _ => ?_)
            simp only
            refine rn rfl ?_
            refine goal_step (step_call [] rfl rfl rfl rfl rfl rfl (svalidB_ct s b hs ⟨hsb.len, hsb.size, hsb.names⟩)) ?_
            rintro σ2 ⟨r, o', ⟨rfl, rfl⟩, hσ⟩
            obtain rfl := Option.some.inj hσ
            clear hσ
            refine rn rfl ?_
            rw [VB_eq]
            cases hvb : VBi s b with
            | false =>
              refine goal_cond rfl (fun _ => ?_) (fun h => by simp at h)
              exact rn rfl (fin_is [] rfl ⟨rfl, rfl⟩)
            | true =>
              refine goal_cond rfl (fun h => by simp at h) (fun _ => ?_)
              refine rn rfl ?_
              refine goal_step (step_call [] rfl rfl rfl rfl rfl rfl (sunbound_ct s b (VBi_okB hsb hvb))) ?_
              rintro σ2 ⟨r, o', ⟨rfl, rfl⟩, hσ⟩
              obtain rfl := Option.some.inj hσ
              clear hσ
              refine rn rfl ?_
              exact rn rfl (fin_is [] rfl ⟨rfl, rfl⟩)
      · rintro _ rfl
        refine AH_one (i := 3) (by kernel_rfl) (step_call [] rfl rfl rfl rfl rfl rfl (hfi)) (by simp) ?_
        rintro σ2 ⟨r, o', ⟨rfl, rfl⟩, hσ⟩
        obtain rfl := Option.some.inj hσ
        clear hσ
        refine AH_one (i := 5) (by kernel_rfl) (step_call [] rfl rfl rfl rfl rfl rfl (sadapted_ct old s A hok hol hAl hA)) (by simp) ?_
        rintro σ2 ⟨r, o', ⟨ok, b, rfl, rfl, hbl, hyes, hno⟩, hσ⟩
        obtain rfl := Option.some.inj hσ
        clear hσ
        refine drn [6, 7, 8] (by kernel_rfl) (by kernel_rfl) rfl rfl ?_
        refine AH_oneDid 10 rfl (by kernel_rfl) rfl (dA_step rfl) (mdOk rfl) ?_
        refine drn [11] (by kernel_rfl) (by kernel_rfl) rfl rfl ?_
        refine AH_end (by kernel_rfl) ?_
        refine rn rfl ?_
        cases ok with
        | false =>
          rw [hno rfl]
          refine goal_guard rfl rfl rfl (fun _ => ?_) (fun h => by simp at h)
          exact rn rfl (fin_is [] rfl ⟨rfl, rfl⟩)
        | true =>
          rw [hyes rfl]
          have hsb := ad_small hsl hol hA (pass_ads hok (hyes rfl))
          refine goal_guard rfl rfl rfl (fun h => by simp at h) (fun _ => ?_)
          simp only
          refine rn rfl ?_
          refine goal_step (step_call [] rfl rfl rfl rfl rfl rfl (svalidB_ct s b hs ⟨hsb.len, hsb.size, hsb.names⟩)) ?_
          rintro σ2 ⟨r, o', ⟨rfl, rfl⟩, hσ⟩
          obtain rfl := Option.some.inj hσ
          clear hσ
          refine rn rfl ?_
          rw [VB_eq]
          cases hvb : VBi s b with
          | false =>
            refine goal_cond rfl (fun _ => ?_) (fun h => by simp at h)
            exact rn rfl (fin_is [] rfl ⟨rfl, rfl⟩)
          | true =>
            refine goal_cond rfl (fun h => by simp at h) (fun _ => ?_)
            refine rn rfl ?_
            refine goal_step (step_call [] rfl rfl rfl rfl rfl rfl (sunbound_ct s b (VBi_okB hsb hvb))) ?_
            rintro σ2 ⟨r, o', ⟨rfl, rfl⟩, hσ⟩
            obtain rfl := Option.some.inj hσ
            clear hσ
            refine rn rfl ?_
            exact rn rfl (fin_is [] rfl ⟨rfl, rfl⟩)

theorem adF_len (old s : Sig) (f : Flat) : LenF (AdF old s f).1 := by
  have hz : LenF zF := ⟨by simp [zF], by simp [zF], by simp [zF]⟩
  unfold AdF
  split
  · split
    · split
      · rename_i h; exact (VBi_given h).flat.len
      · exact hz
    · exact hz
  · exact hz

theorem tailRowsQ {t : Sig} {i : Nat} (h : i ≤ t.length) : (t.drop i).map eQ = List.take (t.length - i) (List.drop i (t.map eQ)) := by
  rw [List.map_drop, List.take_of_length_le (by simp)]

theorem ins_small {t : Sig} {j : Nat} {nm : Str} {w : Int} (ht : SmallS t) (h : nm ∈ ([[122], [119], [109]] : List Str)) : ∀ p ∈ t.take j ++ [⟨nm, w, false, 0⟩] ++ t.drop j, p.name.length ≤ 7 := by
  intro p hp
  simp only [List.mem_append, List.mem_singleton] at hp
  rcases hp with (hp | rfl) | hp
  · exact ht.names p (List.mem_of_mem_take hp)
  · simp only [List.mem_cons, List.not_mem_nil, or_false] at h
    rcases h with rfl | rfl | rfl <;> simp
  · exact ht.names p (List.mem_of_mem_drop hp)

theorem set2_small {t : Sig} {j : Nat} {p q : Param} (ht : SmallS t) (hpn : q.name.length ≤ 7) {b : Bool} {w d : Int} : ∀ x ∈ (t.set j p).set j ⟨q.name, w, b, d⟩, x.name.length ≤ 7 := by
  rw [List.set_set]
  exact (small_set ht (by exact hpn)).names

theorem near_ct (bs : Str) (k : Int) (s : Sig) (hs : SmallS s) (hb : bs.length ≤ 2000) (hk : 0 ≤ k) (hk' : k ≤ 1073700000) :
    ACalls pk 60 [.one (.op 0 0 0), .agg (eG s)] [oR bs k] (fun r o => ∃ t k', SmallS t ∧ k ≤ k' ∧ k' ≤ k + 30 ∧ r = .agg (eG t) ∧ o = [oR bs k']) := by
  have hsl := hs.len
  refine acalls_of_body Tryz.func60 rfl (by kernel_rfl) rfl ?_
  refine rn rfl ?_
  refine goal_step (step_call [] rfl rfl rfl rfl rfl rfl (copyParams_ct s (by omega))) ?_
  rintro σ2 ⟨r, o', ⟨rfl, rfl⟩, hσ⟩
  obtain rfl := Option.some.inj hσ
  clear hσ
  refine rn rfl ?_
  refine rn rfl ?_
  refine goal_step (step_callE [0] rfl rfl rfl rfl rfl rfl (rfl) (pick_ct bs k 2 hb (by omega) (by omega) (by omega))) ?_
  rintro σ2 ⟨r, o', ⟨⟨z, rfl, hz, _⟩, rfl⟩, hσ⟩
  obtain rfl := Option.some.inj hσ
  clear hσ
  refine rn rfl ?_
  have hz' := hz (by omega)
  have hw : IntKind.i64.wrap (1 + z) = 1 + z := wrap64 (by omega) (by omega)
  refine goal_loop_keepF (fun m σ => ∃ (q k1 : Int) (t : Sig) (rows : List (List C)), rows = t.map eQ ∧ m = q.toNat ∧ 0 ≤ q ∧ q ≤ 2 ∧ SmallS t ∧ k ≤ k1 ∧ k1 + 8 * q ≤ k + 20 ∧
      σ = ⟨[(6, .one (.int .i64 q)), (5, .one (.op 3 0 0)), (4, .one (.op 2 0 0)), (3, .one (.op 1 0 0)), (0, .one (.op 0 0 0))], [oR bs k1, some ⟨1, [eG s], false, false, true⟩, some ⟨1, [[.fs []]], false, false, true⟩, some ⟨1, [[.fs rows]], false, false, true⟩], []⟩) (1 + z).toNat [6, 5, 4, 3, 0] [1, 2, 4] [3] rfl rfl
    ⟨_, k + 1, s, _, takeAll eQ _ _ rfl, by rw [hw], by rw [hw]; omega, by rw [hw]; omega, hs, by omega, by rw [hw]; omega, rfl⟩ ?_
  rintro m σ ⟨q, k1, t, rows, rfl, rfl, hq0, hq2, ht, hk1, hk2, rfl⟩
  have htl := ht.len
  have hwq : 0 < q → IntKind.i64.wrap (q - 1) = q - 1 := fun h => wrap64 (by omega) (by omega)
  refine rn rfl ?_
  refine goal_cond rfl (fun h => ?_) (fun h => ?_) <;> (try simp only [gt_iff_lt, ge_iff_le, bne_iff_ne, ne_eq, bne_eq_false_iff_eq, beq_iff_eq, beq_eq_false_iff_ne, Bool.not_eq_true', Bool.not_eq_false', decide_eq_true_eq, decide_eq_false_iff_not, List.length_map] at h)
  · have hwl : IntKind.i64.wrap (((t.map eQ).length : Int) + 1) = t.length + 1 := by rw [List.length_map, wrap64 (by omega) (by omega)]
    refine rn rfl ?_
    refine goal_step (step_callE [0] rfl rfl rfl rfl rfl rfl (rfl) (pick_ct bs k1 (IntKind.i64.wrap (((t.map eQ).length : Int) + 1)) hb (by omega) (by omega) (by rw [hwl]; omega))) ?_
    rintro σ2 ⟨r, o', ⟨⟨y, rfl, hy, _⟩, rfl⟩, hσ⟩
    obtain rfl := Option.some.inj hσ
    clear hσ
    refine rn rfl ?_
    have hy' : 0 ≤ y ∧ y ≤ t.length := by have := hy (by rw [hwl]; omega); rw [hwl] at this; omega
    obtain ⟨j, rfl⟩ : ∃ j : Nat, y = j := ⟨y.toNat, by omega⟩
    refine goal_step (step_call [] rfl rfl rfl rfl rfl rfl (copyParams_ct t (by omega))) ?_
    rintro σ2 ⟨r, o', ⟨rfl, rfl⟩, hσ⟩
    obtain rfl := Option.some.inj hσ
    clear hσ
    refine rt 8 rfl ?_
    refine goal_cutR (fun σ' => ∃ (u : Sig) (rows' : List (List C)) (k2 : Int), rows' = u.map eQ ∧ u.length ≤ 9 ∧ (∀ p ∈ u, p.name.length ≤ 7) ∧ k1 + 1 ≤ k2 ∧ k2 ≤ k1 + 7 ∧ σ' = ⟨[(8, .one (.op 4 0 0)), (6, .one (.int .i64 q)), (5, .one (.op 3 0 0)), (4, .one (.op 2 0 0)), (3, .one (.op 1 0 0)), (0, .one (.op 0 0 0))],
      [oR bs k2, some ⟨1, [eG s], false, false, true⟩, some ⟨1, [[.fs []]], false, false, true⟩, some ⟨1, [eG t], false, false, true⟩, some ⟨1, [[.fs rows']], false, false, true⟩], []⟩) ?_ ?_
    · by_cases hj : j < t.length
      · obtain ⟨p, hp⟩ := at_some (xs := t) (i := j) hj
        have hpn := ht.names p (List.mem_of_getElem? hp)
        refine rn rfl ?_
        refine goal_guard rfl rfl rfl (fun _ => ?_) (fun h0 => by exfalso; simp at h0; omega)
        refine rn rfl ?_
        refine goal_step (step_callE [0] rfl rfl rfl rfl rfl rfl (rfl) (pick_ct bs (k1 + 1) 3 hb (by omega) (by omega) (by omega))) ?_
        rintro σ2 ⟨r, o', ⟨⟨z1, rfl, _, _⟩, rfl⟩, hσ⟩
        obtain rfl := Option.some.inj hσ
        clear hσ
        refine rn rfl ?_
        refine goal_cond rfl (fun c1 => ?_) (fun c1 => ?_) <;> (try simp only [gt_iff_lt, ge_iff_le, bne_iff_ne, ne_eq, bne_eq_false_iff_eq, beq_iff_eq, beq_eq_false_iff_ne, Bool.not_eq_true', Bool.not_eq_false', decide_eq_true_eq, decide_eq_false_iff_not, List.length_map] at c1)
        · have hp' : (t.set j ⟨p.name, p.kind, !p.hasD, p.dflt⟩)[j]? = some ⟨p.name, p.kind, !p.hasD, p.dflt⟩ := by rw [List.getElem?_set_self hj]
          refine rn rfl ?_
          refine goal_drawL [4, 5] [12] 13 rfl ?_
          refine drnL [0, 1, 2, 3, 4, 5] (by kernel_rfl) (by kernel_rfl) rfl rfl ?_
          refine AHL_did 6 rfl (by kernel_rfl) (by kernel_rfl) (by kernel_rfl) (by kernel_rfl) rfl rfl (dA_indexOwn rfl rfl rfl rfl rfl rfl rfl rfl rfl (by omega) (by (try simp); omega)) ?_
          refine AHL_did 7 rfl (by kernel_rfl) (by kernel_rfl) (by kernel_rfl) (by kernel_rfl) rfl rfl (dA_step rfl) ?_
          refine AHL_did 8 rfl (by kernel_rfl) (by kernel_rfl) (by kernel_rfl) (by kernel_rfl) rfl rfl (dA_loadEl (eQ p) rfl rfl rfl rfl (map_at (by simpa using hp)) rfl rfl rfl) ?_
          refine drnL [9] (by kernel_rfl) (by kernel_rfl) rfl rfl ?_
          refine AHL_did 10 rfl (by kernel_rfl) (by kernel_rfl) (by kernel_rfl) (by kernel_rfl) rfl rfl (dA_indexOwn rfl rfl rfl rfl rfl rfl rfl rfl rfl (by omega) (by (try simp); omega)) ?_
          refine AHL_did 11 rfl (by kernel_rfl) (by kernel_rfl) (by kernel_rfl) (by kernel_rfl) rfl rfl (dA_step rfl) ?_
          refine AHL_lateDid 12 rfl (by kernel_rfl) rfl rfl (dA_storeEl (eQ p) (((t).set j ⟨p.name, p.kind, !p.hasD, p.dflt⟩).map eQ) true rfl rfl rfl rfl rfl (map_at (by simpa using hp)) rfl rfl (by simp [eQ]) (by rw [map_set]; simp [patch, eQ, constC]) (fun _ => noOwnR_map _ eQ_noOwn _)) ?_
          refine AH_end (by kernel_rfl) ?_
          refine rn rfl ?_
          refine rn rfl ?_
          refine goal_did rfl rfl (dA_indexOwn rfl rfl rfl rfl rfl rfl rfl rfl rfl (by omega) (by (try simp); omega)) ?_
          refine goal_did rfl rfl (dA_step rfl) ?_
          refine goal_did rfl rfl (dA_storeEl (eQ ⟨p.name, p.kind, !p.hasD, p.dflt⟩) (((t.set j ⟨p.name, p.kind, !p.hasD, p.dflt⟩).set j ⟨p.name, p.kind, !p.hasD, 0⟩).map eQ) true rfl rfl rfl rfl rfl (map_at (by simpa using hp')) rfl rfl (by simp [eQ]) (by rw [map_set]; simp [patch, eQ, constC]) (fun _ => noOwnR_map _ eQ_noOwn _)) ?_
          refine rn rfl ?_
          exact cut_nrmF [8, 6, 5, 4, 3, 0] [1, 2, 3, 5] [4] rfl rfl ⟨(t.set j ⟨p.name, p.kind, !p.hasD, p.dflt⟩).set j ⟨p.name, p.kind, !p.hasD, 0⟩, _, k1 + 1 + 1, takeAll eQ _ _ (by simp), by simp; omega, set2_small ht hpn, by omega, by omega, rfl⟩
        · refine rn rfl ?_
          refine goal_guard rfl rfl rfl (fun _ => ?_) (fun h0 => by exfalso; simp at h0; omega)
          refine rn rfl ?_
          refine goal_step (step_callE [0] rfl rfl rfl rfl rfl rfl (rfl) (pick_ct bs (k1 + 1 + 1) 3 hb (by omega) (by omega) (by omega))) ?_
          rintro σ2 ⟨r, o', ⟨⟨z2, rfl, _, _⟩, rfl⟩, hσ⟩
          obtain rfl := Option.some.inj hσ
          clear hσ
          refine rn rfl ?_
          refine goal_cond rfl (fun c2 => ?_) (fun c2 => ?_) <;> (try simp only [gt_iff_lt, ge_iff_le, bne_iff_ne, ne_eq, bne_eq_false_iff_eq, beq_iff_eq, beq_eq_false_iff_ne, Bool.not_eq_true', Bool.not_eq_false', decide_eq_true_eq, decide_eq_false_iff_not, List.length_map] at c2)
          · refine rn rfl ?_
            refine goal_draw' [5] 8 rfl ?_
            refine drn [0, 1, 2, 3] (by kernel_rfl) (by kernel_rfl) rfl rfl ?_
            refine AH_one (i := 4) (by kernel_rfl) (step_callE [0] rfl rfl rfl rfl rfl rfl (rfl) (pick_ct bs (k1 + 1 + 1 + 1) 5 hb (by omega) (by omega) (by omega))) (by simp) ?_
            rintro σ2 ⟨r, o', ⟨⟨w, rfl, _, _⟩, rfl⟩, hσ⟩
            obtain rfl := Option.some.inj hσ
            clear hσ
            refine AH_did 5 rfl (by kernel_rfl) (by kernel_rfl) (by kernel_rfl) rfl rfl (dA_indexOwn rfl rfl rfl rfl rfl rfl rfl rfl rfl (by omega) (by (try simp); omega)) ?_
            refine AH_did 6 rfl (by kernel_rfl) (by kernel_rfl) (by kernel_rfl) rfl rfl (dA_step rfl) ?_
            refine AH_oneDid 7 rfl (by kernel_rfl) rfl (dA_storeEl (eQ p) (((t).set j ⟨p.name, w, p.hasD, p.dflt⟩).map eQ) true rfl rfl rfl rfl rfl (map_at (by simpa using hp)) rfl rfl (by simp [eQ]) (by rw [map_set]; simp [patch, eQ, constC]) (fun _ => noOwnR_map _ eQ_noOwn _)) (mdOk rfl) ?_
            refine AH_end (by kernel_rfl) ?_
            refine rn rfl ?_
            exact cut_nrmF [8, 6, 5, 4, 3, 0] [1, 2, 3, 5] [4] rfl rfl ⟨t.set j ⟨p.name, w, p.hasD, p.dflt⟩, _, k1 + 1 + 1 + 1 + 1, takeAll eQ _ _ (by simp), by simp; omega, (small_set ht (by exact hpn)).names, by omega, by omega, rfl⟩
          · refine rn rfl ?_
            refine goal_guard rfl rfl rfl (fun _ => ?_) (fun h0 => by exfalso; simp at h0; omega)
            refine rn rfl ?_
            refine goal_step (step_callE [0] rfl rfl rfl rfl rfl rfl (rfl) (pick_ct bs (k1 + 1 + 1 + 1) 2 hb (by omega) (by omega) (by omega))) ?_
            rintro σ2 ⟨r, o', ⟨⟨z3, rfl, _, _⟩, rfl⟩, hσ⟩
            obtain rfl := Option.some.inj hσ
            clear hσ
            refine rn rfl ?_
            refine goal_cond rfl (fun c3 => ?_) (fun c3 => ?_) <;> (try simp only [gt_iff_lt, ge_iff_le, bne_iff_ne, ne_eq, bne_eq_false_iff_eq, beq_iff_eq, beq_eq_false_iff_ne, Bool.not_eq_true', Bool.not_eq_false', decide_eq_true_eq, decide_eq_false_iff_not, List.length_map] at c3)
            · refine rn rfl ?_
              refine goal_drawL [4, 5] [12] 13 rfl ?_
              refine drnL [0, 1, 2, 5, 6, 7, 8] (by kernel_rfl) (by kernel_rfl) rfl rfl ?_
              refine AHL_did 3 rfl (by kernel_rfl) (by kernel_rfl) (by kernel_rfl) (by kernel_rfl) rfl rfl (dA_sliceOwn 0 j t.length 0 j t.length rfl rfl rfl rfl rfl rfl rfl Bnd.none_ (Bnd.some_ rfl rfl) (.inl ⟨rfl, rfl⟩) (by omega) (by omega) (Nat.le_refl _) (by simp <;> omega) rfl (by omega) (by omega) (by omega)) ?_
              refine AHL_did 9 rfl (by kernel_rfl) (by kernel_rfl) (by kernel_rfl) (by kernel_rfl) rfl rfl (dA_sliceOwn (j + 1) t.length t.length (j + 1) (t.length - (j + 1)) (t.length - (j + 1)) rfl rfl rfl rfl rfl rfl rfl (Bnd.some_ rfl (by rw [wrap64 (by omega) (by omega)]; omega)) Bnd.none_ (.inl ⟨rfl, rfl⟩) (by omega) (by omega) (Nat.le_refl _) (by simp <;> omega) rfl (by omega) (by omega) (by omega)) ?_
              refine AHL_one (i := 4) (by kernel_rfl) rfl (step_lendE [] rfl rfl rfl rfl rfl rfl rfl (cons_eq (congrArg (fun x => T.one (C.fs x)) (by rw [List.drop_zero, List.map_take])) rfl) (copyParams_ct (t.take j) (by simp; omega)) (by rintro r o ⟨rfl, rfl⟩; exact ⟨rfl, oG_noFz' _⟩)) (by simp) ?_
              rintro σ2 ⟨r, o', ⟨rfl, rfl⟩, hσ⟩
              obtain rfl := Option.some.inj hσ
              clear hσ
              refine AHL_oneDid 10 rfl (by kernel_rfl) rfl rfl ((dA_append (old := (t.take j).map eQ) (rows := (t.drop (j + 1)).map eQ) ((t.take j ++ t.drop (j + 1)).map eQ) ((t.take j).length + (t.drop (j + 1)).length) true (Dst.own rfl rfl rfl rfl rfl (by simp <;> omega) (whole (by simp <;> omega))) (Src.os rfl rfl (by simp <;> omega) (tailRowsQ (by omega))) rfl rfl rfl rfl rfl rfl rfl rfl (rows_len eQ_len _) (rows_len eQ_len _) (by simp only [List.length_map, List.length_append, List.length_take, List.length_drop, List.length_cons, List.length_nil]; show _ * 40 ≤ _; omega) (by simp <;> omega) (by simp) (by simp <;> omega) (fun _ => noOwnR_map _ eQ_noOwn _))) (mdOk rfl) ?_
              refine drnL [11] (by kernel_rfl) (by kernel_rfl) rfl rfl ?_
              refine AHL_lateDid 12 rfl (by kernel_rfl) rfl rfl (dA_step rfl) ?_
              refine AH_end (by kernel_rfl) ?_
              refine rn rfl ?_
              exact cut_nrmF [8, 6, 5, 4, 3, 0] [1, 2, 3, 5] [7] rfl rfl ⟨t.take j ++ t.drop (j + 1), _, k1 + 1 + 1 + 1 + 1, takeAll eQ _ _ (by simp), by simp; omega, fun q hq => by
                rcases List.mem_append.1 hq with hq | hq
                · exact ht.names q (List.mem_of_mem_take hq)
                · exact ht.names q (List.mem_of_mem_drop hq), by omega, by omega, rfl⟩
            · refine rn rfl ?_
              refine goal_drawL [4, 5] [19] 20 rfl ?_
              refine drnL [0, 1, 2, 5, 8, 13, 14, 15] (by kernel_rfl) (by kernel_rfl) rfl rfl ?_
              refine AHL_did 3 rfl (by kernel_rfl) (by kernel_rfl) (by kernel_rfl) (by kernel_rfl) rfl rfl (dA_sliceOwn 0 j t.length 0 j t.length rfl rfl rfl rfl rfl rfl rfl Bnd.none_ (Bnd.some_ rfl rfl) (.inl ⟨rfl, rfl⟩) (by omega) (by omega) (Nat.le_refl _) (by simp <;> omega) rfl (by omega) (by omega) (by omega)) ?_
              refine AHL_did 16 rfl (by kernel_rfl) (by kernel_rfl) (by kernel_rfl) (by kernel_rfl) rfl rfl (dA_sliceOwn j t.length t.length j (t.length - j) (t.length - j) rfl rfl rfl rfl rfl rfl rfl (Bnd.some_ rfl rfl) Bnd.none_ (.inl ⟨rfl, rfl⟩) (by omega) (by omega) (Nat.le_refl _) (by simp <;> omega) rfl (by omega) (by omega) (by omega)) ?_
              refine AHL_two (i := 4) (j := 6) (by kernel_rfl) rfl rfl (step_lendE [] rfl rfl rfl rfl rfl rfl rfl (cons_eq (congrArg (fun x => T.one (C.fs x)) (by rw [List.drop_zero, List.map_take])) rfl) (copyParams_ct (t.take j) (by simp; omega)) (by rintro r o ⟨rfl, rfl⟩; exact ⟨rfl, oG_noFz' _⟩)) (by simp) (step_did rfl rfl (dA_step rfl)) (mdOk rfl) ?_ ?_
              · rintro σ2 ⟨r, o', ⟨rfl, rfl⟩, hσ⟩
                obtain rfl := Option.some.inj hσ
                clear hσ
                refine AHL_oneDid 6 rfl (by kernel_rfl) rfl rfl (dA_step rfl) (mdOk rfl) ?_
                refine AHL_one (i := 7) (by kernel_rfl) rfl (step_callE [0] rfl rfl rfl rfl rfl rfl (rfl) (of_ct bs (k1 + 1 + 1 + 1 + 1) [[122], [119], [109]] hb (by omega) (by omega) (by decide) (by decide))) (by simp) ?_
                rintro σ2 ⟨r, o', ⟨⟨nm, hnm, rfl⟩, rfl⟩, hσ⟩
                obtain rfl := Option.some.inj hσ
                clear hσ
                refine AHL_one (i := 9) (by kernel_rfl) rfl (step_callE [0] rfl rfl rfl rfl rfl rfl (rfl) (pick_ct bs (k1 + 1 + 1 + 1 + 1 + 1) 5 hb (by omega) (by omega) (by omega))) (by simp) ?_
                rintro σ2 ⟨r, o', ⟨⟨w, rfl, _, _⟩, rfl⟩, hσ⟩
                obtain rfl := Option.some.inj hσ
                clear hσ
                refine drnL [10] (by kernel_rfl) (by kernel_rfl) rfl rfl ?_
                refine AHL_oneDid 11 rfl (by kernel_rfl) rfl rfl (dA_step rfl) (mdOk rfl) ?_
                refine AHL_oneDid 12 rfl (by kernel_rfl) rfl rfl (dA_append (old := (t.take j).map eQ) (rows := ([⟨nm, w, false, 0⟩] : List Param).map eQ) (((t.take j) ++ ([⟨nm, w, false, 0⟩] : List Param)).map eQ) ((t.take j).length + 1) true (Dst.own rfl rfl rfl rfl rfl (by first | (simp; done) | (simp; omega)) (whole (by first | (simp; done) | (simp; omega)))) (Src.os rfl rfl (Nat.le_refl 1) rfl) rfl rfl rfl rfl rfl rfl rfl rfl (rows_len eQ_len _) (rows_len eQ_len _) (by (try simp only [List.length_map, List.length_append, List.length_cons, List.length_nil, List.length_take, List.length_drop]); show _ * 40 ≤ _; omega) (by first | (simp; done) | (simp; omega)) (by simp) (by first | (simp; done) | (simp; omega)) (fun _ => noOwnR_map _ eQ_noOwn _)) (mdOk rfl) ?_
                refine AHL_oneDid 17 rfl (by kernel_rfl) rfl rfl ((dA_append (old := (t.take j ++ [(⟨nm, w, false, 0⟩ : Param)]).map eQ) (rows := (t.drop j).map eQ) ((t.take j ++ [(⟨nm, w, false, 0⟩ : Param)] ++ t.drop j).map eQ) (t.length + 1) true (Dst.own rfl rfl rfl rfl rfl (by simp <;> omega) (whole (by simp <;> omega))) (Src.os rfl rfl (by simp <;> omega) (tailRowsQ (by omega))) rfl rfl rfl rfl rfl rfl rfl rfl (rows_len eQ_len _) (rows_len eQ_len _) (by simp only [List.length_map, List.length_append, List.length_take, List.length_drop, List.length_cons, List.length_nil]; show _ * 40 ≤ _; omega) (by simp <;> omega) (by simp) (by simp <;> omega) (fun _ => noOwnR_map _ eQ_noOwn _))) (mdOk rfl) ?_
                refine drnL [18] (by kernel_rfl) (by kernel_rfl) rfl rfl ?_
                refine AHL_lateDid 19 rfl (by kernel_rfl) rfl rfl (dA_step rfl) ?_
                refine AH_end (by kernel_rfl) ?_
                refine rn rfl ?_
                exact cut_nrmF [8, 6, 5, 4, 3, 0] [1, 2, 3, 5] [10] rfl rfl ⟨t.take j ++ [⟨nm, w, false, 0⟩] ++ t.drop j, _, k1 + 1 + 1 + 1 + 1 + 1 + 1, takeAll eQ _ _ (by simp; omega), by simp; omega, ins_small ht hnm, by omega, by omega, rfl⟩
              · rintro _ rfl
                refine AHL_one (i := 4) (by kernel_rfl) rfl (step_lendE [] rfl rfl rfl rfl rfl rfl rfl (cons_eq (congrArg (fun x => T.one (C.fs x)) (by rw [List.drop_zero, List.map_take])) rfl) (copyParams_ct (t.take j) (by simp; omega)) (by rintro r o ⟨rfl, rfl⟩; exact ⟨rfl, oG_noFz' _⟩)) (by simp) ?_
                rintro σ2 ⟨r, o', ⟨rfl, rfl⟩, hσ⟩
                obtain rfl := Option.some.inj hσ
                clear hσ
                refine AHL_one (i := 7) (by kernel_rfl) rfl (step_callE [0] rfl rfl rfl rfl rfl rfl (rfl) (of_ct bs (k1 + 1 + 1 + 1 + 1) [[122], [119], [109]] hb (by omega) (by omega) (by decide) (by decide))) (by simp) ?_
                rintro σ2 ⟨r, o', ⟨⟨nm, hnm, rfl⟩, rfl⟩, hσ⟩
                obtain rfl := Option.some.inj hσ
                clear hσ
                refine AHL_one (i := 9) (by kernel_rfl) rfl (step_callE [0] rfl rfl rfl rfl rfl rfl (rfl) (pick_ct bs (k1 + 1 + 1 + 1 + 1 + 1) 5 hb (by omega) (by omega) (by omega))) (by simp) ?_
                rintro σ2 ⟨r, o', ⟨⟨w, rfl, _, _⟩, rfl⟩, hσ⟩
                obtain rfl := Option.some.inj hσ
                clear hσ
                refine drnL [10] (by kernel_rfl) (by kernel_rfl) rfl rfl ?_
                refine AHL_oneDid 11 rfl (by kernel_rfl) rfl rfl (dA_step rfl) (mdOk rfl) ?_
                refine AHL_oneDid 12 rfl (by kernel_rfl) rfl rfl (dA_append (old := (t.take j).map eQ) (rows := ([⟨nm, w, false, 0⟩] : List Param).map eQ) (((t.take j) ++ ([⟨nm, w, false, 0⟩] : List Param)).map eQ) ((t.take j).length + 1) true (Dst.own rfl rfl rfl rfl rfl (by first | (simp; done) | (simp; omega)) (whole (by first | (simp; done) | (simp; omega)))) (Src.os rfl rfl (Nat.le_refl 1) rfl) rfl rfl rfl rfl rfl rfl rfl rfl (rows_len eQ_len _) (rows_len eQ_len _) (by (try simp only [List.length_map, List.length_append, List.length_cons, List.length_nil, List.length_take, List.length_drop]); show _ * 40 ≤ _; omega) (by first | (simp; done) | (simp; omega)) (by simp) (by first | (simp; done) | (simp; omega)) (fun _ => noOwnR_map _ eQ_noOwn _)) (mdOk rfl) ?_
                refine AHL_oneDid 17 rfl (by kernel_rfl) rfl rfl ((dA_append (old := (t.take j ++ [(⟨nm, w, false, 0⟩ : Param)]).map eQ) (rows := (t.drop j).map eQ) ((t.take j ++ [(⟨nm, w, false, 0⟩ : Param)] ++ t.drop j).map eQ) (t.length + 1) true (Dst.own rfl rfl rfl rfl rfl (by simp <;> omega) (whole (by simp <;> omega))) (Src.os rfl rfl (by simp <;> omega) (tailRowsQ (by omega))) rfl rfl rfl rfl rfl rfl rfl rfl (rows_len eQ_len _) (rows_len eQ_len _) (by simp only [List.length_map, List.length_append, List.length_take, List.length_drop, List.length_cons, List.length_nil]; show _ * 40 ≤ _; omega) (by simp <;> omega) (by simp) (by simp <;> omega) (fun _ => noOwnR_map _ eQ_noOwn _))) (mdOk rfl) ?_
                refine drnL [18] (by kernel_rfl) (by kernel_rfl) rfl rfl ?_
                refine AHL_lateDid 19 rfl (by kernel_rfl) rfl rfl (dA_step rfl) ?_
                refine AH_end (by kernel_rfl) ?_
                refine rn rfl ?_
                exact cut_nrmF [8, 6, 5, 4, 3, 0] [1, 2, 3, 5] [10] rfl rfl ⟨t.take j ++ [⟨nm, w, false, 0⟩] ++ t.drop j, _, k1 + 1 + 1 + 1 + 1 + 1 + 1, takeAll eQ _ _ (by simp; omega), by simp; omega, ins_small ht hnm, by omega, by omega, rfl⟩
      · have hjl : j = t.length := by omega
        refine rn rfl ?_
        refine goal_guard rfl rfl rfl (fun h0 => by exfalso; simp at h0; omega) (fun _ => ?_)
        refine rn rfl ?_
        refine goal_guard rfl rfl rfl (fun h0 => by exfalso; simp at h0; omega) (fun _ => ?_)
        refine rn rfl ?_
        refine goal_guard rfl rfl rfl (fun h0 => by exfalso; simp at h0; omega) (fun _ => ?_)
        refine rn rfl ?_
        refine goal_drawL [4, 5] [19] 20 rfl ?_
        refine drnL [0, 1, 2, 5, 8, 13, 14, 15] (by kernel_rfl) (by kernel_rfl) rfl rfl ?_
        refine AHL_did 3 rfl (by kernel_rfl) (by kernel_rfl) (by kernel_rfl) (by kernel_rfl) rfl rfl (dA_sliceOwn 0 j t.length 0 j t.length rfl rfl rfl rfl rfl rfl rfl Bnd.none_ (Bnd.some_ rfl rfl) (.inl ⟨rfl, rfl⟩) (by omega) (by omega) (Nat.le_refl _) (by simp <;> omega) rfl (by omega) (by omega) (by omega)) ?_
        refine AHL_did 16 rfl (by kernel_rfl) (by kernel_rfl) (by kernel_rfl) (by kernel_rfl) rfl rfl (dA_sliceOwn j t.length t.length j (t.length - j) (t.length - j) rfl rfl rfl rfl rfl rfl rfl (Bnd.some_ rfl rfl) Bnd.none_ (.inl ⟨rfl, rfl⟩) (by omega) (by omega) (Nat.le_refl _) (by simp <;> omega) rfl (by omega) (by omega) (by omega)) ?_
        refine AHL_two (i := 4) (j := 6) (by kernel_rfl) rfl rfl (step_lendE [] rfl rfl rfl rfl rfl rfl rfl (cons_eq (congrArg (fun x => T.one (C.fs x)) (by rw [List.drop_zero, List.map_take])) rfl) (copyParams_ct (t.take j) (by simp; omega)) (by rintro r o ⟨rfl, rfl⟩; exact ⟨rfl, oG_noFz' _⟩)) (by simp) (step_did rfl rfl (dA_step rfl)) (mdOk rfl) ?_ ?_
        · rintro σ2 ⟨r, o', ⟨rfl, rfl⟩, hσ⟩
          obtain rfl := Option.some.inj hσ
          clear hσ
          refine AHL_oneDid 6 rfl (by kernel_rfl) rfl rfl (dA_step rfl) (mdOk rfl) ?_
          refine AHL_one (i := 7) (by kernel_rfl) rfl (step_callE [0] rfl rfl rfl rfl rfl rfl (rfl) (of_ct bs (k1 + 1) [[122], [119], [109]] hb (by omega) (by omega) (by decide) (by decide))) (by simp) ?_
          rintro σ2 ⟨r, o', ⟨⟨nm, hnm, rfl⟩, rfl⟩, hσ⟩
          obtain rfl := Option.some.inj hσ
          clear hσ
          refine AHL_one (i := 9) (by kernel_rfl) rfl (step_callE [0] rfl rfl rfl rfl rfl rfl (rfl) (pick_ct bs (k1 + 1 + 1) 5 hb (by omega) (by omega) (by omega))) (by simp) ?_
          rintro σ2 ⟨r, o', ⟨⟨w, rfl, _, _⟩, rfl⟩, hσ⟩
          obtain rfl := Option.some.inj hσ
          clear hσ
          refine drnL [10] (by kernel_rfl) (by kernel_rfl) rfl rfl ?_
          refine AHL_oneDid 11 rfl (by kernel_rfl) rfl rfl (dA_step rfl) (mdOk rfl) ?_
          refine AHL_oneDid 12 rfl (by kernel_rfl) rfl rfl (dA_append (old := (t.take j).map eQ) (rows := ([⟨nm, w, false, 0⟩] : List Param).map eQ) (((t.take j) ++ ([⟨nm, w, false, 0⟩] : List Param)).map eQ) ((t.take j).length + 1) true (Dst.own rfl rfl rfl rfl rfl (by first | (simp; done) | (simp; omega)) (whole (by first | (simp; done) | (simp; omega)))) (Src.os rfl rfl (Nat.le_refl 1) rfl) rfl rfl rfl rfl rfl rfl rfl rfl (rows_len eQ_len _) (rows_len eQ_len _) (by (try simp only [List.length_map, List.length_append, List.length_cons, List.length_nil, List.length_take, List.length_drop]); show _ * 40 ≤ _; omega) (by first | (simp; done) | (simp; omega)) (by simp) (by first | (simp; done) | (simp; omega)) (fun _ => noOwnR_map _ eQ_noOwn _)) (mdOk rfl) ?_
          refine AHL_oneDid 17 rfl (by kernel_rfl) rfl rfl ((dA_append (old := (t.take j ++ [(⟨nm, w, false, 0⟩ : Param)]).map eQ) (rows := (t.drop j).map eQ) ((t.take j ++ [(⟨nm, w, false, 0⟩ : Param)] ++ t.drop j).map eQ) (t.length + 1) true (Dst.own rfl rfl rfl rfl rfl (by simp <;> omega) (whole (by simp <;> omega))) (Src.os rfl rfl (by simp <;> omega) (tailRowsQ (by omega))) rfl rfl rfl rfl rfl rfl rfl rfl (rows_len eQ_len _) (rows_len eQ_len _) (by simp only [List.length_map, List.length_append, List.length_take, List.length_drop, List.length_cons, List.length_nil]; show _ * 40 ≤ _; omega) (by simp <;> omega) (by simp) (by simp <;> omega) (fun _ => noOwnR_map _ eQ_noOwn _))) (mdOk rfl) ?_
          refine drnL [18] (by kernel_rfl) (by kernel_rfl) rfl rfl ?_
          refine AHL_lateDid 19 rfl (by kernel_rfl) rfl rfl (dA_step rfl) ?_
          refine AH_end (by kernel_rfl) ?_
          refine rn rfl ?_
          exact cut_nrmF [8, 6, 5, 4, 3, 0] [1, 2, 3, 5] [10] rfl rfl ⟨t.take j ++ [⟨nm, w, false, 0⟩] ++ t.drop j, _, k1 + 1 + 1 + 1, takeAll eQ _ _ (by simp; omega), by simp; omega, ins_small ht hnm, by omega, by omega, rfl⟩
        · rintro _ rfl
          refine AHL_one (i := 4) (by kernel_rfl) rfl (step_lendE [] rfl rfl rfl rfl rfl rfl rfl (cons_eq (congrArg (fun x => T.one (C.fs x)) (by rw [List.drop_zero, List.map_take])) rfl) (copyParams_ct (t.take j) (by simp; omega)) (by rintro r o ⟨rfl, rfl⟩; exact ⟨rfl, oG_noFz' _⟩)) (by simp) ?_
          rintro σ2 ⟨r, o', ⟨rfl, rfl⟩, hσ⟩
          obtain rfl := Option.some.inj hσ
          clear hσ
          refine AHL_one (i := 7) (by kernel_rfl) rfl (step_callE [0] rfl rfl rfl rfl rfl rfl (rfl) (of_ct bs (k1 + 1) [[122], [119], [109]] hb (by omega) (by omega) (by decide) (by decide))) (by simp) ?_
          rintro σ2 ⟨r, o', ⟨⟨nm, hnm, rfl⟩, rfl⟩, hσ⟩
          obtain rfl := Option.some.inj hσ
          clear hσ
          refine AHL_one (i := 9) (by kernel_rfl) rfl (step_callE [0] rfl rfl rfl rfl rfl rfl (rfl) (pick_ct bs (k1 + 1 + 1) 5 hb (by omega) (by omega) (by omega))) (by simp) ?_
          rintro σ2 ⟨r, o', ⟨⟨w, rfl, _, _⟩, rfl⟩, hσ⟩
          obtain rfl := Option.some.inj hσ
          clear hσ
          refine drnL [10] (by kernel_rfl) (by kernel_rfl) rfl rfl ?_
          refine AHL_oneDid 11 rfl (by kernel_rfl) rfl rfl (dA_step rfl) (mdOk rfl) ?_
          refine AHL_oneDid 12 rfl (by kernel_rfl) rfl rfl (dA_append (old := (t.take j).map eQ) (rows := ([⟨nm, w, false, 0⟩] : List Param).map eQ) (((t.take j) ++ ([⟨nm, w, false, 0⟩] : List Param)).map eQ) ((t.take j).length + 1) true (Dst.own rfl rfl rfl rfl rfl (by first | (simp; done) | (simp; omega)) (whole (by first | (simp; done) | (simp; omega)))) (Src.os rfl rfl (Nat.le_refl 1) rfl) rfl rfl rfl rfl rfl rfl rfl rfl (rows_len eQ_len _) (rows_len eQ_len _) (by (try simp only [List.length_map, List.length_append, List.length_cons, List.length_nil, List.length_take, List.length_drop]); show _ * 40 ≤ _; omega) (by first | (simp; done) | (simp; omega)) (by simp) (by first | (simp; done) | (simp; omega)) (fun _ => noOwnR_map _ eQ_noOwn _)) (mdOk rfl) ?_
          refine AHL_oneDid 17 rfl (by kernel_rfl) rfl rfl ((dA_append (old := (t.take j ++ [(⟨nm, w, false, 0⟩ : Param)]).map eQ) (rows := (t.drop j).map eQ) ((t.take j ++ [(⟨nm, w, false, 0⟩ : Param)] ++ t.drop j).map eQ) (t.length + 1) true (Dst.own rfl rfl rfl rfl rfl (by simp <;> omega) (whole (by simp <;> omega))) (Src.os rfl rfl (by simp <;> omega) (tailRowsQ (by omega))) rfl rfl rfl rfl rfl rfl rfl rfl (rows_len eQ_len _) (rows_len eQ_len _) (by simp only [List.length_map, List.length_append, List.length_take, List.length_drop, List.length_cons, List.length_nil]; show _ * 40 ≤ _; omega) (by simp <;> omega) (by simp) (by simp <;> omega) (fun _ => noOwnR_map _ eQ_noOwn _))) (mdOk rfl) ?_
          refine drnL [18] (by kernel_rfl) (by kernel_rfl) rfl rfl ?_
          refine AHL_lateDid 19 rfl (by kernel_rfl) rfl rfl (dA_step rfl) ?_
          refine AH_end (by kernel_rfl) ?_
          refine rn rfl ?_
          exact cut_nrmF [8, 6, 5, 4, 3, 0] [1, 2, 3, 5] [10] rfl rfl ⟨t.take j ++ [⟨nm, w, false, 0⟩] ++ t.drop j, _, k1 + 1 + 1 + 1, takeAll eQ _ _ (by simp; omega), by simp; omega, ins_small ht hnm, by omega, by omega, rfl⟩
    rintro _ ⟨u, rows', k2, rfl, hul, hun, hk3, hk4, rfl⟩
    refine rn rfl ?_
    refine goal_step (step_call [] rfl rfl rfl rfl rfl rfl (svalidSig_ct u (by omega) (fun p hp => by have := hun p hp; omega))) ?_
    rintro σ2 ⟨r, o', ⟨rfl, rfl⟩, hσ⟩
    obtain rfl := Option.some.inj hσ
    clear hσ
    refine rn rfl ?_
    refine goal_cond rfl (fun hv => ?_) (fun hv => ?_) <;> (try simp only [gt_iff_lt, ge_iff_le, bne_iff_ne, ne_eq, bne_eq_false_iff_eq, beq_iff_eq, beq_eq_false_iff_ne, Bool.not_eq_true', Bool.not_eq_false', decide_eq_true_eq, decide_eq_false_iff_not, List.length_map] at hv)
    · have hu := (okSig_iff.1 hv).small
      refine rn rfl ?_
      refine round_keep (q - 1).toNat [6, 5, 4, 3, 0] [1, 2, 3] (by omega) rfl ⟨_, k2, u, _, rfl, by rw [hwq (by omega)], by rw [hwq (by omega)]; omega, by rw [hwq (by omega)]; omega, hu, by omega, by rw [hwq (by omega)]; omega, rfl⟩
    · refine rn rfl ?_
      refine round_keep (q - 1).toNat [6, 5, 4, 3, 0] [1, 2, 3] (by omega) rfl ⟨_, k2, t, _, rfl, by rw [hwq (by omega)], by rw [hwq (by omega)]; omega, by rw [hwq (by omega)]; omega, ht, by omega, by rw [hwq (by omega)]; omega, rfl⟩
  · refine rn rfl (round_ext ?_)
    exact rn rfl (fin_is [] rfl ⟨t, k1, ht, by omega, by omega, rfl, rfl⟩)

def kd1 (to : Int) (p : Param) : Param := if p.kind = 1 then ⟨p.name, to, p.hasD, p.dflt⟩ else p

def kdQ (to : Int) (s : Sig) : Sig := s.map (kd1 to)

theorem kd_name (to : Int) (p : Param) : (kd1 to p).name = p.name := by unfold kd1; split <;> rfl

theorem kd_mem {to : Int} {s : Sig} {q : Param} (h : q ∈ kdQ to s) : ∃ p ∈ s, q = kd1 to p := by
  obtain ⟨p, h1, h2⟩ := List.mem_map.1 h
  exact ⟨p, h1, h2.symm⟩

theorem kd_len (to : Int) (s : Sig) : (kdQ to s).length = s.length := by simp [kdQ]

def PlacesOnlyF (s : Sig) : Sig := if okSig s then kdQ 0 s else []

theorem kd_step {to : Int} {s ys : Sig} {i : Nat} {p : Param} (hys : ys = kdQ to (s.take i) ++ s.drop i) (hi : i ≤ s.length) (hp : s[i]? = some p) : ys[i]? = some p ∧ ys.length = s.length ∧ kdQ to (s.take (i + 1)) ++ s.drop (i + 1) = ys.set i (kd1 to p) := by
  have hil := lt_of_some hp
  have e : (kdQ to (s.take i)).length = i := by rw [kd_len, List.length_take]; omega
  refine ⟨?_, ?_, ?_⟩
  · rw [hys, List.getElem?_append_right (by omega), e, Nat.sub_self, List.getElem?_drop, Nat.add_zero]; exact hp
  · rw [hys, List.length_append, e, List.length_drop]; omega
  · rw [hys, drop_at hp, List.set_append, if_neg (by omega), e, Nat.sub_self, ← take_snoc hp]
    simp [kdQ]

theorem sPlacesOnly_ct (s : Sig) (hl : LenS s) : ACalls pk 59 [.agg (eG s)] [] (fun r o => r = .agg (eG (PlacesOnlyF s)) ∧ o = []) := by
  obtain ⟨s1, s2⟩ := hl
  refine acalls_of_body Tryz.func59 rfl (by kernel_rfl) rfl ?_
  refine rn rfl ?_
  refine goal_step (step_call [] rfl rfl rfl rfl rfl rfl (svalidSig_ct s (by omega) s2)) ?_
  rintro σ2 ⟨r, o', ⟨rfl, rfl⟩, hσ⟩
  obtain rfl := Option.some.inj hσ
  clear hσ
  refine rn rfl ?_
  refine goal_cond rfl (fun h => ?_) (fun h => ?_) <;> (try simp only [gt_iff_lt, ge_iff_le, bne_iff_ne, ne_eq, bne_eq_false_iff_eq, beq_iff_eq, beq_eq_false_iff_ne, Bool.not_eq_true', Bool.not_eq_false', decide_eq_true_eq, decide_eq_false_iff_not, List.length_map] at h)
  · refine rn rfl (fin_is [] rfl ⟨?_, rfl⟩)
    simp [PlacesOnlyF, h]; rfl
  have hs := okSig_iff.1 h
  have hsl := hs.len
  have e : PlacesOnlyF s = kdQ 0 s := by unfold PlacesOnlyF; rw [h]; rfl
  rw [e]
  refine rn rfl ?_
  refine goal_step (step_call [] rfl rfl rfl rfl rfl rfl (copyParams_ct s (by omega))) ?_
  rintro σ2 ⟨r, o', ⟨rfl, rfl⟩, hσ⟩
  obtain rfl := Option.some.inj hσ
  clear hσ
  refine rn rfl ?_
  refine goal_loop_keep (fun m σ => ∃ (q : Int) (i n : Nat) (ys : List Param), q = i ∧ n = s.length ∧ i ≤ s.length ∧ m = s.length - i ∧ ys = kdQ 0 (s.take i) ++ s.drop i ∧
      σ = ⟨[(4, .one (.int .i64 q)), (3, .one (.os 1 0 n n)), (2, .one (.op 0 0 0))],
        [some ⟨1, [[.fs []]], false, false, true⟩, ownQ ys], []⟩) s.length [4, 3, 2] [1, 2] rfl
    ⟨_, 0, _, s, rfl, rfl, by omega, by omega, by simp [kdQ], rfl⟩ ?_
  rintro m σ ⟨q, i, n, ys, rfl, rfl, hi, rfl, hys, rfl⟩
  refine rn rfl ?_
  refine goal_cond rfl (fun hc => ?_) (fun hc => ?_) <;> (try simp only [gt_iff_lt, ge_iff_le, bne_iff_ne, ne_eq, bne_eq_false_iff_eq, beq_iff_eq, beq_eq_false_iff_ne, Bool.not_eq_true', Bool.not_eq_false', decide_eq_true_eq, decide_eq_false_iff_not, List.length_map] at hc)
  · obtain ⟨p, hp⟩ := at_some (xs := s) (i := i) (by omega)
    obtain ⟨hyp, hyl, hnext⟩ := kd_step hys hi hp
    refine rn rfl ?_
    refine goal_did rfl rfl (dA_indexOwn rfl rfl rfl rfl rfl rfl rfl rfl rfl (by omega) (by omega)) ?_
    refine goal_did rfl rfl (dA_step rfl) ?_
    refine goal_did rfl rfl (dA_loadEl (eQ p) rfl rfl rfl rfl (map_at (by simpa using hyp)) rfl rfl rfl) ?_
    refine rn rfl ?_
    refine goal_cond rfl (fun h1 => ?_) (fun h1 => ?_) <;> (try simp only [gt_iff_lt, ge_iff_le, bne_iff_ne, ne_eq, bne_eq_false_iff_eq, beq_iff_eq, beq_eq_false_iff_ne, Bool.not_eq_true', Bool.not_eq_false', decide_eq_true_eq, decide_eq_false_iff_not, List.length_map] at h1)
    · have e1 : kd1 0 p = ⟨p.name, 0, p.hasD, p.dflt⟩ := by simp [kd1, h1]
      refine rn rfl ?_
      refine goal_did rfl rfl (dA_indexOwn rfl rfl rfl rfl rfl rfl rfl rfl rfl (by omega) (by omega)) ?_
      refine goal_did rfl rfl (dA_step rfl) ?_
      refine goal_did rfl rfl (dA_storeEl (eQ p) ((ys.set i (kd1 0 p)).map eQ) true rfl rfl rfl rfl rfl (map_at (by simpa using hyp)) rfl rfl (by simp [eQ]) (by rw [map_set, e1]; simp [patch, eQ]; rfl) (fun _ => noOwnR_map _ eQ_noOwn _)) ?_
      refine rn rfl ?_
      refine round_keep (s.length - (i + 1)) [4, 3, 2] [0, 1] (by omega) rfl ⟨_, i + 1, _, ys.set i (kd1 0 p), wrap64 (by omega) (by omega), rfl, by omega, rfl, hnext.symm, rfl⟩
    · have e1 : kd1 0 p = p := by simp [kd1, h1]
      rw [e1, set_same hyp] at hnext
      refine rn rfl ?_
      refine round_keep (s.length - (i + 1)) [4, 3, 2] [0, 1] (by omega) rfl ⟨_, i + 1, _, ys, wrap64 (by omega) (by omega), rfl, by omega, rfl, hnext.symm, rfl⟩
  · refine rn rfl ?_
    refine round_ext ?_
    have hfin : ys = kdQ 0 s := by rw [hys, show i = s.length by omega]; simp
    rw [hfin]
    refine rn rfl (fin_is [] rfl ⟨?_, rfl⟩)
    exact congrArg (fun x => T.agg [C.fs x]) (takeAll eQ (kdQ 0 s) s.length (kd_len 0 s))

theorem kd_lenS {to : Int} {s : Sig} (h : LenS s) : LenS (kdQ to s) := ⟨by rw [kd_len]; exact h.params, fun q hq => by
  obtain ⟨p, hp, rfl⟩ := kd_mem hq
  rw [kd_name]; exact h.names p hp⟩

theorem drawAdapt_ct (bs : Str) : ACalls pk 15 [.one (.fs (bs.map rowB))] [] (fun r o => ∃ old s f, LenS old ∧ LenS s ∧ MidF f 24 9 ∧ r = .tup [.agg (eG old), .agg (eG s), .agg (eF f)] ∧ o = []) := by
  have hb : (bs.take 2000).length ≤ 2000 := by simp; omega
  refine acalls_of_body Tryz.func15 rfl (by kernel_rfl) rfl ?_
  refine rn rfl ?_
  refine goal_step (step_call [] rfl rfl rfl rfl rfl rfl (newReader_ct bs)) ?_
  rintro σ2 ⟨r, o', ⟨rfl, rfl⟩, hσ⟩
  obtain rfl := Option.some.inj hσ
  clear hσ
  refine rn rfl ?_
  refine goal_step (step_callE [3] rfl rfl rfl rfl rfl rfl rfl (signatureCall_ct (bs.take 2000) 0 hb (by omega) (by omega))) ?_
  rintro σ2 ⟨r, o', ⟨s, f, k1, hs, hf, hk1, hk2, rfl, rfl⟩, hσ⟩
  obtain rfl := Option.some.inj hσ
  clear hσ
  have lp : LenS (PlacesOnlyF s) := by
    unfold PlacesOnlyF
    split
    · exact kd_lenS hs.lens
    · exact ⟨by simp, by simp⟩
  refine rn rfl ?_
  refine goal_step (step_call [] rfl rfl rfl rfl rfl rfl (svalidSig_ct s (by have := hs.len; omega) hs.lens.names)) ?_
  rintro σ2 ⟨r, o', ⟨rfl, rfl⟩, hσ⟩
  obtain rfl := Option.some.inj hσ
  clear hσ
  refine rn rfl ?_
  refine goal_guard rfl rfl rfl (fun h => ?_) (fun h => ?_) <;> (try simp only [gt_iff_lt, ge_iff_le, bne_iff_ne, ne_eq, bne_eq_false_iff_eq, beq_iff_eq, beq_eq_false_iff_ne, Bool.not_eq_true', Bool.not_eq_false', decide_eq_true_eq, decide_eq_false_iff_not, List.length_map] at h)
  · refine rn rfl ?_
    refine goal_step (step_callE [3] rfl rfl rfl rfl rfl rfl (rfl) (pick_ct (bs.take 2000) k1 3 hb (by omega) (by omega) (by omega))) ?_
    rintro σ2 ⟨r, o', ⟨⟨z, rfl, _, _⟩, rfl⟩, hσ⟩
    obtain rfl := Option.some.inj hσ
    clear hσ
    refine rn rfl ?_
    refine goal_cond rfl (fun h2 => ?_) (fun h2 => ?_) <;> (try simp only [gt_iff_lt, ge_iff_le, bne_iff_ne, ne_eq, bne_eq_false_iff_eq, beq_iff_eq, beq_eq_false_iff_ne, Bool.not_eq_true', Bool.not_eq_false', decide_eq_true_eq, decide_eq_false_iff_not, List.length_map] at h2)
    · refine rn rfl ?_
      refine goal_step (step_callE [3] rfl rfl rfl rfl rfl rfl (rfl) (pick_ct (bs.take 2000) (k1 + 1) 3 hb (by omega) (by omega) (by omega))) ?_
      rintro σ2 ⟨r, o', ⟨⟨z2, rfl, _, _⟩, rfl⟩, hσ⟩
      obtain rfl := Option.some.inj hσ
      clear hσ
      refine rn rfl ?_
      refine goal_cond rfl (fun h3 => ?_) (fun h3 => ?_) <;> (try simp only [gt_iff_lt, ge_iff_le, bne_iff_ne, ne_eq, bne_eq_false_iff_eq, beq_iff_eq, beq_eq_false_iff_ne, Bool.not_eq_true', Bool.not_eq_false', decide_eq_true_eq, decide_eq_false_iff_not, List.length_map] at h3)
      · refine rn rfl ?_
        refine goal_draw' [4, 5] 7 rfl ?_
        refine drn [0, 1, 3] (by kernel_rfl) (by kernel_rfl) rfl rfl ?_
        refine AH_one (i := 2) (by kernel_rfl) (step_call [] rfl rfl rfl rfl rfl rfl (sPlacesOnly_ct s hs.lens)) (by simp) ?_
        rintro σ2 ⟨r, o', ⟨rfl, rfl⟩, hσ⟩
        obtain rfl := Option.some.inj hσ
        clear hσ
        refine AH_oneDid 4 rfl (by kernel_rfl) rfl (dA_step rfl) (mdOk rfl) ?_
        refine AH_oneDid 5 rfl (by kernel_rfl) rfl (dA_step rfl) (mdOk rfl) ?_
        refine AH_oneDid 6 rfl (by kernel_rfl) rfl (dA_step rfl) (mdOk rfl) ?_
        refine AH_end (by kernel_rfl) ?_
        refine rn rfl ?_
        exact rn rfl (fin_is [] rfl ⟨s, _, f, hs.lens, lp, hf, rfl, rfl⟩)
      · refine rn rfl ?_
        refine goal_draw' [4, 5] 8 rfl ?_
        refine drn [0, 1, 2, 4] (by kernel_rfl) (by kernel_rfl) rfl rfl ?_
        refine AH_one (i := 3) (by kernel_rfl) (step_callE [3] rfl rfl rfl rfl rfl rfl (rfl) (near_ct (bs.take 2000) (k1 + 1 + 1) s hs hb (by omega) (by omega))) (by simp) ?_
        rintro σ2 ⟨r, o', ⟨t, k2, ht, _, _, rfl, rfl⟩, hσ⟩
        obtain rfl := Option.some.inj hσ
        clear hσ
        refine AH_oneDid 5 rfl (by kernel_rfl) rfl (dA_step rfl) (mdOk rfl) ?_
        refine AH_oneDid 6 rfl (by kernel_rfl) rfl (dA_step rfl) (mdOk rfl) ?_
        refine AH_oneDid 7 rfl (by kernel_rfl) rfl (dA_step rfl) (mdOk rfl) ?_
        refine AH_end (by kernel_rfl) ?_
        refine rn rfl ?_
        exact rn rfl (fin_is [] rfl ⟨s, t, f, hs.lens, ht.lens, hf, rfl, rfl⟩)
    · refine rn rfl ?_
      refine goal_draw' [4, 5] 7 rfl ?_
      refine drn [0, 1, 3] (by kernel_rfl) (by kernel_rfl) rfl rfl ?_
      refine AH_one (i := 2) (by kernel_rfl) (step_callE [3] rfl rfl rfl rfl rfl rfl (rfl) (someSignature_ct (bs.take 2000) (k1 + 1) hb (by omega) (by omega))) (by simp) ?_
      rintro σ2 ⟨r, o', ⟨t, k2, ht, _, _, rfl, rfl⟩, hσ⟩
      obtain rfl := Option.some.inj hσ
      clear hσ
      refine AH_oneDid 4 rfl (by kernel_rfl) rfl (dA_step rfl) (mdOk rfl) ?_
      refine AH_oneDid 5 rfl (by kernel_rfl) rfl (dA_step rfl) (mdOk rfl) ?_
      refine AH_oneDid 6 rfl (by kernel_rfl) rfl (dA_step rfl) (mdOk rfl) ?_
      refine AH_end (by kernel_rfl) ?_
      refine rn rfl ?_
      exact rn rfl (fin_is [] rfl ⟨s, t, f, hs.lens, ht.lens, hf, rfl, rfl⟩)
  · refine rn rfl ?_
    refine goal_draw' [4, 5] 7 rfl ?_
    refine drn [0, 1, 3] (by kernel_rfl) (by kernel_rfl) rfl rfl ?_
    refine AH_one (i := 2) (by kernel_rfl) (step_callE [3] rfl rfl rfl rfl rfl rfl (rfl) (someSignature_ct (bs.take 2000) k1 hb (by omega) (by omega))) (by simp) ?_
    rintro σ2 ⟨r, o', ⟨t, k2, ht, _, _, rfl, rfl⟩, hσ⟩
    obtain rfl := Option.some.inj hσ
    clear hσ
    refine AH_oneDid 4 rfl (by kernel_rfl) rfl (dA_step rfl) (mdOk rfl) ?_
    refine AH_oneDid 5 rfl (by kernel_rfl) rfl (dA_step rfl) (mdOk rfl) ?_
    refine AH_oneDid 6 rfl (by kernel_rfl) rfl (dA_step rfl) (mdOk rfl) ?_
    refine AH_end (by kernel_rfl) ?_
    refine rn rfl ?_
    exact rn rfl (fin_is [] rfl ⟨s, t, f, hs.lens, ht.lens, hf, rfl, rfl⟩)

theorem fnAdaptFlatBack_ct (bs : Str) (hl : bs.length ≤ 9223372036854775807) : ACalls pk 4 [.one (.fs (bs.map rowB))] [] (fun r o => r = .one (.bool true) ∧ o = []) := by
  refine acalls_of_body Tryz.func4 rfl (by kernel_rfl) rfl ?_
  refine rn rfl ?_
  refine goal_cond rfl (fun h => ?_) (fun h => ?_) <;> (try simp only [gt_iff_lt, ge_iff_le, bne_iff_ne, ne_eq, bne_eq_false_iff_eq, beq_iff_eq, beq_eq_false_iff_ne, Bool.not_eq_true', Bool.not_eq_false', decide_eq_true_eq, decide_eq_false_iff_not, List.length_map] at h)
  · exact rn rfl (fin_is [] rfl ⟨rfl, rfl⟩)
  · refine rn rfl ?_
    refine goal_step (step_call [] rfl rfl rfl rfl rfl rfl (drawAdapt_ct bs)) ?_
    rintro σ2 ⟨r, o', ⟨old, s, f, lo, ls, hf, rfl, rfl⟩, hσ⟩
    obtain rfl := Option.some.inj hσ
    clear hσ
    have lf := hf.lens
    have hI := iadapt_ct old s f lo ls lf
    have hS := sadapt_ct old s f lo ls lf
    have lU := adF_len old s f
    have hEq := equalFlatSelf_ct (AdF old s f).1 lU
    have hB := fun h1 h2 => adapt_back (old := old) (s := s) (f := f) h1 h2
    have hA := iadapt_ct s old (AdF old s f).1 ls lo lU
    have lA := adF_len s old (AdF old s f).1
    generalize (AdF old s f).1 = U at *
    generalize (AdF old s f).2 = ok at *
    have hE := isameEffect_ct old (AdF s old U).1 f lo lA lf
    generalize (AdF s old U).1 = V at *
    generalize (AdF s old U).2 = fine at *
    refine rn rfl ?_
    refine goal_step (step_call [] rfl rfl rfl rfl rfl rfl (hI)) ?_
    rintro σ2 ⟨r, o', ⟨rfl, rfl⟩, hσ⟩
    obtain rfl := Option.some.inj hσ
    clear hσ
    refine rn rfl ?_
    refine rn rfl ?_
    refine goal_step (step_call [] rfl rfl rfl rfl rfl rfl (hS)) ?_
    rintro σ2 ⟨r, o', ⟨rfl, rfl⟩, hσ⟩
    obtain rfl := Option.some.inj hσ
    clear hσ
    refine rn rfl ?_
    refine rn rfl ?_
    refine goal_step (step_call [] rfl rfl rfl rfl rfl rfl (hEq)) ?_
    rintro σ2 ⟨r, o', ⟨rfl, rfl⟩, hσ⟩
    obtain rfl := Option.some.inj hσ
    clear hσ
    refine rn rfl ?_
    refine goal_guard rfl rfl rfl (fun h1 => by cases h1) (fun _ => ?_)
    refine rn rfl ?_
    refine goal_guard rfl rfl rfl (fun h2 => by simp at h2) (fun _ => ?_)
    refine rn rfl ?_
    refine goal_cond rfl (fun h3 => ?_) (fun h3 => ?_)
    · refine rn rfl ?_
      refine goal_step (step_call [] rfl rfl rfl rfl rfl rfl (hEq)) ?_
      rintro σ2 ⟨r, o', ⟨rfl, rfl⟩, hσ⟩
      obtain rfl := Option.some.inj hσ
      clear hσ
      refine rn rfl ?_
      refine goal_guard rfl rfl rfl (fun _ => ?_) (fun h4 => by cases h4)
      refine rn rfl (fin_is [] rfl ⟨?_, rfl⟩)
      simp
    · have hok : ok = true := by simpa using h3
      refine rn rfl ?_
      refine goal_step (step_call [] rfl rfl rfl rfl rfl rfl (hA)) ?_
      rintro σ2 ⟨r, o', ⟨rfl, rfl⟩, hσ⟩
      obtain rfl := Option.some.inj hσ
      clear hσ
      refine rn rfl ?_
      refine rn rfl ?_
      refine goal_guard rfl rfl rfl (fun h4 => ?_) (fun h4 => ?_) <;> (try simp only [gt_iff_lt, ge_iff_le, bne_iff_ne, ne_eq, bne_eq_false_iff_eq, beq_iff_eq, beq_eq_false_iff_ne, Bool.not_eq_true', Bool.not_eq_false', decide_eq_true_eq, decide_eq_false_iff_not, List.length_map] at h4)
      · exact rn rfl (fin_is [] rfl ⟨rfl, rfl⟩)
      · rw [hB hok h4] at hE
        refine rn rfl ?_
        refine goal_step (step_call [] rfl rfl rfl rfl rfl rfl (hE)) ?_
        rintro σ2 ⟨r, o', ⟨rfl, rfl⟩, hσ⟩
        obtain rfl := Option.some.inj hσ
        clear hσ
        refine rn rfl ?_
        exact rn rfl (fin_is [] rfl ⟨rfl, rfl⟩)

end Go.Proofs.YtbenojnoepkgbaaGreat
