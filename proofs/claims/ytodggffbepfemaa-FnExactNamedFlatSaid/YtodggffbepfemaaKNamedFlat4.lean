/- Part 4 of the proof: an abstract machine over the model; contracts of the functions that the law reaches. -/
import Derived.Test.YtodggffbepfemaaKNamedFlat3
set_option linter.unusedVariables false
set_option linter.unusedSimpArgs false
namespace Go.Proofs.Ytodggffbepfemaa
open Go
set_option maxRecDepth 100000
set_option maxHeartbeats 1000000

theorem sunbound_ct (s : Sig) (b : Bnds) (h : OkB s b) : ACalls pk 111 [.agg (eG s), .agg (eBi b)] [] (fun r o => r = .agg (eF (unbQ s b)) ∧ o = []) := by
  have hlen := h.len
  have hfew := h.few
  have hzl : (s.zip b).length = s.length := by simp [hlen]
  refine acalls_of_body Try.func111 rfl (by kernel_rfl) rfl ?_
  refine rn rfl ?_
  refine goal_loop_keep (fun m σ => ∃ (q : Int) (i l1 l2 : Nat) (ob : Bool) (F : Flat), q = i ∧ i ≤ s.length ∧ m = s.length - i ∧ l1 = F.places.length ∧ l2 = F.named.length ∧ (F, ob) = ((s.zip b).take i).foldl stU (zF, true) ∧
      σ = ⟨[(7, .one (.int .i64 q)), (6, .one (.bool ob)), (5, .one (.op 3 0 0)), (4, .one (.op 2 0 0)), (3, .one (.op 1 0 0)), (2, .one (.op 0 0 0))],
        [some ⟨1, [eG s], false, false, true⟩, some ⟨1, [eBi b], false, false, true⟩, some ⟨2, [[.fs [], .fs []]], false, false, true⟩, some ⟨2, [[.os 4 0 l1 l1, .os 5 0 l2 l2]], false, false, true⟩, ownI F.places, ownP F.named], []⟩) s.length [7, 6, 5, 4, 3, 2] [0, 1, 2, 5, 3, 4] rfl
    ⟨_, 0, 0, 0, _, zF, rfl, by omega, by omega, rfl, rfl, rfl, rfl⟩ ?_
  rintro m σ ⟨q, i, l1, l2, ob, F, rfl, hi, rfl, rfl, rfl, hF, rfl⟩
  have hln := unb_len b h.size ((s.zip b).take i) (zF, true) (fun z hz => by
    have := List.mem_of_mem_take hz
    exact (List.of_mem_zip this).2)
  rw [← hF] at hln
  simp only [List.length_take, hzl, zF, List.length_nil] at hln
  refine rn rfl ?_
  refine goal_cond rfl (fun hc => ?_) (fun hc => ?_) <;> (try simp only [gt_iff_lt, ge_iff_le, bne_iff_ne, ne_eq, bne_eq_false_iff_eq, beq_iff_eq, beq_eq_false_iff_ne, Bool.not_eq_true', Bool.not_eq_false', decide_eq_true_eq, decide_eq_false_iff_not, List.length_map] at hc)
  · obtain ⟨p, hp⟩ := at_some (xs := s) (i := i) (by omega)
    obtain ⟨x, hx⟩ := at_some (xs := b) (i := i) (by omega)
    have hsz := h.size x (List.mem_of_getElem? hx)
    have hz : (s.zip b)[i]? = some (p, x) := by rw [List.getElem?_zip_eq_some]; exact ⟨hp, hx⟩
    have hst : ((s.zip b).take (i + 1)).foldl stU (zF, true) = stU (F, ob) (p, x) := by rw [foldl_take_succ _ _ hz, ← hF]
    have hone := h.one i p x hp hx
    have hk := h.kinds p (List.mem_of_getElem? hp)
    refine rn rfl ?_
    refine goal_did rfl rfl (dA_index (eQ p) rfl rfl rfl rfl rfl rfl rfl (by omega) (by (try simp); omega) (map_at (by simpa using hp)) rfl) ?_
    refine rn rfl ?_
    refine goal_did rfl rfl (dA_index (eL x) rfl rfl rfl rfl rfl rfl rfl (by omega) (by (try simp); omega) (map_at (by simpa using hx)) rfl) ?_
    refine rn rfl ?_
    refine goal_cond rfl (fun h2 => ?_) (fun h2 => ?_) <;> (try simp only [gt_iff_lt, ge_iff_le, bne_iff_ne, ne_eq, bne_eq_false_iff_eq, beq_iff_eq, beq_eq_false_iff_ne, Bool.not_eq_true', Bool.not_eq_false', decide_eq_true_eq, decide_eq_false_iff_not, List.length_map] at h2)
    · refine rn rfl ?_
      refine goal_did rfl rfl (dA_append (old := (F.places).map eI) (rows := (x.list : List Int).map eI) (((F.places) ++ (x.list : List Int)).map eI) (F.places.length + x.list.length) true (Dst.own rfl rfl rfl rfl rfl (by first | (simp; done) | (simp; omega)) (whole (by first | (simp; done) | (simp; omega)))) (Src.fs rfl) rfl rfl rfl rfl rfl rfl rfl rfl (rows_len eI_len _) (rows_len eI_len _) (by (try simp only [List.length_map, List.length_append, List.length_cons, List.length_nil, List.length_take, List.length_drop]); show _ * 8 ≤ _; omega) (by first | (simp; done) | (simp; omega)) (by simp) (by first | (simp; done) | (simp; omega)) (fun _ => noOwnR_map _ eI_noOwn _)) ?_
      refine rn rfl ?_
      refine round_keep (s.length - (i + 1)) [7, 6, 5, 4, 3, 2] [0, 1, 2, 3, 8, 5] (by omega) rfl ⟨_, i + 1, F.places.length + x.list.length, F.named.length, ob, ⟨F.places ++ x.list, F.named⟩, wrap64 (by omega) (by omega), by omega, rfl, by simp, by simp, by rw [hst]; simp [stU, h2], rfl⟩
    · refine rn rfl ?_
      refine goal_cond rfl (fun h4 => ?_) (fun h4 => ?_) <;> (try simp only [gt_iff_lt, ge_iff_le, bne_iff_ne, ne_eq, bne_eq_false_iff_eq, beq_iff_eq, beq_eq_false_iff_ne, Bool.not_eq_true', Bool.not_eq_false', decide_eq_true_eq, decide_eq_false_iff_not, List.length_map] at h4)
      · refine rn rfl ?_
        refine goal_did rfl rfl (dA_append (old := (F.named).map eP) (rows := (x.pairs : List Pair).map eP) (((F.named) ++ (x.pairs : List Pair)).map eP) (F.named.length + x.pairs.length) true (Dst.own rfl rfl rfl rfl rfl (by first | (simp; done) | (simp; omega)) (whole (by first | (simp; done) | (simp; omega)))) (Src.fs rfl) rfl rfl rfl rfl rfl rfl rfl rfl (rows_len eP_len _) (rows_len eP_len _) (by (try simp only [List.length_map, List.length_append, List.length_cons, List.length_nil, List.length_take, List.length_drop]); show _ * 24 ≤ _; omega) (by first | (simp; done) | (simp; omega)) (by simp) (by first | (simp; done) | (simp; omega)) (fun _ => noOwnR_map _ eP_noOwn _)) ?_
        refine rn rfl ?_
        refine round_keep (s.length - (i + 1)) [7, 6, 5, 4, 3, 2] [0, 1, 2, 3, 4, 8] (by omega) rfl ⟨_, i + 1, F.places.length, F.named.length + x.pairs.length, ob, ⟨F.places, F.named ++ x.pairs⟩, wrap64 (by omega) (by omega), by omega, rfl, by simp, by simp, by rw [hst]; simp [stU, h4], rfl⟩
      · have hsg : singleQ p = true := by rw [single_kind]; omega
        refine rn rfl ?_
        refine goal_cond rfl (fun hg => ?_) (fun hg => ?_) <;> (try simp only [gt_iff_lt, ge_iff_le, bne_iff_ne, ne_eq, bne_eq_false_iff_eq, beq_iff_eq, beq_eq_false_iff_ne, Bool.not_eq_true', Bool.not_eq_false', decide_eq_true_eq, decide_eq_false_iff_not, List.length_map] at hg)
        · refine rn rfl ?_
          refine goal_guard rfl rfl rfl (fun ho => ?_) (fun ho => ?_) <;> (try simp only [gt_iff_lt, ge_iff_le, bne_iff_ne, ne_eq, bne_eq_false_iff_eq, beq_iff_eq, beq_eq_false_iff_ne, Bool.not_eq_true', Bool.not_eq_false', decide_eq_true_eq, decide_eq_false_iff_not, List.length_map] at ho)
          · refine rn rfl ?_
            refine goal_step (step_call [] rfl rfl rfl rfl rfl rfl (splaced_ct p)) ?_
            rintro σ2 ⟨r, o', ⟨rfl, rfl⟩, hσ⟩
            obtain rfl := Option.some.inj hσ
            clear hσ
            refine rn rfl ?_
            refine round_keep (s.length - (i + 1)) [7, 6, 5, 4, 3, 2] [0, 1, 2, 3, 4, 5] (by omega) rfl ⟨_, i + 1, F.places.length, F.named.length, !placedQ p, F, wrap64 (by omega) (by omega), by omega, rfl, by simp, by simp, by rw [hst]; simp [stU, h2, h4, hg, ho], rfl⟩
          · refine rn rfl ?_
            refine round_keep (s.length - (i + 1)) [7, 6, 5, 4, 3, 2] [0, 1, 2, 3, 4, 5] (by omega) rfl ⟨_, i + 1, F.places.length, F.named.length, false, F, wrap64 (by omega) (by omega), by omega, rfl, by simp, by simp, by rw [hst]; simp [stU, h2, h4, hg, ho], rfl⟩
        · obtain ⟨v, hv⟩ := hone hsg (by simpa using hg)
          have hg' : x.given = true := by simpa using hg
          refine rn rfl ?_
          refine goal_step (step_call [] rfl rfl rfl rfl rfl rfl (splaced_ct p)) ?_
          rintro σ2 ⟨r, o', ⟨rfl, rfl⟩, hσ⟩
          obtain rfl := Option.some.inj hσ
          clear hσ
          refine rn rfl ?_
          refine goal_guard rfl rfl rfl (fun hpl => ?_) (fun hpl => ?_) <;> (try simp only [gt_iff_lt, ge_iff_le, bne_iff_ne, ne_eq, bne_eq_false_iff_eq, beq_iff_eq, beq_eq_false_iff_ne, Bool.not_eq_true', Bool.not_eq_false', decide_eq_true_eq, decide_eq_false_iff_not, List.length_map] at hpl)
          · refine rn rfl ?_
            refine goal_cond rfl (fun ho => ?_) (fun ho => ?_) <;> (try simp only [gt_iff_lt, ge_iff_le, bne_iff_ne, ne_eq, bne_eq_false_iff_eq, beq_iff_eq, beq_eq_false_iff_ne, Bool.not_eq_true', Bool.not_eq_false', decide_eq_true_eq, decide_eq_false_iff_not, List.length_map] at ho)
            · refine rn rfl ?_
              refine goal_drawL [3, 7] [9] 10 rfl ?_
              refine drnL [0, 1, 2, 3] (by kernel_rfl) (by kernel_rfl) rfl rfl ?_
              refine AHL_did 4 rfl (by kernel_rfl) (by kernel_rfl) (by kernel_rfl) (by kernel_rfl) rfl rfl (dA_index (eI v) rfl rfl rfl rfl rfl rfl rfl (by omega) (by simp [hv]) (by simp [hv]) rfl) ?_
              refine drnL [5] (by kernel_rfl) (by kernel_rfl) rfl rfl ?_
              refine AHL_oneDid 6 rfl (by kernel_rfl) rfl rfl (dA_step rfl) (mdOk rfl) ?_
              refine AHL_oneDid 7 rfl (by kernel_rfl) rfl rfl (dA_append (old := (F.places).map eI) (rows := ([v] : List Int).map eI) (((F.places) ++ ([v] : List Int)).map eI) (F.places.length + 1) true (Dst.own rfl rfl rfl rfl rfl (by first | (simp; done) | (simp; omega)) (whole (by first | (simp; done) | (simp; omega)))) (Src.os rfl rfl (Nat.le_refl 1) rfl) rfl rfl rfl rfl rfl rfl rfl rfl (rows_len eI_len _) (rows_len eI_len _) (by (try simp only [List.length_map, List.length_append, List.length_cons, List.length_nil, List.length_take, List.length_drop]); show _ * 8 ≤ _; omega) (by first | (simp; done) | (simp; omega)) (by simp) (by first | (simp; done) | (simp; omega)) (fun _ => noOwnR_map _ eI_noOwn _)) (mdOk rfl) ?_
              refine drnL [8] (by kernel_rfl) (by kernel_rfl) rfl rfl ?_
              refine AHL_lateDid 9 rfl (by kernel_rfl) rfl rfl (dA_step rfl) ?_
              refine AH_end (by kernel_rfl) ?_
              refine rn rfl ?_
              refine round_keep (s.length - (i + 1)) [7, 6, 5, 4, 3, 2] [0, 1, 2, 3, 9, 5] (by omega) rfl ⟨_, i + 1, F.places.length + 1, F.named.length, ob, ⟨F.places ++ [v], F.named⟩, wrap64 (by omega) (by omega), by omega, rfl, by simp, by simp, by rw [hst]; simp [stU, h2, h4, hg', hpl, ho, hv, hd0], rfl⟩
            · refine rn rfl ?_
              refine goal_drawL [3, 6, 7] [12] 13 rfl ?_
              refine drnL [0, 1, 2, 3, 4, 5] (by kernel_rfl) (by kernel_rfl) rfl rfl ?_
              refine AHL_did 6 rfl (by kernel_rfl) (by kernel_rfl) (by kernel_rfl) (by kernel_rfl) rfl rfl (dA_index (eI v) rfl rfl rfl rfl rfl rfl rfl (by omega) (by simp [hv]) (by simp [hv]) rfl) ?_
              refine drnL [7, 8] (by kernel_rfl) (by kernel_rfl) rfl rfl ?_
              refine AHL_oneDid 9 rfl (by kernel_rfl) rfl rfl (dA_step rfl) (mdOk rfl) ?_
              refine AHL_oneDid 10 rfl (by kernel_rfl) rfl rfl (dA_append (old := (F.named).map eP) (rows := ([⟨p.name, v⟩] : List Pair).map eP) (((F.named) ++ ([⟨p.name, v⟩] : List Pair)).map eP) (F.named.length + 1) true (Dst.own rfl rfl rfl rfl rfl (by first | (simp; done) | (simp; omega)) (whole (by first | (simp; done) | (simp; omega)))) (Src.os rfl rfl (Nat.le_refl 1) rfl) rfl rfl rfl rfl rfl rfl rfl rfl (rows_len eP_len _) (rows_len eP_len _) (by (try simp only [List.length_map, List.length_append, List.length_cons, List.length_nil, List.length_take, List.length_drop]); show _ * 24 ≤ _; omega) (by first | (simp; done) | (simp; omega)) (by simp) (by first | (simp; done) | (simp; omega)) (fun _ => noOwnR_map _ eP_noOwn _)) (mdOk rfl) ?_
              refine drnL [11] (by kernel_rfl) (by kernel_rfl) rfl rfl ?_
              refine AHL_lateDid 12 rfl (by kernel_rfl) rfl rfl (dA_step rfl) ?_
              refine AH_end (by kernel_rfl) ?_
              refine rn rfl ?_
              refine round_keep (s.length - (i + 1)) [7, 6, 5, 4, 3, 2] [0, 1, 2, 3, 4, 9] (by omega) rfl ⟨_, i + 1, F.places.length, F.named.length + 1, ob, ⟨F.places, F.named ++ [⟨p.name, v⟩]⟩, wrap64 (by omega) (by omega), by omega, rfl, by simp, by simp, by rw [hst]; simp [stU, h2, h4, hg', hpl, ho, hv, hd0], rfl⟩
          · refine rn rfl ?_
            refine goal_drawL [3, 6, 7] [12] 13 rfl ?_
            refine drnL [0, 1, 2, 3, 4, 5] (by kernel_rfl) (by kernel_rfl) rfl rfl ?_
            refine AHL_did 6 rfl (by kernel_rfl) (by kernel_rfl) (by kernel_rfl) (by kernel_rfl) rfl rfl (dA_index (eI v) rfl rfl rfl rfl rfl rfl rfl (by omega) (by simp [hv]) (by simp [hv]) rfl) ?_
            refine drnL [7, 8] (by kernel_rfl) (by kernel_rfl) rfl rfl ?_
            refine AHL_oneDid 9 rfl (by kernel_rfl) rfl rfl (dA_step rfl) (mdOk rfl) ?_
            refine AHL_oneDid 10 rfl (by kernel_rfl) rfl rfl (dA_append (old := (F.named).map eP) (rows := ([⟨p.name, v⟩] : List Pair).map eP) (((F.named) ++ ([⟨p.name, v⟩] : List Pair)).map eP) (F.named.length + 1) true (Dst.own rfl rfl rfl rfl rfl (by first | (simp; done) | (simp; omega)) (whole (by first | (simp; done) | (simp; omega)))) (Src.os rfl rfl (Nat.le_refl 1) rfl) rfl rfl rfl rfl rfl rfl rfl rfl (rows_len eP_len _) (rows_len eP_len _) (by (try simp only [List.length_map, List.length_append, List.length_cons, List.length_nil, List.length_take, List.length_drop]); show _ * 24 ≤ _; omega) (by first | (simp; done) | (simp; omega)) (by simp) (by first | (simp; done) | (simp; omega)) (fun _ => noOwnR_map _ eP_noOwn _)) (mdOk rfl) ?_
            refine drnL [11] (by kernel_rfl) (by kernel_rfl) rfl rfl ?_
            refine AHL_lateDid 12 rfl (by kernel_rfl) rfl rfl (dA_step rfl) ?_
            refine AH_end (by kernel_rfl) ?_
            refine rn rfl ?_
            refine round_keep (s.length - (i + 1)) [7, 6, 5, 4, 3, 2] [0, 1, 2, 3, 4, 9] (by omega) rfl ⟨_, i + 1, F.places.length, F.named.length + 1, ob, ⟨F.places, F.named ++ [⟨p.name, v⟩]⟩, wrap64 (by omega) (by omega), by omega, rfl, by simp, by simp, by rw [hst]; simp [stU, h2, h4, hg', hpl, hv, hd0], rfl⟩
  · refine rn rfl (round_ext ?_)
    have hfin : unbQ s b = F := by
      unfold unbQ
      rw [List.take_of_length_le (by omega)] at hF
      rw [← hF]
    rw [hfin]
    refine rn rfl (fin_is [] rfl ⟨?_, rfl⟩)
    exact asFl F

theorem give_one {s : Sig} {pl : List Int} {qs : List Pair} {i : Nat} {p : Param} (h : singleQ p = true) : ((giveQ s pl qs i p).given = true → ∃ v, (giveQ s pl qs i p).list = [v]) ∧ ((giveQ s pl qs i p).given = false → (giveQ s pl qs i p).list = []) ∧
    (p.kind = 0 → (giveQ s pl qs i p).given = decide (i < pl.length)) := by
  rw [single_kind] at h
  unfold giveQ
  rw [if_neg (by omega)]
  split
  · rename_i hn
    simp only [Bool.and_eq_true] at hn
    have hk := named_kind.1 hn.1
    split
    · exact ⟨fun _ => ⟨_, rfl⟩, (fun h0 => by cases h0), (fun h0 => by omega)⟩
    · exact ⟨(fun h0 => by cases h0), (fun _ => rfl), (fun h0 => by omega)⟩
  · unfold place1
    by_cases hb : (placedQ p && decide (i < pl.length)) = true
    · rw [if_pos hb]
      simp only [Bool.and_eq_true] at hb
      exact ⟨fun _ => ⟨_, rfl⟩, (fun h0 => by cases h0), fun _ => hb.2.symm⟩
    · rw [if_neg hb]
      have h2 : (p.kind == 2) = false := by simp; omega
      simp only [h2]
      refine ⟨(fun h0 => by cases h0), (fun _ => rfl), fun h0 => ?_⟩
      have hp : placedQ p = true := placed_kind.2 (.inl h0)
      rw [hp] at hb
      show false = _
      simpa using hb

theorem give_size {s : Sig} {pl : List Int} {qs : List Pair} {i : Nat} {p : Param} (h1 : pl.length ≤ 8) (h2 : qs.length ≤ 8) : (giveQ s pl qs i p).list.length ≤ 1000 ∧ (giveQ s pl qs i p).pairs.length ≤ 1000 := by
  have hf := List.length_filter_le (fun q : Pair => takesQ s q.name == (i : Int)) qs
  unfold giveQ
  split
  · simp; omega
  · split
    · split
      · simp
      · simp [zL]
    · unfold place1
      split
      · simp
      · split
        · simp; omega
        · simp [zL]

theorem bound_at {s : Sig} {f : Flat} (hs : OkS s) (hf : OkF f) {i : Nat} {p : Param} {x : Slot} (hp : s[i]? = some p) (hx : (boundQ s f).1[i]? = some x) : x = giveQ s f.places f.named i p := by
  rw [bound_closed hs hf.nodup] at hx
  simp only [closedQ, List.getElem?_mapIdx, hp, Option.map_some, Option.some.injEq] at hx
  exact hx.symm

theorem bound_okB {s : Sig} {f : Flat} (hs : OkS s) (hf : OkF f) : OkB s (boundQ s f).1 := by
  refine ⟨boundQ_len s f, hs.len, fun p hp => hs.kindRange hp, fun i p x hp hx hsg hg => ?_, fun x hx => ?_⟩
  · have := bound_at hs hf hp hx
    subst this
    exact (give_one hsg).1 hg
  · obtain ⟨i, hi⟩ := List.getElem?_of_mem hx
    obtain ⟨p, hp⟩ := at_some (xs := s) (i := i) (by have := lt_of_some hi; rw [boundQ_len] at this; exact this)
    rw [bound_at hs hf hp hi]
    exact give_size hf.places hf.named

def restB (s : Sig) (b : Bnds) : List Int := if 0 ≤ idxI (kIs 2) s 0 then (match b[(idxI (kIs 2) s 0).toNat]? with
  | some x => x.list
  | none => []) else []

theorem restB_at {s : Sig} {b : Bnds} (hl : b.length = s.length) (h : 0 ≤ idxI (kIs 2) s 0) : ∃ x, b[(idxI (kIs 2) s 0).toNat]? = some x ∧ restB s b = x.list ∧ idxI (kIs 2) s 0 < s.length := by
  obtain ⟨p, _, hp, _, hlt⟩ := idxI_find h
  obtain ⟨x, hx⟩ := at_some (xs := b) (i := (idxI (kIs 2) s 0).toNat) (by omega)
  exact ⟨x, hx, by simp [restB, h, hx], hlt⟩

theorem restOf_ct (s : Sig) (b : Bnds) (h : b.length = s.length) (hl : s.length ≤ 1000) : ACalls pk 110 [.agg (eG s), .agg (eBi b)] [] (fun r o => r = .one (.fs ((restB s b).map eI)) ∧ o = []) := by
  refine acalls_of_body Try.func110 rfl (by kernel_rfl) rfl ?_
  refine rn rfl ?_
  refine goal_step (step_call [] rfl rfl rfl rfl rfl rfl (kindAt_ct s 2 (by omega))) ?_
  rintro σ2 ⟨r, o', ⟨rfl, rfl⟩, hσ⟩
  obtain rfl := Option.some.inj hσ
  clear hσ
  refine rn rfl ?_
  refine goal_cond rfl (fun h0 => ?_) (fun h0 => ?_) <;> (try simp only [gt_iff_lt, ge_iff_le, bne_iff_ne, ne_eq, bne_eq_false_iff_eq, beq_iff_eq, beq_eq_false_iff_ne, Bool.not_eq_true', Bool.not_eq_false', decide_eq_true_eq, decide_eq_false_iff_not, List.length_map] at h0)
  · refine rn rfl (fin_is [] rfl ⟨?_, rfl⟩)
    simp only [restB]; rw [if_neg (by omega)]; rfl
  · obtain ⟨x, hx, hr, hlt⟩ := restB_at (b := b) h (by omega)
    refine rn rfl ?_
    refine goal_did rfl rfl (dA_index (eL x) rfl rfl rfl rfl rfl rfl rfl (by omega) (by (try simp); omega) (map_at (by simpa using hx)) rfl) ?_
    refine rn rfl ?_
    refine rn rfl (fin_is [] rfl ⟨?_, rfl⟩)
    rw [hr]

theorem rest_ct (s : Sig) (b : Bnds) (h : b.length = s.length) (hl : s.length ≤ 1000) : ACalls pk 113 [.agg (eG s), .agg (eBi b)] [] (fun r o => r = .one (.int .i64 (restB s b).length) ∧ o = []) := by
  refine acalls_of_body Try.func113 rfl (by kernel_rfl) rfl ?_
  refine rn rfl ?_
  refine goal_loop_keep (fun m σ => ∃ (q L : Int) (i : Nat), q = i ∧ L = s.length ∧ i ≤ s.length ∧ m = s.length - i ∧ idxI (kIs 2) s 0 = idxI (kIs 2) (s.drop i) i ∧
      σ = ⟨[(10, .one (.int .i64 q)), (9, .one (.int .i64 L)), (8, .one (.fs (s.map eQ))), (3, .one (.op 0 0 0))], [some ⟨1, [eBi b], false, false, true⟩], []⟩) s.length [10, 9, 8, 3] [1] rfl
    ⟨_, _, 0, rfl, by simp, by omega, by omega, by simp, rfl⟩ ?_
  rintro m σ ⟨q, L, i, rfl, rfl, hi, rfl, hidx, rfl⟩
  refine rn rfl ?_
  refine goal_cond rfl (fun hc => ?_) (fun hc => ?_) <;> (try simp only [gt_iff_lt, ge_iff_le, bne_iff_ne, ne_eq, bne_eq_false_iff_eq, beq_iff_eq, beq_eq_false_iff_ne, Bool.not_eq_true', Bool.not_eq_false', decide_eq_true_eq, decide_eq_false_iff_not, List.length_map] at hc)
  · obtain ⟨p, hp⟩ := at_some (xs := s) (i := i) (by omega)
    obtain ⟨x, hx⟩ := at_some (xs := b) (i := i) (by omega)
    refine rn rfl ?_
    refine goal_did rfl rfl (dA_index (eQ p) rfl rfl rfl rfl rfl rfl rfl (by omega) (by (try simp); omega) (map_at (by simpa using hp)) rfl) ?_
    refine rn rfl ?_
    refine goal_cond rfl (fun h2 => ?_) (fun h2 => ?_) <;> (try simp only [gt_iff_lt, ge_iff_le, bne_iff_ne, ne_eq, bne_eq_false_iff_eq, beq_iff_eq, beq_eq_false_iff_ne, Bool.not_eq_true', Bool.not_eq_false', decide_eq_true_eq, decide_eq_false_iff_not, List.length_map] at h2)
    · have hi2 : idxI (kIs 2) s 0 = (i : Int) := by rw [hidx, drop_at hp]; simp [idxI, kIs, h2]
      refine rn rfl ?_
      refine goal_did rfl rfl (dA_index (eL x) rfl rfl rfl rfl rfl rfl rfl (by omega) (by (try simp); omega) (map_at (by simpa using hx)) rfl) ?_
      refine rn rfl ?_
      refine rn rfl (round_ret (fin_is [] rfl ⟨?_, rfl⟩))
      have : restB s b = x.list := by simp [restB, hi2, hx]
      rw [this, List.length_map]
    · refine rn rfl ?_
      refine round_keep (s.length - (i + 1)) [10, 9, 8, 3] [0] (by omega) rfl ⟨_, _, i + 1, wrap64 (by omega) (by omega), rfl, by omega, rfl, ?_, rfl⟩
      rw [hidx, drop_at hp]; simp [idxI, kIs, h2]
  · refine rn rfl (round_ext ?_)
    refine rn rfl (fin_is [] rfl ⟨?_, rfl⟩)
    rw [List.drop_eq_nil_of_le (by omega)] at hidx
    have : restB s b = [] := by simp [restB, hidx, idxI]
    rw [this]; rfl

def tQ1 (p : Param) : Param := if p.kind == 1 then ⟨p.name, 3, p.hasD, p.dflt⟩ else p

def tQ (s : Sig) : Sig := s.map tQ1

def stN (F : Flat) (px : Param × Slot) : Flat :=
  if px.1.kind = 0 then ⟨F.places ++ px.2.list, F.named⟩
  else if px.1.kind = 2 then F
  else if px.1.kind = 4 then ⟨F.places, F.named ++ px.2.pairs⟩
  else if px.2.given then ⟨F.places, F.named ++ [⟨px.1.name, hd0 px.2.list⟩]⟩ else F

def namQ (s : Sig) (b : Bnds) : Flat := (s.zip b).foldl stN zF

theorem stN_len (F : Flat) (p : Param) (x : Slot) (h : x.list.length ≤ 1000 ∧ x.pairs.length ≤ 1000) : (stN F (p, x)).places.length ≤ F.places.length + 1000 ∧ (stN F (p, x)).named.length ≤ F.named.length + 1000 := by
  unfold stN
  simp only
  split
  · simp; omega
  · split
    · simp
    · split
      · simp; omega
      · split <;> simp

theorem nam_len (b : Bnds) (hb : ∀ x ∈ b, x.list.length ≤ 1000 ∧ x.pairs.length ≤ 1000) : ∀ (zs : List (Param × Slot)) (F : Flat), (∀ z ∈ zs, z.2 ∈ b) → (zs.foldl stN F).places.length ≤ F.places.length + 1000 * zs.length ∧ (zs.foldl stN F).named.length ≤ F.named.length + 1000 * zs.length
  | [], st, _ => by simp
  | z :: zs, st, h => by
    have h1 := nam_len b hb zs (stN st z) (fun y hy => h y (by simp [hy]))
    have h2 := stN_len st z.1 z.2 (hb _ (h z (by simp)))
    rw [List.foldl_cons]
    simp only [List.length_cons]
    have e : stN st z = stN st (z.1, z.2) := rfl
    rw [← e] at h2
    omega

theorem nam_names (M : Nat) : ∀ (zs : List (Param × Slot)) (F : Flat), (∀ z ∈ zs, z.1.name.length ≤ M ∧ ∀ q ∈ z.2.pairs, q.name.length ≤ M) → (∀ q ∈ F.named, q.name.length ≤ M) → ∀ q ∈ (zs.foldl stN F).named, q.name.length ≤ M
  | [], F, _, h => h
  | z :: zs, F, hz, h => by
    rw [List.foldl_cons]
    refine nam_names M zs _ (fun y hy => hz y (by simp [hy])) ?_
    obtain ⟨h1, h2⟩ := hz z (by simp)
    intro q hq
    unfold stN at hq
    split at hq
    · exact h q hq
    · split at hq
      · exact h q hq
      · split at hq
        · rcases List.mem_append.1 hq with hq | hq
          · exact h q hq
          · exact h2 q hq
        · split at hq
          · rcases List.mem_append.1 hq with hq | hq
            · exact h q hq
            · simp only [List.mem_singleton] at hq; rw [hq]; exact h1
          · exact h q hq

def NamF (s : Sig) (f : Flat) : Flat × Bool := if fitQ s f && accQ s f then (if 0 < (restB s (boundQ s f).1).length then (unbQ s (boundQ s f).1, true) else checkF (namQ s (boundQ s f).1) true) else (zF, false)

theorem bound_names {s : Sig} {f : Flat} (hs : OkS s) (hf : OkF f) : ∀ z ∈ s.zip (boundQ s f).1, z.1.name.length ≤ 6 ∧ ∀ q ∈ z.2.pairs, q.name.length ≤ 6 := by
  intro z hz
  obtain ⟨i, hi⟩ := List.getElem?_of_mem hz
  rw [List.getElem?_zip_eq_some] at hi
  refine ⟨(hs.nameLen (List.mem_of_getElem? hi.1)).1, fun q hq => ?_⟩
  rw [bound_at hs hf hi.1 hi.2] at hq
  have hqn : q ∈ f.named := by
    unfold giveQ at hq
    split at hq
    · exact (List.mem_filter.1 hq).1
    · split at hq
      · split at hq
        · simp at hq
        · simp [zL] at hq
      · unfold place1 at hq
        split at hq
        · simp at hq
        · split at hq
          · simp at hq
          · simp [zL] at hq
  have := hf.pairs q hqn
  simp only [okPair, okName, inR, Bool.and_eq_true, decide_eq_true_eq] at this
  omega

theorem inamed_ctF (s : Sig) (f : Flat) (hls : LenS s) (hlf : LenF f) : ACalls pk 52 [.agg (eG s), .agg (eF f)] [] (fun r o => r = .tup [rF (NamF s f).1, .one (.bool (NamF s f).2)] ∧ o = oF (NamF s f).1) := by
  refine acalls_of_body Try.func52 rfl (by kernel_rfl) rfl ?_
  refine rn rfl ?_
  refine goal_step (step_call [] rfl rfl rfl rfl rfl rfl (iBindD_ct s f hls hlf)) ?_
  rintro σ2 ⟨r, o', ⟨rfl, rfl⟩, hσ⟩
  obtain rfl := Option.some.inj hσ
  clear hσ
  refine rn rfl ?_
  unfold BindQ
  by_cases hv : ¬ (fitQ s f && accQ s f) = true
  · rw [if_neg hv]
    have hz : NamF s f = (zF, false) := by unfold NamF; rw [if_neg hv]
    rw [hz]
    refine goal_cond rfl (fun _ => ?_) (fun h0 => by cases h0)
    refine rn rfl ?_
    exact fin_weak (Weak.adoptO 2 0 1) (fin_weak (Weak.adoptO 2 1 2) (fin_is [4, 5] rfl ⟨rfl, rfl⟩))
  rw [Classical.not_not] at hv
  rw [if_pos hv]
  have hz : NamF s f = (if 0 < (restB s (boundQ s f).1).length then (unbQ s (boundQ s f).1, true) else checkF (namQ s (boundQ s f).1) true) := by unfold NamF; rw [if_pos hv]
  rw [hz]
  simp only [Bool.and_eq_true] at hv
  obtain ⟨hs, hf⟩ := fitQ_iff.1 hv.1
  have h := bound_okB hs hf
  have hnm := bound_names hs hf
  generalize (boundQ s f).1 = b at *
  have hlen := h.len
  have hfew := h.few
  have hzl : (s.zip b).length = s.length := by simp [hlen]
  refine goal_cond rfl (fun h0 => by cases h0) (fun _ => ?_)
  refine rn rfl ?_
  refine goal_step (step_call [] rfl rfl rfl rfl rfl rfl (rest_ct s b hlen (by omega))) ?_
  rintro σ2 ⟨r, o', ⟨rfl, rfl⟩, hσ⟩
  obtain rfl := Option.some.inj hσ
  clear hσ
  refine rn rfl ?_
  refine goal_cond rfl (fun hr => ?_) (fun hr => ?_) <;> (try simp only [gt_iff_lt, ge_iff_le, bne_iff_ne, ne_eq, bne_eq_false_iff_eq, beq_iff_eq, beq_eq_false_iff_ne, Bool.not_eq_true', Bool.not_eq_false', decide_eq_true_eq, decide_eq_false_iff_not, List.length_map] at hr)
  · rw [if_pos (by omega)]
    refine rn rfl ?_
    refine goal_step (step_call [] rfl rfl rfl rfl rfl rfl (iunbind_ct s b h)) ?_
    rintro σ2 ⟨r, o', ⟨rfl, rfl⟩, hσ⟩
    obtain rfl := Option.some.inj hσ
    clear hσ
    refine rn rfl ?_
    exact rn rfl (fin_is [4, 5] rfl ⟨rfl, rfl⟩)
  rw [if_neg (by omega)]
  refine rn rfl ?_
  refine goal_weakCod (Weak.adoptO 4 0 1) ?_
  refine goal_weakCod (Weak.adoptO 4 1 2) ?_
  refine goal_loop_keep (fun m σ => ∃ (q L : Int) (i l1 l2 : Nat) (F : Flat), q = i ∧ L = s.length ∧ i ≤ s.length ∧ m = s.length - i ∧ l1 = F.places.length ∧ l2 = F.named.length ∧ F = ((s.zip b).take i).foldl stN zF ∧
      σ = ⟨[(31, .one (.int .i64 q)), (30, .one (.int .i64 L)), (29, .one (.fs (s.map eQ))), (8, .one (.op 2 0 0)), (6, .one (.op 0 0 0)), (4, .one (.op 1 0 0))],
        [some ⟨1, [eBi b], false, false, true⟩, some ⟨2, [[.fs [], .fs []]], false, false, true⟩, some ⟨2, [[.os 3 0 l1 l1, .os 4 0 l2 l2]], false, false, true⟩, ownI F.places, ownP F.named], []⟩) s.length [31, 30, 29, 8, 6, 4] [3, 2, 4, 5, 6] rfl
    ⟨_, _, 0, 0, 0, zF, rfl, ?_, by omega, by omega, rfl, rfl, rfl, rfl⟩ ?_
  · simp
  rintro m σ ⟨q, L, i, l1, l2, F, rfl, rfl, hi, rfl, rfl, rfl, hF, rfl⟩
  have hln := nam_len b h.size ((s.zip b).take i) zF (fun z hz => by
    have := List.mem_of_mem_take hz
    exact (List.of_mem_zip this).2)
  rw [← hF] at hln
  simp only [List.length_take, hzl, zF, List.length_nil] at hln
  refine rn rfl ?_
  refine goal_cond rfl (fun hc => ?_) (fun hc => ?_) <;> (try simp only [gt_iff_lt, ge_iff_le, bne_iff_ne, ne_eq, bne_eq_false_iff_eq, beq_iff_eq, beq_eq_false_iff_ne, Bool.not_eq_true', Bool.not_eq_false', decide_eq_true_eq, decide_eq_false_iff_not, List.length_map] at hc)
  · obtain ⟨p, hp⟩ := at_some (xs := s) (i := i) (by omega)
    obtain ⟨x, hx⟩ := at_some (xs := b) (i := i) (by omega)
    have hsz := h.size x (List.mem_of_getElem? hx)
    have hz : (s.zip b)[i]? = some (p, x) := by rw [List.getElem?_zip_eq_some]; exact ⟨hp, hx⟩
    have hst : ((s.zip b).take (i + 1)).foldl stN zF = stN F (p, x) := by rw [foldl_take_succ _ _ hz, ← hF]
    have hone := h.one i p x hp hx
    have hk := h.kinds p (List.mem_of_getElem? hp)
    refine rn rfl ?_
    refine goal_did rfl rfl (dA_index (eQ p) rfl rfl rfl rfl rfl rfl rfl (by omega) (by (try simp); omega) (map_at (by simpa using hp)) rfl) ?_
    refine rn rfl ?_
    refine goal_did rfl rfl (dA_index (eL x) rfl rfl rfl rfl rfl rfl rfl (by omega) (by (try simp); omega) (map_at (by simpa using hx)) rfl) ?_
    refine rn rfl ?_
    refine goal_cond rfl (fun h0 => ?_) (fun h0 => ?_) <;> (try simp only [gt_iff_lt, ge_iff_le, bne_iff_ne, ne_eq, bne_eq_false_iff_eq, beq_iff_eq, beq_eq_false_iff_ne, Bool.not_eq_true', Bool.not_eq_false', decide_eq_true_eq, decide_eq_false_iff_not, List.length_map] at h0)
    · refine rn rfl ?_
      refine goal_did rfl rfl (dA_append (old := (F.places).map eI) (rows := (x.list : List Int).map eI) (((F.places) ++ (x.list : List Int)).map eI) (F.places.length + x.list.length) true (Dst.own rfl rfl rfl rfl rfl (by first | (simp; done) | (simp; omega)) (whole (by first | (simp; done) | (simp; omega)))) (Src.fs rfl) rfl rfl rfl rfl rfl rfl rfl rfl (rows_len eI_len _) (rows_len eI_len _) (by (try simp only [List.length_map, List.length_append, List.length_cons, List.length_nil, List.length_take, List.length_drop]); show _ * 8 ≤ _; omega) (by first | (simp; done) | (simp; omega)) (by simp) (by first | (simp; done) | (simp; omega)) (fun _ => noOwnR_map _ eI_noOwn _)) ?_
      refine rn rfl ?_
      refine round_keep (s.length - (i + 1)) [31, 30, 29, 8, 6, 4] [0, 1, 2, 7, 4] (by omega) rfl ⟨_, _, i + 1, F.places.length + x.list.length, F.named.length, ⟨F.places ++ x.list, F.named⟩, wrap64 (by omega) (by omega), rfl, by omega, rfl, by simp, by simp, by rw [hst]; simp [stN, h0], rfl⟩
    · refine rn rfl ?_
      refine goal_step (step_call [] rfl rfl rfl rfl rfl rfl (isingle_ct p)) ?_
      rintro σ2 ⟨r, o', ⟨rfl, rfl⟩, hσ⟩
      obtain rfl := Option.some.inj hσ
      clear hσ
      refine rn rfl ?_
      refine goal_guard rfl rfl rfl (fun h3 => ?_) (fun h3 => ?_) <;> (try simp only [gt_iff_lt, ge_iff_le, bne_iff_ne, ne_eq, bne_eq_false_iff_eq, beq_iff_eq, beq_eq_false_iff_ne, Bool.not_eq_true', Bool.not_eq_false', decide_eq_true_eq, decide_eq_false_iff_not, List.length_map] at h3)
      · have h24 : p.kind ≠ 2 ∧ p.kind ≠ 4 := by rw [single_kind] at h3; omega
        refine rn rfl ?_
        refine goal_cond rfl (fun hg => ?_) (fun hg => ?_) <;> (try simp only [gt_iff_lt, ge_iff_le, bne_iff_ne, ne_eq, bne_eq_false_iff_eq, beq_iff_eq, beq_eq_false_iff_ne, Bool.not_eq_true', Bool.not_eq_false', decide_eq_true_eq, decide_eq_false_iff_not, List.length_map] at hg)
        · obtain ⟨v, hv⟩ := hone h3 hg
          refine rn rfl ?_
          refine goal_drawL [2, 5, 6] [12] 13 rfl ?_
          refine drnL [0, 1, 2, 3, 4, 5] (by kernel_rfl) (by kernel_rfl) rfl rfl ?_
          refine AHL_did 6 rfl (by kernel_rfl) (by kernel_rfl) (by kernel_rfl) (by kernel_rfl) rfl rfl (dA_index (eI v) rfl rfl rfl rfl rfl rfl rfl (by omega) (by simp [hv]) (by simp [hv]) rfl) ?_
          refine drnL [7, 8] (by kernel_rfl) (by kernel_rfl) rfl rfl ?_
          refine AHL_oneDid 9 rfl (by kernel_rfl) rfl rfl (dA_step rfl) (mdOk rfl) ?_
          refine AHL_oneDid 10 rfl (by kernel_rfl) rfl rfl (dA_append (old := (F.named).map eP) (rows := ([⟨p.name, v⟩] : List Pair).map eP) (((F.named) ++ ([⟨p.name, v⟩] : List Pair)).map eP) (F.named.length + 1) true (Dst.own rfl rfl rfl rfl rfl (by first | (simp; done) | (simp; omega)) (whole (by first | (simp; done) | (simp; omega)))) (Src.os rfl rfl (Nat.le_refl 1) rfl) rfl rfl rfl rfl rfl rfl rfl rfl (rows_len eP_len _) (rows_len eP_len _) (by (try simp only [List.length_map, List.length_append, List.length_cons, List.length_nil, List.length_take, List.length_drop]); show _ * 24 ≤ _; omega) (by first | (simp; done) | (simp; omega)) (by simp) (by first | (simp; done) | (simp; omega)) (fun _ => noOwnR_map _ eP_noOwn _)) (mdOk rfl) ?_
          refine drnL [11] (by kernel_rfl) (by kernel_rfl) rfl rfl ?_
          refine AHL_lateDid 12 rfl (by kernel_rfl) rfl rfl (dA_step rfl) ?_
          refine AH_end (by kernel_rfl) ?_
          refine rn rfl ?_
          refine round_keep (s.length - (i + 1)) [31, 30, 29, 8, 6, 4] [0, 1, 2, 3, 8] (by omega) rfl ⟨_, _, i + 1, F.places.length, F.named.length + 1, ⟨F.places, F.named ++ [⟨p.name, v⟩]⟩, wrap64 (by omega) (by omega), rfl, by omega, rfl, by simp, by simp, by rw [hst]; simp [stN, h0, h24.1, h24.2, hg, hv, hd0], rfl⟩
        · refine rn rfl ?_
          refine goal_cond rfl (fun h0 => by simp at h0; omega) (fun _ => ?_)
          refine rn rfl ?_
          refine round_keep (s.length - (i + 1)) [31, 30, 29, 8, 6, 4] [0, 1, 2, 3, 4] (by omega) rfl ⟨_, _, i + 1, F.places.length, F.named.length, F, wrap64 (by omega) (by omega), rfl, by omega, rfl, by simp, by simp, by rw [hst]; simp [stN, h0, h24.1, h24.2, hg], rfl⟩
      · refine rn rfl ?_
        refine goal_cond rfl (fun h4 => ?_) (fun h4 => ?_) <;> (try simp only [gt_iff_lt, ge_iff_le, bne_iff_ne, ne_eq, bne_eq_false_iff_eq, beq_iff_eq, beq_eq_false_iff_ne, Bool.not_eq_true', Bool.not_eq_false', decide_eq_true_eq, decide_eq_false_iff_not, List.length_map] at h4)
        · refine rn rfl ?_
          refine goal_did rfl rfl (dA_append (old := (F.named).map eP) (rows := (x.pairs : List Pair).map eP) (((F.named) ++ (x.pairs : List Pair)).map eP) (F.named.length + x.pairs.length) true (Dst.own rfl rfl rfl rfl rfl (by first | (simp; done) | (simp; omega)) (whole (by first | (simp; done) | (simp; omega)))) (Src.fs rfl) rfl rfl rfl rfl rfl rfl rfl rfl (rows_len eP_len _) (rows_len eP_len _) (by (try simp only [List.length_map, List.length_append, List.length_cons, List.length_nil, List.length_take, List.length_drop]); show _ * 24 ≤ _; omega) (by first | (simp; done) | (simp; omega)) (by simp) (by first | (simp; done) | (simp; omega)) (fun _ => noOwnR_map _ eP_noOwn _)) ?_
          refine rn rfl ?_
          refine round_keep (s.length - (i + 1)) [31, 30, 29, 8, 6, 4] [0, 1, 2, 3, 7] (by omega) rfl ⟨_, _, i + 1, F.places.length, F.named.length + x.pairs.length, ⟨F.places, F.named ++ x.pairs⟩, wrap64 (by omega) (by omega), rfl, by omega, rfl, by simp, by simp, by rw [hst]; simp [stN, h4], rfl⟩
        · have h2 : p.kind = 2 := by
            rcases kind_split hk with h5 | h5 | h5 | h5
            · simp [singleQ, h5] at h3
            · exact h5
            · simp [singleQ, h5] at h3
            · exact absurd h5 h4
          refine rn rfl ?_
          refine round_keep (s.length - (i + 1)) [31, 30, 29, 8, 6, 4] [0, 1, 2, 3, 4] (by omega) rfl ⟨_, _, i + 1, F.places.length, F.named.length, F, wrap64 (by omega) (by omega), rfl, by omega, rfl, by simp, by simp, by rw [hst]; simp [stN, h2], rfl⟩
  · refine rn rfl (round_ext ?_)
    have hfin : namQ s b = F := by
      unfold namQ
      rw [List.take_of_length_le (by omega)] at hF
      rw [← hF]
    have hnn : ∀ q ∈ F.named, q.name.length ≤ 9223372036854775807 := by
      rw [← hfin]
      intro q hq
      have := nam_names 6 (s.zip b) zF hnm (by simp [zF]) q hq
      omega
    rw [hfin]
    refine rn rfl ?_
    refine goal_step (step_callE [] rfl rfl rfl rfl rfl rfl (cons_eq (asFl F) rfl) (checked_ct F true (by omega) (by omega) hnn)) ?_
    rintro σ2 ⟨r, o', ⟨rfl, rfl⟩, hσ⟩
    obtain rfl := Option.some.inj hσ
    clear hσ
    refine rn rfl ?_
    exact rn rfl (fin_is [5, 6] rfl ⟨rfl, rfl⟩)

theorem idxI_le {α : Type} {pred : α → Bool} : ∀ {xs : List α} {k i : Nat} {x : α}, xs[i]? = some x → pred x = true → 0 ≤ idxI pred xs k ∧ idxI pred xs k ≤ ((k + i : Nat) : Int)
  | y :: xs, k, 0, x, hx, hp => by
    simp at hx; subst hx
    simp [idxI, hp]
  | y :: xs, k, i + 1, x, hx, hp => by
    simp only [List.getElem?_cons_succ] at hx
    have := idxI_le (k := k + 1) hx hp
    unfold idxI
    split
    · omega
    · omega

theorem tQ1_single (p : Param) : singleQ (tQ1 p) = singleQ p := by
  unfold tQ1
  split
  · rename_i h
    simp only [beq_iff_eq] at h
    simp [singleQ, placedQ, h]
  · rfl

theorem tQ_okB {s : Sig} {b : Bnds} (h : OkB s b) : OkB (tQ s) b := by
  refine ⟨by simp [tQ, h.len], by simp [tQ, h.few], fun p hp => ?_, fun i p x hp hx hsg hg => ?_, h.size⟩
  · simp only [tQ, List.mem_map] at hp
    obtain ⟨q, hq, rfl⟩ := hp
    have := h.kinds q hq
    unfold tQ1
    split
    · simp
    · exact this
  · simp only [tQ, List.getElem?_map] at hp
    cases hq : s[i]? with
    | none => rw [hq] at hp; cases hp
    | some q =>
      rw [hq] at hp
      simp only [Option.map_some, Option.some.injEq] at hp
      rw [← hp, tQ1_single] at hsg
      exact h.one i q x hq hx hsg hg

theorem nam_eq {s : Sig} {b : Bnds} {n : Nat} (h : OkB s b) (hs : OkS s) (hr : restB s b = []) (honly : ∀ i p x, s[i]? = some p → b[i]? = some x → singleQ p = true → (x.given = false → x.list = []) ∧ (p.kind = 0 → x.given = decide (i < n))) : unbQ (tQ s) b = namQ s b := by
  have hl := h.len
  have hzl : (s.zip b).length = s.length := by simp [hl]
  have key : ∀ i, i ≤ s.length → ∃ ob, (((tQ s).zip b).take i).foldl stU (zF, true) = (((s.zip b).take i).foldl stN zF, ob) ∧ (ob = false → n < i) := by
    intro i
    induction i with
    | zero => intro _; exact ⟨true, by simp, fun h0 => by cases h0⟩
    | succ i ih =>
      intro hi
      obtain ⟨ob, h1, h2⟩ := ih (by omega)
      obtain ⟨p, hp⟩ := at_some (xs := s) (i := i) (by omega)
      obtain ⟨x, hx⟩ := at_some (xs := b) (i := i) (by omega)
      have hz : (s.zip b)[i]? = some (p, x) := by rw [List.getElem?_zip_eq_some]; exact ⟨hp, hx⟩
      have hz' : ((tQ s).zip b)[i]? = some (tQ1 p, x) := by rw [List.getElem?_zip_eq_some]; exact ⟨by simp [tQ, hp], hx⟩
      rw [foldl_take_succ _ _ hz, foldl_take_succ _ _ hz', h1]
      generalize ((s.zip b).take i).foldl stN zF = F
      have hk := h.kinds p (List.mem_of_getElem? hp)
      have ho := honly i p x hp hx
      have hone := h.one i p x hp hx
      by_cases k0 : p.kind = 0
      · have ht : tQ1 p = p := by simp [tQ1, k0]
        have hsg : singleQ p = true := single_kind.2 (.inl k0)
        have hpl : placedQ p = true := placed_kind.2 (.inl k0)
        obtain ⟨o1, o2⟩ := ho hsg
        have o2 := o2 k0
        rw [ht]
        cases hg : x.given with
        | true =>
          obtain ⟨v, hv⟩ := hone hsg hg
          rw [hg] at o2
          have hin : i < n := by simpa using o2.symm
          have hob : ob = true := by
            cases ob with
            | true => rfl
            | false => have := h2 rfl; omega
          subst hob
          exact ⟨true, by simp [stU, stN, k0, hg, hpl, hv, hd0], fun h0 => by cases h0⟩
        | false =>
          rw [hg] at o2
          have hin : ¬ i < n := by simpa using o2.symm
          exact ⟨false, by simp [stU, stN, k0, hg, hpl, o1 hg], fun _ => by omega⟩
      · by_cases k2 : p.kind = 2
        · have ht : tQ1 p = p := by simp [tQ1, k2]
          have hlist : x.list = [] := by
            have hix := idxI_le (pred := kIs 2) (k := 0) hp (by simp [kIs, k2])
            obtain ⟨y, hy, hyr, hlt⟩ := restB_at (b := b) hl hix.1
            obtain ⟨q, _, hq, hqk, _⟩ := idxI_find hix.1
            have : (idxI (kIs 2) s 0).toNat = i := hs.one hq hp (by simp [kIs] at hqk; omega) (by
              have : q.kind = 2 := by simpa [kIs] using hqk
              simp [singleQ, placedQ, k2])
            rw [this, hx] at hy
            cases hy
            rw [← hyr, hr]
          rw [ht]
          exact ⟨ob, by simp [stU, stN, k2, hlist], fun h0 => by have := h2 h0; omega⟩
        · by_cases k4 : p.kind = 4
          · have ht : tQ1 p = p := by simp [tQ1, k4]
            rw [ht]
            exact ⟨ob, by simp [stU, stN, k4], fun h0 => by have := h2 h0; omega⟩
          · have hk3 : (tQ1 p).kind = 3 ∧ (tQ1 p).name = p.name := by
              unfold tQ1
              split
              · exact ⟨rfl, rfl⟩
              · rename_i hne
                have : p.kind ≠ 1 := by simpa using hne
                exact ⟨by omega, rfl⟩
            have hnp : placedQ (tQ1 p) = false := by simp [placedQ, hk3.1]
            cases hg : x.given with
            | true => exact ⟨ob, by simp [stU, stN, k0, k2, k4, hg, hnp, hk3.1, hk3.2], fun h0 => by have := h2 h0; omega⟩
            | false => exact ⟨ob, by simp [stU, stN, k0, k2, k4, hg, hnp, hk3.1], fun h0 => by have := h2 h0; omega⟩
  obtain ⟨ob, h1, _⟩ := key s.length (Nat.le_refl _)
  have e1 : ((tQ s).zip b).take s.length = (tQ s).zip b := List.take_of_length_le (by simp [tQ, hl])
  have e2 : (s.zip b).take s.length = s.zip b := List.take_of_length_le (by omega)
  rw [e1, e2] at h1
  unfold unbQ namQ
  rw [h1]

theorem snamed_ctF (s : Sig) (f : Flat) (hls : LenS s) (hlf : LenF f) : ACalls pk 51 [.agg (eG s), .agg (eF f)] [] (fun r o => r = .tup [.agg (eF (NamF s f).1), .one (.bool (NamF s f).2)] ∧ o = []) := by
  refine acalls_of_body Try.func51 rfl (by kernel_rfl) rfl ?_
  refine rn rfl ?_
  refine goal_step (step_call [] rfl rfl rfl rfl rfl rfl (sBind_ct s f hls hlf)) ?_
  rintro σ2 ⟨r, o', ⟨rfl, rfl⟩, hσ⟩
  obtain rfl := Option.some.inj hσ
  clear hσ
  refine rn rfl ?_
  unfold BindQ
  by_cases hv : ¬ (fitQ s f && accQ s f) = true
  · rw [if_neg hv]
    have hz : NamF s f = (zF, false) := by unfold NamF; rw [if_neg hv]
    rw [hz]
    refine goal_cond rfl (fun _ => ?_) (fun h0 => by cases h0)
    exact rn rfl (fin_is [] rfl ⟨rfl, rfl⟩)
  rw [Classical.not_not] at hv
  rw [if_pos hv]
  have hz : NamF s f = (if 0 < (restB s (boundQ s f).1).length then (unbQ s (boundQ s f).1, true) else checkF (namQ s (boundQ s f).1) true) := by unfold NamF; rw [if_pos hv]
  rw [hz]
  simp only [Bool.and_eq_true] at hv
  obtain ⟨hs, hf⟩ := fitQ_iff.1 hv.1
  have h := bound_okB hs hf
  have hnm := bound_names hs hf
  have honly : ∀ i p x, s[i]? = some p → (boundQ s f).1[i]? = some x → singleQ p = true → (x.given = false → x.list = []) ∧ (p.kind = 0 → x.given = decide (i < f.places.length)) := fun i p x hp hx hsg => by
    rw [bound_at hs hf hp hx]
    exact (give_one hsg).2
  generalize (boundQ s f).1 = b at *
  have hlen := h.len
  have hfew := h.few
  refine goal_cond rfl (fun h0 => by cases h0) (fun _ => ?_)
  refine rn rfl ?_
  refine goal_step (step_call [] rfl rfl rfl rfl rfl rfl (restOf_ct s b hlen (by omega))) ?_
  rintro σ2 ⟨r, o', ⟨rfl, rfl⟩, hσ⟩
  obtain rfl := Option.some.inj hσ
  clear hσ
  refine rn rfl ?_
  refine goal_cond rfl (fun hr => ?_) (fun hr => ?_) <;> (try simp only [gt_iff_lt, ge_iff_le, bne_iff_ne, ne_eq, bne_eq_false_iff_eq, beq_iff_eq, beq_eq_false_iff_ne, Bool.not_eq_true', Bool.not_eq_false', decide_eq_true_eq, decide_eq_false_iff_not, List.length_map] at hr)
  · rw [if_pos (by omega)]
    refine rn rfl ?_
    refine goal_step (step_call [] rfl rfl rfl rfl rfl rfl (sunbound_ct s b h)) ?_
    rintro σ2 ⟨r, o', ⟨rfl, rfl⟩, hσ⟩
    obtain rfl := Option.some.inj hσ
    clear hσ
    refine rn rfl ?_
    exact rn rfl (fin_is [] rfl ⟨rfl, rfl⟩)
  have hr0 : restB s b = [] := List.eq_nil_of_length_eq_zero (by omega)
  rw [if_neg (by omega)]
  rw [← nam_eq h hs hr0 honly]
  have hun := nam_eq h hs hr0 honly
  have hl1 := nam_len b h.size (s.zip b) zF (fun z hz => (List.of_mem_zip hz).2)
  have hnn : ∀ q ∈ (unbQ (tQ s) b).named, q.name.length ≤ 9223372036854775807 := by
    rw [hun]
    intro q hq
    have := nam_names 6 (s.zip b) zF hnm (by simp [zF]) q hq
    omega
  have hzl : (s.zip b).length = s.length := by simp [hlen]
  rw [hzl] at hl1
  have hl2 : (unbQ (tQ s) b).places.length ≤ 8000 ∧ (unbQ (tQ s) b).named.length ≤ 8000 := by
    rw [hun]; unfold namQ; simp only [zF, List.length_nil] at hl1 ⊢; omega
  refine rn rfl ?_
  refine goal_step (step_call [] rfl rfl rfl rfl rfl rfl (copyParams_ct s (by omega))) ?_
  rintro σ2 ⟨r, o', ⟨rfl, rfl⟩, hσ⟩
  obtain rfl := Option.some.inj hσ
  clear hσ
  refine rn rfl ?_
  refine goal_loop_keep (fun m σ => ∃ (q : Int) (i L : Nat) (ys : List Param), q = i ∧ L = s.length ∧ i ≤ s.length ∧ m = s.length - i ∧ ys = tQ (s.take i) ++ s.drop i ∧
      σ = ⟨[(9, .one (.int .i64 q)), (8, .one (.op 2 0 0)), (6, .one (.op 0 0 0)), (4, .one (.op 1 0 0))],
        [some ⟨1, [eBi b], false, false, true⟩, some ⟨2, [[.fs [], .fs []]], false, false, true⟩, some ⟨1, [[.os 3 0 L L]], false, false, true⟩, ownQ ys], []⟩) s.length [9, 8, 6, 4] [3, 2, 5, 4] rfl
    ⟨_, 0, _, s, rfl, rfl, by omega, by omega, by simp [tQ], rfl⟩ ?_
  rintro m σ ⟨q, i, L, ys, rfl, rfl, hi, rfl, hys, rfl⟩
  have hyl : ys.length = s.length := by rw [hys]; simp [tQ]; omega
  refine rn rfl ?_
  refine goal_cond rfl (fun hc => ?_) (fun hc => ?_) <;> (try simp only [gt_iff_lt, ge_iff_le, bne_iff_ne, ne_eq, bne_eq_false_iff_eq, beq_iff_eq, beq_eq_false_iff_ne, Bool.not_eq_true', Bool.not_eq_false', decide_eq_true_eq, decide_eq_false_iff_not, List.length_map] at hc)
  · obtain ⟨p, hp⟩ := at_some (xs := s) (i := i) (by omega)
    have hyp : ys[i]? = some p := by
      rw [hys, List.getElem?_append_right (by simp [tQ]; omega)]
      simp [tQ, List.getElem?_drop]
      rw [show i - min i s.length = 0 by omega, Nat.add_zero]; exact hp
    have hset : ∀ y : Param, ys.set i y = tQ (s.take i) ++ y :: s.drop (i + 1) := fun y => by
      rw [hys, drop_at hp, List.set_append]
      have e : (tQ (s.take i)).length = i := by simp [tQ]; omega
      rw [if_neg (by omega), e]; simp
    have hnext : tQ (s.take (i + 1)) ++ s.drop (i + 1) = ys.set i (tQ1 p) := by
      rw [hset, ← take_snoc hp]; simp [tQ]
    refine rn rfl ?_
    refine goal_did rfl rfl (dA_indexOwn rfl rfl rfl rfl rfl rfl rfl rfl rfl (by omega) (by omega)) ?_
    refine goal_did rfl rfl (dA_step rfl) ?_
    refine goal_did rfl rfl (dA_loadEl (eQ p) rfl rfl rfl rfl (map_at (by simpa using hyp)) rfl rfl rfl) ?_
    refine rn rfl ?_
    refine goal_cond rfl (fun h1 => ?_) (fun h1 => ?_) <;> (try simp only [gt_iff_lt, ge_iff_le, bne_iff_ne, ne_eq, bne_eq_false_iff_eq, beq_iff_eq, beq_eq_false_iff_ne, Bool.not_eq_true', Bool.not_eq_false', decide_eq_true_eq, decide_eq_false_iff_not, List.length_map] at h1)
    · have e1 : tQ1 p = ⟨p.name, 3, p.hasD, p.dflt⟩ := by simp [tQ1, h1]
      refine rn rfl ?_
      refine goal_did rfl rfl (dA_indexOwn rfl rfl rfl rfl rfl rfl rfl rfl rfl (by omega) (by omega)) ?_
      refine goal_did rfl rfl (dA_step rfl) ?_
      refine goal_did rfl rfl (dA_storeEl (eQ p) ((ys.set i (tQ1 p)).map eQ) true rfl rfl rfl rfl rfl (map_at (by simpa using hyp)) rfl rfl (by simp [eQ]) (by rw [map_set, e1]; simp [patch, eQ]; rfl) (fun _ => noOwnR_map _ eQ_noOwn _)) ?_
      refine rn rfl ?_
      refine round_keep (s.length - (i + 1)) [9, 8, 6, 4] [0, 1, 2, 3] (by omega) rfl ⟨_, i + 1, _, ys.set i (tQ1 p), wrap64 (by omega) (by omega), rfl, by omega, rfl, hnext.symm, rfl⟩
    · have e1 : tQ1 p = p := by simp [tQ1, h1]
      rw [e1, set_same hyp] at hnext
      refine rn rfl ?_
      refine round_keep (s.length - (i + 1)) [9, 8, 6, 4] [0, 1, 2, 3] (by omega) rfl ⟨_, i + 1, _, ys, wrap64 (by omega) (by omega), rfl, by omega, rfl, hnext.symm, rfl⟩
  · refine rn rfl ?_
    refine round_ext ?_
    have hfin : ys = tQ s := by rw [hys, show i = s.length by omega]; simp
    rw [hfin]
    refine rn rfl ?_
    refine goal_step (step_callE [] rfl rfl rfl rfl rfl rfl (cons_eq (congrArg (fun x => T.agg [C.fs x]) (takeAll eQ (tQ s) s.length (by simp [tQ]))) rfl) (sunbound_ct (tQ s) b (tQ_okB h))) ?_
    rintro σ2 ⟨r, o', ⟨rfl, rfl⟩, hσ⟩
    obtain rfl := Option.some.inj hσ
    clear hσ
    refine rn rfl ?_
    refine goal_step (step_call [] rfl rfl rfl rfl rfl rfl (checkedFlat_ct (unbQ (tQ s) b) (by omega) (by omega) hnn)) ?_
    rintro σ2 ⟨r, o', ⟨rfl, rfl⟩, hσ⟩
    obtain rfl := Option.some.inj hσ
    clear hσ
    refine rn rfl ?_
    exact rn rfl (fin_is [] rfl ⟨rfl, rfl⟩)

theorem rF_noN (f : Flat) (b : Bool) : ∀ r o, (r = .tup [rF f, .one (.bool b)] ∧ o = oF f) → noFzT r = true ∧ noFzO o = true := by
  rintro r o ⟨rfl, rfl⟩; exact ⟨rfl, oF_noFz f⟩

theorem checkF_len (g : Flat) : (checkF g true).1.places.length ≤ 8000 ∧ (checkF g true).1.named.length ≤ 8000 := by
  unfold checkF
  split
  · rename_i h
    simp only [Bool.true_and] at h
    have := okFlat_iff.1 h
    exact ⟨by have := this.places; show g.places.length ≤ _; omega, by have := this.named; show g.named.length ≤ _; omega⟩
  · simp [zF]

theorem namF_len (s : Sig) (f : Flat) : (NamF s f).1.places.length ≤ 8000 ∧ (NamF s f).1.named.length ≤ 8000 := by
  unfold NamF
  split
  · rename_i hv
    simp only [Bool.and_eq_true] at hv
    obtain ⟨hs, hf⟩ := fitQ_iff.1 hv.1
    have h := bound_okB hs hf
    split
    · have hl := unb_len (boundQ s f).1 h.size (s.zip (boundQ s f).1) (zF, true) (fun z hz => (List.of_mem_zip hz).2)
      have hzl : (s.zip (boundQ s f).1).length = s.length := by simp [h.len]
      have := h.few
      unfold unbQ
      simp only [zF, List.length_nil, hzl] at hl ⊢
      omega
    · exact checkF_len _
  · simp [zF]

theorem inamedD_ctF (s : Sig) (f : Flat) (hls : LenS s) (hlf : LenF f) : ACalls pk 52 [.agg (eG s), .agg (eF f)] [] (fun r o => r = .tup [.agg (eF (NamF s f).1), .one (.bool (NamF s f).2)] ∧ o = []) :=
  (inamed_ctF s f hls hlf).told [] (by rintro r o ⟨rfl, rfl⟩; exact ⟨_, _, rfl, congrArg (fun t => T.tup [t, .one (.bool (NamF s f).2)]) (asFl _), rfl⟩)

theorem fnExactNamedFlat_ct (s : Sig) (f : Flat) (hp : FitsS s) (hf : Fits f) : ACalls pk 9 [.agg (eG s), .agg (eF f)] [] (fun r o => r = .one (.bool true) ∧ o = []) := by
  refine acalls_of_body Try.func9 rfl (by kernel_rfl) rfl ?_
  refine rn rfl ?_
  refine goal_step (step_call [] rfl rfl rfl rfl rfl rfl (szSig_ct s 1048576 (by omega) (by omega) hp)) ?_
  rintro σ2 ⟨r, o', ⟨rfl, rfl⟩, hσ⟩
  obtain rfl := Option.some.inj hσ
  clear hσ
  refine rn rfl ?_
  refine goal_cond rfl (fun h => ?_) (fun h => ?_) <;> (try simp only [gt_iff_lt, ge_iff_le, bne_iff_ne, ne_eq, bne_eq_false_iff_eq, beq_iff_eq, beq_eq_false_iff_ne, Bool.not_eq_true', Bool.not_eq_false', decide_eq_true_eq, decide_eq_false_iff_not, List.length_map] at h)
  · exact rn rfl (fin_is [] rfl ⟨rfl, rfl⟩)
  obtain ⟨p0, p3⟩ := szParamS_ok (by omega) h
  refine rn rfl ?_
  refine goal_step (step_call [] rfl rfl rfl rfl rfl rfl (szFlat_ct f (szParamS s 1048576) (by omega) (by omega) hf)) ?_
  rintro σ2 ⟨r, o', ⟨rfl, rfl⟩, hσ⟩
  obtain rfl := Option.some.inj hσ
  clear hσ
  refine rn rfl ?_
  refine goal_cond rfl (fun h2 => ?_) (fun h2 => ?_) <;> (try simp only [gt_iff_lt, ge_iff_le, bne_iff_ne, ne_eq, bne_eq_false_iff_eq, beq_iff_eq, beq_eq_false_iff_ne, Bool.not_eq_true', Bool.not_eq_false', decide_eq_true_eq, decide_eq_false_iff_not, List.length_map] at h2)
  · exact rn rfl (fin_is [] rfl ⟨rfl, rfl⟩)
  obtain ⟨f1, f2, f3⟩ := fits_of_szF (by omega) (by omega) h2
  have lp : LenS s := ⟨by omega, hp.names⟩
  have lf : LenF f := ⟨by omega, by omega, hf.names⟩
  obtain ⟨g1, g2⟩ := namF_len s f
  have hi := inamed_ctF s f lp lf
  have hd := inamedD_ctF s f lp lf
  have hs := snamed_ctF s f lp lf
  generalize (NamF s f).1 = R at *
  generalize (NamF s f).2 = b at *
  refine rt1 8 rfl ?_
  refine goal_cutR (fun σ' => σ' = ⟨[(7, .one (.bool b)), (6, .one (.op 2 0 0)), (3, .one (.op 1 0 0)), (2, .one (.op 0 0 0))],
    [some ⟨1, [eG s], false, false, true⟩, some ⟨2, [eF f], false, false, true⟩, some ⟨2, [eF R], false, false, true⟩], []⟩) ?_ ?_
  · refine goal_draw' [0, 1] 11 rfl ?_
    refine drn [0, 2] (by kernel_rfl) (by kernel_rfl) rfl rfl ?_
    refine AH_two (i := 1) (j := 8) (by kernel_rfl) (step_call [] rfl rfl rfl rfl rfl rfl (toSigD_ct s (by omega))) (by simp) (step_did rfl rfl (dA_step rfl)) (mdOk rfl) ?_ ?_
    · rintro σ2 ⟨r, o', ⟨rfl, rfl⟩, hσ⟩
      obtain rfl := Option.some.inj hσ
      clear hσ
      refine AH_two (i := 3) (j := 8) (by kernel_rfl) (step_call [] rfl rfl rfl rfl rfl rfl (toFlatD_ct f (by omega) (by omega))) (by simp) (step_did rfl rfl (dA_step rfl)) (mdOk rfl) ?_ ?_
      · rintro σ2 ⟨r, o', ⟨rfl, rfl⟩, hσ⟩
        obtain rfl := Option.some.inj hσ
        clear hσ
        refine AH_two (i := 4) (j := 8) (by kernel_rfl) (step_call [] rfl rfl rfl rfl rfl rfl (hs)) (by simp) (step_did rfl rfl (dA_step rfl)) (mdOk rfl) ?_ ?_
        · rintro σ2 ⟨r, o', ⟨rfl, rfl⟩, hσ⟩
          obtain rfl := Option.some.inj hσ
          clear hσ
          refine drn [5, 6, 7] (by kernel_rfl) (by kernel_rfl) rfl rfl ?_
          refine AH_oneDid 8 rfl (by kernel_rfl) rfl (dA_step rfl) (mdOk rfl) ?_
          refine AH_oneDid 9 rfl (by kernel_rfl) rfl (dA_step rfl) (mdOk rfl) ?_
          refine drn [10] (by kernel_rfl) (by kernel_rfl) rfl rfl ?_
          refine AH_end (by kernel_rfl) ?_
          refine rn rfl ?_
          exact cut_nrm [7, 6, 3, 2] [0, 1, 2] rfl rfl
        · rintro _ rfl
          refine AH_one (i := 4) (by kernel_rfl) (step_call [] rfl rfl rfl rfl rfl rfl (hs)) (by simp) ?_
          rintro σ2 ⟨r, o', ⟨rfl, rfl⟩, hσ⟩
          obtain rfl := Option.some.inj hσ
          clear hσ
          refine drn [5, 6, 7] (by kernel_rfl) (by kernel_rfl) rfl rfl ?_
          refine AH_oneDid 9 rfl (by kernel_rfl) rfl (dA_step rfl) (mdOk rfl) ?_
          refine drn [10] (by kernel_rfl) (by kernel_rfl) rfl rfl ?_
          refine AH_end (by kernel_rfl) ?_
          refine rn rfl ?_
          exact cut_nrm [7, 6, 3, 2] [0, 1, 2] rfl rfl
      · rintro _ rfl
        refine AH_one (i := 3) (by kernel_rfl) (step_call [] rfl rfl rfl rfl rfl rfl (toFlatD_ct f (by omega) (by omega))) (by simp) ?_
        rintro σ2 ⟨r, o', ⟨rfl, rfl⟩, hσ⟩
        obtain rfl := Option.some.inj hσ
        clear hσ
        refine AH_one (i := 4) (by kernel_rfl) (step_call [] rfl rfl rfl rfl rfl rfl (hs)) (by simp) ?_
        rintro σ2 ⟨r, o', ⟨rfl, rfl⟩, hσ⟩
        obtain rfl := Option.some.inj hσ
        clear hσ
        refine drn [5, 6, 7] (by kernel_rfl) (by kernel_rfl) rfl rfl ?_
        refine AH_oneDid 9 rfl (by kernel_rfl) rfl (dA_step rfl) (mdOk rfl) ?_
        refine drn [10] (by kernel_rfl) (by kernel_rfl) rfl rfl ?_
        refine AH_end (by kernel_rfl) ?_
        refine rn rfl ?_
        exact cut_nrm [7, 6, 3, 2] [0, 1, 2] rfl rfl
    · rintro _ rfl
      refine AH_one (i := 1) (by kernel_rfl) (step_call [] rfl rfl rfl rfl rfl rfl (toSigD_ct s (by omega))) (by simp) ?_
      rintro σ2 ⟨r, o', ⟨rfl, rfl⟩, hσ⟩
      obtain rfl := Option.some.inj hσ
      clear hσ
      refine AH_one (i := 3) (by kernel_rfl) (step_call [] rfl rfl rfl rfl rfl rfl (toFlatD_ct f (by omega) (by omega))) (by simp) ?_
      rintro σ2 ⟨r, o', ⟨rfl, rfl⟩, hσ⟩
      obtain rfl := Option.some.inj hσ
      clear hσ
      refine AH_one (i := 4) (by kernel_rfl) (step_call [] rfl rfl rfl rfl rfl rfl (hs)) (by simp) ?_
      rintro σ2 ⟨r, o', ⟨rfl, rfl⟩, hσ⟩
      obtain rfl := Option.some.inj hσ
      clear hσ
      refine drn [5, 6, 7] (by kernel_rfl) (by kernel_rfl) rfl rfl ?_
      refine AH_oneDid 9 rfl (by kernel_rfl) rfl (dA_step rfl) (mdOk rfl) ?_
      refine drn [10] (by kernel_rfl) (by kernel_rfl) rfl rfl ?_
      refine AH_end (by kernel_rfl) ?_
      refine rn rfl ?_
      exact cut_nrm [7, 6, 3, 2] [0, 1, 2] rfl rfl
  rintro _ rfl
  refine rn rfl ?_
  refine goal_step (step_call [] rfl rfl rfl rfl rfl rfl (toSig_ct s (by omega))) ?_
  rintro σ2 ⟨r, o', ⟨rfl, rfl⟩, hσ⟩
  obtain rfl := Option.some.inj hσ
  clear hσ
  refine rn rfl ?_
  refine rn rfl ?_
  refine goal_step (step_call [] rfl rfl rfl rfl rfl rfl (toFlat_ct f (by omega) (by omega))) ?_
  rintro σ2 ⟨r, o', ⟨rfl, rfl⟩, hσ⟩
  obtain rfl := Option.some.inj hσ
  clear hσ
  refine rn rfl ?_
  refine rn rfl ?_
  refine goal_step (step_lendE [] rfl rfl rfl rfl rfl rfl rfl (cons_eq (asG s) (cons_eq (asFl f) rfl)) (hi) (rF_noN R b)) ?_
  rintro σ2 ⟨r, o', ⟨rfl, rfl⟩, hσ⟩
  obtain rfl := Option.some.inj hσ
  clear hσ
  refine rn rfl ?_
  have e1 : (!(decide (R = R))) = false := by simp
  refine goal_step (step_lendE [] rfl rfl rfl rfl rfl rfl rfl (cons_eq (asFl R) rfl) (eqFlat_ct R R (by omega) (by omega)) (by rintro r o ⟨rfl, rfl⟩; exact ⟨rfl, rfl⟩)) ?_
  rintro σ2 ⟨r, o', ⟨rfl, rfl⟩, hσ⟩
  obtain rfl := Option.some.inj hσ
  clear hσ
  refine rn rfl ?_
  simp only [e1]
  refine goal_guard rfl rfl rfl (fun h1 => by cases h1) (fun _ => ?_)
  refine rn rfl ?_
  refine goal_cond rfl (fun h => by simp at h) (fun _ => ?_)
  refine rn rfl ?_
  refine goal_draw' [0, 4] 5 rfl ?_
  refine drn [0, 1] (by kernel_rfl) (by kernel_rfl) rfl rfl ?_
  refine AH_one (i := 2) (by kernel_rfl) (step_call [] rfl rfl rfl rfl rfl rfl (toSigD_ct s (by omega))) (by simp) ?_
  rintro σ2 ⟨r, o', ⟨rfl, rfl⟩, hσ⟩
  obtain rfl := Option.some.inj hσ
  clear hσ
  refine AH_one (i := 3) (by kernel_rfl) (step_lendE [] rfl rfl rfl rfl rfl rfl rfl (cons_eq (asG s) rfl) (eqSig_ct s (by omega)) (by rintro r o ⟨rfl, rfl⟩; exact ⟨rfl, rfl⟩)) (by simp) ?_
  rintro σ2 ⟨r, o', ⟨rfl, rfl⟩, hσ⟩
  obtain rfl := Option.some.inj hσ
  clear hσ
  refine drn [4] (by kernel_rfl) (by kernel_rfl) rfl rfl ?_
  refine AH_end (by kernel_rfl) ?_
  refine rn rfl ?_
  refine goal_cond rfl (fun h => by simp at h) (fun _ => ?_)
  refine rn rfl ?_
  refine goal_draw' [1, 7] 5 rfl ?_
  refine drn [0, 1] (by kernel_rfl) (by kernel_rfl) rfl rfl ?_
  refine AH_one (i := 2) (by kernel_rfl) (step_call [] rfl rfl rfl rfl rfl rfl (toFlatD_ct f (by omega) (by omega))) (by simp) ?_
  rintro σ2 ⟨r, o', ⟨rfl, rfl⟩, hσ⟩
  obtain rfl := Option.some.inj hσ
  clear hσ
  refine AH_one (i := 3) (by kernel_rfl) (step_lendE [] rfl rfl rfl rfl rfl rfl rfl (cons_eq (asFl f) rfl) (eqFlat_ct f f (by omega) (by omega)) (by rintro r o ⟨rfl, rfl⟩; exact ⟨rfl, rfl⟩)) (by simp) ?_
  rintro σ2 ⟨r, o', ⟨rfl, rfl⟩, hσ⟩
  obtain rfl := Option.some.inj hσ
  clear hσ
  refine drn [4] (by kernel_rfl) (by kernel_rfl) rfl rfl ?_
  refine AH_end (by kernel_rfl) ?_
  refine rn rfl ?_
  refine goal_cond rfl (fun h => by simp at h) (fun _ => ?_)
  refine rn rfl ?_
  refine goal_step (step_call [3] rfl rfl rfl rfl rfl rfl (markSig_ct s 1 _ (by omega) (by omega) (by omega))) ?_
  rintro σ2 ⟨r, o', ⟨rfl, rfl⟩, hσ⟩
  obtain rfl := Option.some.inj hσ
  clear hσ
  refine rn rfl ?_
  refine rn rfl ?_
  refine goal_step (step_call [5, 6] rfl rfl rfl rfl rfl rfl (markFlatK_ct f _ _ _ (by omega) (by omega) (by omega) (by omega))) ?_
  rintro σ2 ⟨r, o', ⟨rfl, rfl⟩, hσ⟩
  obtain rfl := Option.some.inj hσ
  clear hσ
  refine rn rfl ?_
  refine rn rfl ?_
  refine goal_guard rfl rfl rfl (fun h => ?_) (fun h => ?_) <;> (try simp only [gt_iff_lt, ge_iff_le, bne_iff_ne, ne_eq, bne_eq_false_iff_eq, beq_iff_eq, beq_eq_false_iff_ne, Bool.not_eq_true', Bool.not_eq_false', decide_eq_true_eq, decide_eq_false_iff_not, List.length_map] at h)
  · omega
  refine rn rfl ?_
  refine goal_step (step_lendE [] rfl rfl rfl rfl rfl rfl rfl (cons_eq (asFl R) rfl) (eqFlat_ct R R (by omega) (by omega)) (by rintro r o ⟨rfl, rfl⟩; exact ⟨rfl, rfl⟩)) ?_
  rintro σ2 ⟨r, o', ⟨rfl, rfl⟩, hσ⟩
  obtain rfl := Option.some.inj hσ
  clear hσ
  refine rn rfl ?_
  simp only [e1]
  refine goal_guard rfl rfl rfl (fun h1 => by cases h1) (fun _ => ?_)
  refine rn rfl ?_
  refine goal_cond rfl (fun h => by simp at h) (fun _ => ?_)
  refine rn rfl ?_
  refine goal_step (step_call [8, 9] rfl rfl rfl rfl rfl rfl (markFlat_ct R _ _ (by omega) (by omega))) ?_
  rintro σ2 ⟨r, o', ⟨rfl, rfl⟩, hσ⟩
  obtain rfl := Option.some.inj hσ
  clear hσ
  refine rn rfl ?_
  refine rn rfl ?_
  have hsq : [T.agg [C.fs (List.take R.places.length (List.drop 0 ((seqF R.places.length R.named.length).places.map eI))), C.fs (List.take R.named.length (List.drop 0 ((seqF R.places.length R.named.length).named.map eP)))], T.one (.int .i64 1)] = [T.agg (eF (seqF R.places.length R.named.length)), T.one (.int .i64 1)] := by
    simp [eF, seqF, List.take_of_length_le, seqI_length, seqP_length]
  refine goal_step (step_lendE [] rfl rfl rfl rfl rfl rfl rfl (hsq) (heldFlat_ct R.places.length R.named.length (by omega) (by omega)) (by rintro r o ⟨rfl, rfl⟩; exact ⟨rfl, rfl⟩)) ?_
  rintro σ2 ⟨r, o', ⟨rfl, rfl⟩, hσ⟩
  obtain rfl := Option.some.inj hσ
  clear hσ
  refine rn rfl ?_
  refine goal_cond rfl (fun h => ?_) (fun h => ?_) <;> simp only [decide_eq_true_eq, decide_eq_false_iff_not] at h
  · omega
  refine rn rfl ?_
  refine goal_cond rfl (fun h => by simp at h) (fun _ => ?_)
  refine rt1 31 rfl ?_
  refine goal_cutR (fun σ' => σ' = ⟨[(16, .one (.bool b)), (15, .one (.op 4 0 0)), (13, .one (.int .i64 (1 + R.places.length + 2 * R.named.length))), (10, .one (.op 1 0 0)), (7, .one (.bool b)), (6, .one (.op 0 0 0))],
    [some ⟨2, [eF R], false, false, true⟩, some ⟨2, [[.os 2 0 R.places.length R.places.length, .os 3 0 R.named.length R.named.length]], false, false, true⟩,
     ownI (seqF R.places.length R.named.length).places, ownP (seqF R.places.length R.named.length).named, some ⟨2, [eF R], false, false, true⟩], []⟩) ?_ ?_
  · refine goal_draw' [0, 1] 11 rfl ?_
    refine drn [0, 2] (by kernel_rfl) (by kernel_rfl) rfl rfl ?_
    refine AH_two (i := 1) (j := 8) (by kernel_rfl) (step_call [] rfl rfl rfl rfl rfl rfl (toSigD_ct s (by omega))) (by simp) (step_did rfl rfl (dA_step rfl)) (mdOk rfl) ?_ ?_
    · rintro σ2 ⟨r, o', ⟨rfl, rfl⟩, hσ⟩
      obtain rfl := Option.some.inj hσ
      clear hσ
      refine AH_two (i := 3) (j := 8) (by kernel_rfl) (step_call [] rfl rfl rfl rfl rfl rfl (toFlatD_ct f (by omega) (by omega))) (by simp) (step_did rfl rfl (dA_step rfl)) (mdOk rfl) ?_ ?_
      · rintro σ2 ⟨r, o', ⟨rfl, rfl⟩, hσ⟩
        obtain rfl := Option.some.inj hσ
        clear hσ
        refine AH_two (i := 4) (j := 8) (by kernel_rfl) (step_call [] rfl rfl rfl rfl rfl rfl (hd)) (by simp) (step_did rfl rfl (dA_step rfl)) (mdOk rfl) ?_ ?_
        · rintro σ2 ⟨r, o', ⟨rfl, rfl⟩, hσ⟩
          obtain rfl := Option.some.inj hσ
          clear hσ
          refine drn [5, 6, 7] (by kernel_rfl) (by kernel_rfl) rfl rfl ?_
          refine AH_oneDid 8 rfl (by kernel_rfl) rfl (dA_step rfl) (mdOk rfl) ?_
          refine AH_oneDid 9 rfl (by kernel_rfl) rfl (dA_step rfl) (mdOk rfl) ?_
          refine drn [10] (by kernel_rfl) (by kernel_rfl) rfl rfl ?_
          refine AH_end (by kernel_rfl) ?_
          refine rn rfl ?_
          exact cut_nrm [16, 15, 13, 10, 7, 6] [2, 10, 8, 9, 11] rfl rfl
        · rintro _ rfl
          refine AH_one (i := 4) (by kernel_rfl) (step_call [] rfl rfl rfl rfl rfl rfl (hd)) (by simp) ?_
          rintro σ2 ⟨r, o', ⟨rfl, rfl⟩, hσ⟩
          obtain rfl := Option.some.inj hσ
          clear hσ
          refine drn [5, 6, 7] (by kernel_rfl) (by kernel_rfl) rfl rfl ?_
          refine AH_oneDid 9 rfl (by kernel_rfl) rfl (dA_step rfl) (mdOk rfl) ?_
          refine drn [10] (by kernel_rfl) (by kernel_rfl) rfl rfl ?_
          refine AH_end (by kernel_rfl) ?_
          refine rn rfl ?_
          exact cut_nrm [16, 15, 13, 10, 7, 6] [2, 10, 8, 9, 11] rfl rfl
      · rintro _ rfl
        refine AH_one (i := 3) (by kernel_rfl) (step_call [] rfl rfl rfl rfl rfl rfl (toFlatD_ct f (by omega) (by omega))) (by simp) ?_
        rintro σ2 ⟨r, o', ⟨rfl, rfl⟩, hσ⟩
        obtain rfl := Option.some.inj hσ
        clear hσ
        refine AH_one (i := 4) (by kernel_rfl) (step_call [] rfl rfl rfl rfl rfl rfl (hd)) (by simp) ?_
        rintro σ2 ⟨r, o', ⟨rfl, rfl⟩, hσ⟩
        obtain rfl := Option.some.inj hσ
        clear hσ
        refine drn [5, 6, 7] (by kernel_rfl) (by kernel_rfl) rfl rfl ?_
        refine AH_oneDid 9 rfl (by kernel_rfl) rfl (dA_step rfl) (mdOk rfl) ?_
        refine drn [10] (by kernel_rfl) (by kernel_rfl) rfl rfl ?_
        refine AH_end (by kernel_rfl) ?_
        refine rn rfl ?_
        exact cut_nrm [16, 15, 13, 10, 7, 6] [2, 10, 8, 9, 11] rfl rfl
    · rintro _ rfl
      refine AH_one (i := 1) (by kernel_rfl) (step_call [] rfl rfl rfl rfl rfl rfl (toSigD_ct s (by omega))) (by simp) ?_
      rintro σ2 ⟨r, o', ⟨rfl, rfl⟩, hσ⟩
      obtain rfl := Option.some.inj hσ
      clear hσ
      refine AH_one (i := 3) (by kernel_rfl) (step_call [] rfl rfl rfl rfl rfl rfl (toFlatD_ct f (by omega) (by omega))) (by simp) ?_
      rintro σ2 ⟨r, o', ⟨rfl, rfl⟩, hσ⟩
      obtain rfl := Option.some.inj hσ
      clear hσ
      refine AH_one (i := 4) (by kernel_rfl) (step_call [] rfl rfl rfl rfl rfl rfl (hd)) (by simp) ?_
      rintro σ2 ⟨r, o', ⟨rfl, rfl⟩, hσ⟩
      obtain rfl := Option.some.inj hσ
      clear hσ
      refine drn [5, 6, 7] (by kernel_rfl) (by kernel_rfl) rfl rfl ?_
      refine AH_oneDid 9 rfl (by kernel_rfl) rfl (dA_step rfl) (mdOk rfl) ?_
      refine drn [10] (by kernel_rfl) (by kernel_rfl) rfl rfl ?_
      refine AH_end (by kernel_rfl) ?_
      refine rn rfl ?_
      exact cut_nrm [16, 15, 13, 10, 7, 6] [2, 10, 8, 9, 11] rfl rfl
  rintro _ rfl
  refine rn rfl ?_
  refine goal_step (step_call [] rfl rfl rfl rfl rfl rfl (eqFlat_ct R R (by omega) (by omega))) ?_
  rintro σ2 ⟨r, o', ⟨rfl, rfl⟩, hσ⟩
  obtain rfl := Option.some.inj hσ
  clear hσ
  refine rn rfl ?_
  simp only [e1]
  refine goal_guard rfl rfl rfl (fun h1 => by cases h1) (fun _ => ?_)
  refine rn rfl ?_
  refine goal_cond rfl (fun h => by simp at h) (fun _ => ?_)
  refine rn rfl ?_
  refine goal_step (step_lendE [] rfl rfl rfl rfl rfl rfl rfl (hsq) (heldFlat_ct R.places.length R.named.length (by omega) (by omega)) (by rintro r o ⟨rfl, rfl⟩; exact ⟨rfl, rfl⟩)) ?_
  rintro σ2 ⟨r, o', ⟨rfl, rfl⟩, hσ⟩
  obtain rfl := Option.some.inj hσ
  clear hσ
  refine rn rfl ?_
  refine goal_cond rfl (fun h => ?_) (fun h => ?_) <;> simp only [decide_eq_true_eq, decide_eq_false_iff_not] at h
  · omega
  refine rn rfl ?_
  refine goal_cond rfl (fun h => by simp at h) (fun _ => ?_)
  exact rn rfl (fin_is [] rfl ⟨rfl, rfl⟩)

end Go.Proofs.Ytodggffbepfemaa
