/- Part 4 of the proof: an abstract machine over the model; contracts of the functions that the law reaches. -/
import Derived.Test.YtodggffbepfemaaKLeanFlat3
set_option linter.unusedVariables false
set_option linter.unusedSimpArgs false
namespace Go.Proofs.Ytodggffbepfemaa
open Go
set_option maxRecDepth 100000
set_option maxHeartbeats 1000000

def hd0 (xs : List Int) : Int := xs.headD 0

def stU (st : Flat × Bool) (px : Param × Slot) : Flat × Bool :=
  if px.1.kind = 2 then (⟨st.1.places ++ px.2.list, st.1.named⟩, st.2)
  else if px.1.kind = 4 then (⟨st.1.places, st.1.named ++ px.2.pairs⟩, st.2)
  else if px.2.given = false then (st.1, st.2 && !placedQ px.1)
  else if placedQ px.1 && st.2 then (⟨st.1.places ++ [hd0 px.2.list], st.1.named⟩, st.2)
  else (⟨st.1.places, st.1.named ++ [⟨px.1.name, hd0 px.2.list⟩]⟩, st.2)

def unbQ (s : Sig) (b : Bnds) : Flat := ((s.zip b).foldl stU (zF, true)).1

structure OkB (s : Sig) (b : Bnds) : Prop where
  len : b.length = s.length
  few : s.length ≤ 8
  kinds : ∀ p ∈ s, 0 ≤ p.kind ∧ p.kind ≤ 4
  one : ∀ (i : Nat) (p : Param) (x : Slot), s[i]? = some p → b[i]? = some x → singleQ p = true → x.given = true → ∃ v, x.list = [v]
  size : ∀ x ∈ b, x.list.length ≤ 1000 ∧ x.pairs.length ≤ 1000

theorem stU_len (st : Flat × Bool) (p : Param) (x : Slot) (h : x.list.length ≤ 1000 ∧ x.pairs.length ≤ 1000) : (stU st (p, x)).1.places.length ≤ st.1.places.length + 1000 ∧ (stU st (p, x)).1.named.length ≤ st.1.named.length + 1000 := by
  unfold stU
  simp only
  split
  · simp; omega
  · split
    · simp; omega
    · split
      · simp
      · split <;> simp

theorem unb_len (b : Bnds) (hb : ∀ x ∈ b, x.list.length ≤ 1000 ∧ x.pairs.length ≤ 1000) : ∀ (zs : List (Param × Slot)) (st : Flat × Bool), (∀ z ∈ zs, z.2 ∈ b) → (zs.foldl stU st).1.places.length ≤ st.1.places.length + 1000 * zs.length ∧ (zs.foldl stU st).1.named.length ≤ st.1.named.length + 1000 * zs.length
  | [], st, _ => by simp
  | z :: zs, st, h => by
    have h1 := unb_len b hb zs (stU st z) (fun y hy => h y (by simp [hy]))
    have h2 := stU_len st z.1 z.2 (hb _ (h z (by simp)))
    rw [List.foldl_cons]
    simp only [List.length_cons]
    have e : stU st z = stU st (z.1, z.2) := rfl
    rw [← e] at h2
    omega

theorem kind_split {p : Param} (h : 0 ≤ p.kind ∧ p.kind ≤ 4) : placedQ p = true ∨ p.kind = 2 ∨ p.kind = 3 ∨ p.kind = 4 := by
  rw [placed_kind]; omega

theorem iunbind_ct (s : Sig) (b : Bnds) (h : OkB s b) : ACalls pk 114 [.agg (eG s), .agg (eBi b)] [] (fun r o => r = rF (unbQ s b) ∧ o = oF (unbQ s b)) := by
  have hlen := h.len
  have hfew := h.few
  have hzl : (s.zip b).length = s.length := by simp [hlen]
  refine acalls_of_body Try.func114 rfl (by kernel_rfl) rfl ?_
  refine rn rfl ?_
  refine goal_weakCod (Weak.adoptO 3 0 1) ?_
  refine goal_weakCod (Weak.adoptO 3 1 2) ?_
  refine goal_loop_keep (fun m σ => ∃ (q L : Int) (i l1 l2 : Nat) (ob : Bool) (F : Flat), q = i ∧ L = s.length ∧ i ≤ s.length ∧ m = s.length - i ∧ l1 = F.places.length ∧ l2 = F.named.length ∧ (F, ob) = ((s.zip b).take i).foldl stU (zF, true) ∧
      σ = ⟨[(13, .one (.int .i64 q)), (12, .one (.int .i64 L)), (11, .one (.fs (s.map eQ))), (6, .one (.bool ob)), (5, .one (.op 2 0 0)), (4, .one (.op 1 0 0)), (3, .one (.op 0 0 0))],
        [some ⟨1, [eBi b], false, false, true⟩, some ⟨2, [[.fs [], .fs []]], false, false, true⟩, some ⟨2, [[.os 3 0 l1 l1, .os 4 0 l2 l2]], false, false, true⟩, ownI F.places, ownP F.named], []⟩) s.length [13, 12, 11, 6, 5, 4, 3] [1, 2, 3, 4, 5] rfl
    ⟨_, _, 0, 0, 0, _, zF, rfl, ?_, by omega, by omega, rfl, rfl, rfl, rfl⟩ ?_
  · simp
  rintro m σ ⟨q, L, i, l1, l2, ob, F, rfl, rfl, hi, rfl, rfl, rfl, hF, rfl⟩
  have hln := unb_len b h.size ((s.zip b).take i) (zF, true) (fun z hz => by
    have := List.mem_of_mem_take hz
    exact (List.of_mem_zip this).2)
  rw [← hF] at hln
  simp only [List.length_take, hzl, zF, List.length_nil] at hln
  refine rn rfl ?_
  refine goal_cond rfl (fun hc => ?_) (fun hc => ?_) <;> (try simp only [gt_iff_lt, ge_iff_le, bne_iff_ne, ne_eq, bne_eq_false_iff_eq, beq_iff_eq, beq_eq_false_iff_ne, Bool.not_eq_true', Bool.not_eq_false', decide_eq_true_eq, decide_eq_false_iff_not, List.length_map] at hc)
  · obtain ⟨p, hp⟩ := at_some (xs := s) (i := i) (by omega)
    obtain ⟨x, hx⟩ := at_some (xs := b) (i := i) (by omega)
    have hsz := h.size x (List.mem_of_getElem? hx)
    have hz : (s.zip b)[i]? = some (p, x) := by rw [List.getElem?_zip_eq_some]; exact ⟨hp, hx⟩
    have hst : ((s.zip b).take (i + 1)).foldl stU (zF, true) = stU (F, ob) (p, x) := by rw [foldl_take_succ _ _ hz, ← hF]
    have hone := h.one i p x hp hx
    have hk := h.kinds p (List.mem_of_getElem? hp)
    refine rn rfl ?_
    refine goal_did rfl rfl (dA_index (eQ p) rfl rfl rfl rfl rfl rfl rfl (by omega) (by (try simp); omega) (map_at (by simpa using hp)) rfl) ?_
    refine rn rfl ?_
    refine goal_did rfl rfl (dA_index (eL x) rfl rfl rfl rfl rfl rfl rfl (by omega) (by (try simp); omega) (map_at (by simpa using hx)) rfl) ?_
    refine rn rfl ?_
    cases hpl : placedQ p with
    | true =>
      have hk2 : p.kind ≠ 2 ∧ p.kind ≠ 4 := by rw [placed_kind] at hpl; omega
      refine goal_step (step_call [] rfl rfl rfl rfl rfl rfl (iplaced_ct p)) ?_
      rintro σ2 ⟨r, o', ⟨rfl, rfl⟩, hσ⟩
      obtain rfl := Option.some.inj hσ
      clear hσ
      refine rn rfl ?_
      refine goal_guard rfl rfl rfl (fun _ => ?_) (fun h0 => by rw [hpl] at h0; cases h0)
      refine rn rfl ?_
      refine goal_guard rfl rfl rfl (fun ho => ?_) (fun ho => ?_) <;> (try simp only [gt_iff_lt, ge_iff_le, bne_iff_ne, ne_eq, bne_eq_false_iff_eq, beq_iff_eq, beq_eq_false_iff_ne, Bool.not_eq_true', Bool.not_eq_false', decide_eq_true_eq, decide_eq_false_iff_not, List.length_map] at ho)
      · subst ho
        refine rn rfl ?_
        refine goal_cond rfl (fun hg => ?_) (fun hg => ?_) <;> (try simp only [gt_iff_lt, ge_iff_le, bne_iff_ne, ne_eq, bne_eq_false_iff_eq, beq_iff_eq, beq_eq_false_iff_ne, Bool.not_eq_true', Bool.not_eq_false', decide_eq_true_eq, decide_eq_false_iff_not, List.length_map] at hg)
        · obtain ⟨v, hv⟩ := hone (by simp [singleQ, hpl]) hg
          refine rn rfl ?_
          refine goal_cond rfl (fun _ => ?_) (fun h0 => by rw [hg] at h0; cases h0)
          refine rn rfl ?_
          refine goal_did rfl rfl (dA_append (old := (F.places).map eI) (rows := (x.list : List Int).map eI) (((F.places) ++ (x.list : List Int)).map eI) (F.places.length + x.list.length) true (Dst.own rfl rfl rfl rfl rfl (by first | (simp; done) | (simp; omega)) (whole (by first | (simp; done) | (simp; omega)))) (Src.fs rfl) rfl rfl rfl rfl rfl rfl rfl rfl (rows_len eI_len _) (rows_len eI_len _) (by (try simp only [List.length_map, List.length_append, List.length_cons, List.length_nil, List.length_take, List.length_drop]); show _ * 8 ≤ _; omega) (by first | (simp; done) | (simp; omega)) (by simp) (by first | (simp; done) | (simp; omega)) (fun _ => noOwnR_map _ eI_noOwn _)) ?_
          refine rn rfl ?_
          refine round_keep (s.length - (i + 1)) [13, 12, 11, 6, 5, 4, 3] [0, 1, 2, 7, 4] (by omega) rfl ⟨_, _, i + 1, F.places.length + x.list.length, F.named.length, true, ⟨F.places ++ x.list, F.named⟩, wrap64 (by omega) (by omega), rfl, by omega, rfl, by simp, by simp, by rw [hst]; simp [stU, hk2.1, hk2.2, hpl, hg, hv, hd0], rfl⟩
        · refine rn rfl ?_
          refine goal_cond rfl (fun h0 => by simp at h0; omega) (fun _ => ?_)
          refine rn rfl ?_
          refine goal_step (step_call [] rfl rfl rfl rfl rfl rfl (iplaced_ct p)) ?_
          rintro σ2 ⟨r, o', ⟨rfl, rfl⟩, hσ⟩
          obtain rfl := Option.some.inj hσ
          clear hσ
          refine rn rfl ?_
          refine goal_guard rfl rfl rfl (fun _ => ?_) (fun h0 => by rw [hpl] at h0; cases h0)
          refine rn rfl ?_
          refine goal_cond rfl (fun _ => ?_) (fun h0 => by simp [hg] at h0)
          refine rn rfl ?_
          refine round_keep (s.length - (i + 1)) [13, 12, 11, 6, 5, 4, 3] [0, 1, 2, 3, 4] (by omega) rfl ⟨_, _, i + 1, F.places.length, F.named.length, false, F, wrap64 (by omega) (by omega), rfl, by omega, rfl, by simp, by simp, by rw [hst]; simp [stU, hk2.1, hk2.2, hpl, hg], rfl⟩
      · subst ho
        refine rn rfl ?_
        refine goal_cond rfl (fun h0 => by simp at h0; omega) (fun _ => ?_)
        refine rn rfl ?_
        refine goal_step (step_call [] rfl rfl rfl rfl rfl rfl (iplaced_ct p)) ?_
        rintro σ2 ⟨r, o', ⟨rfl, rfl⟩, hσ⟩
        obtain rfl := Option.some.inj hσ
        clear hσ
        refine rn rfl ?_
        refine goal_guard rfl rfl rfl (fun _ => ?_) (fun h0 => by rw [hpl] at h0; cases h0)
        refine rn rfl ?_
        refine goal_cond rfl (fun hg => ?_) (fun hg => ?_) <;> (try simp only [gt_iff_lt, ge_iff_le, bne_iff_ne, ne_eq, bne_eq_false_iff_eq, beq_iff_eq, beq_eq_false_iff_ne, Bool.not_eq_true', Bool.not_eq_false', decide_eq_true_eq, decide_eq_false_iff_not, List.length_map] at hg)
        · refine rn rfl ?_
          refine round_keep (s.length - (i + 1)) [13, 12, 11, 6, 5, 4, 3] [0, 1, 2, 3, 4] (by omega) rfl ⟨_, _, i + 1, F.places.length, F.named.length, false, F, wrap64 (by omega) (by omega), rfl, by omega, rfl, by simp, by simp, by rw [hst]; simp [stU, hk2.1, hk2.2, hpl, hg], rfl⟩
        · refine rn rfl ?_
          refine goal_step (step_call [] rfl rfl rfl rfl rfl rfl (isingle_ct p)) ?_
          rintro σ2 ⟨r, o', ⟨rfl, rfl⟩, hσ⟩
          obtain rfl := Option.some.inj hσ
          clear hσ
          refine rn rfl ?_
          refine goal_guard rfl rfl rfl (fun _ => ?_) (fun h0 => by simp [singleQ, hpl] at h0)
          refine rn rfl ?_
          refine goal_cond rfl (fun _ => ?_) (fun h0 => by rw [hg] at h0; cases h0)
          obtain ⟨v, hv⟩ := hone (by simp [singleQ, hpl]) hg
          refine rn rfl ?_
          refine goal_drawL [2, 5, 6] [12] 13 rfl ?_
          refine drnL [0, 1, 2, 3, 4, 5] (by kernel_rfl) (by kernel_rfl) rfl rfl ?_
          refine AHL_did 6 rfl (by kernel_rfl) (by kernel_rfl) (by kernel_rfl) (by kernel_rfl) rfl rfl (dA_index (eI v) rfl rfl rfl rfl rfl rfl rfl (by omega) (by simp [hv]) (by simp [hv]) rfl) ?_
          refine drnL [7, 8] (by kernel_rfl) (by kernel_rfl) rfl rfl ?_
          refine AHL_oneDid 9 rfl (by kernel_rfl) rfl rfl (dA_step rfl) (mdOk rfl) ?_
          refine AHL_oneDid 10 rfl (by kernel_rfl) rfl rfl (dA_append (old := (F.named).map eP) (rows := ([⟨p.name, v⟩] : List Pair).map eP) (((F.named) ++ ([⟨p.name, v⟩] : List Pair)).map eP) (F.named.length + 1) true (Dst.own rfl rfl rfl rfl rfl (by first | (simp; done) | (simp; omega)) (whole (by first | (simp; done) | (simp; omega)))) (Src.os rfl rfl (Nat.le_refl 1) rfl) rfl rfl rfl rfl rfl rfl rfl rfl (rows_len eP_len _) (rows_len eP_len _) (by (try simp only [List.length_map, List.length_append, List.length_cons, List.length_nil, List.length_take, List.length_drop]); show _ * 24 ≤ _; omega) (by first | (simp; done) | (simp; omega)) (by simp) (by first | (simp; done) | (simp; omega)) (fun _ => noOwnR_map _ eP_noOwn _)) (mdOk rfl) ?_
          refine drnL [11] (by kernel_rfl) (by kernel_rfl) rfl rfl ?_
          refine AHL_lateDid 12 rfl (by kernel_rfl) rfl rfl (dA_step rfl) ?_
          refine AH_end (by kernel_rfl) ?_
          refine rn rfl ?_
          refine round_keep (s.length - (i + 1)) [13, 12, 11, 6, 5, 4, 3] [0, 1, 2, 3, 8] (by omega) rfl ⟨_, _, i + 1, F.places.length, F.named.length + 1, false, ⟨F.places, F.named ++ [⟨p.name, v⟩]⟩, wrap64 (by omega) (by omega), rfl, by omega, rfl, by simp, by simp, by rw [hst]; simp [stU, hk2.1, hk2.2, hpl, hg, hv, hd0], rfl⟩
    | false =>
      refine goal_step (step_call [] rfl rfl rfl rfl rfl rfl (iplaced_ct p)) ?_
      rintro σ2 ⟨r, o', ⟨rfl, rfl⟩, hσ⟩
      obtain rfl := Option.some.inj hσ
      clear hσ
      refine rn rfl ?_
      refine goal_guard rfl rfl rfl (fun h0 => by rw [hpl] at h0; cases h0) (fun _ => ?_)
      refine rn rfl ?_
      refine goal_cond rfl (fun h2 => ?_) (fun h2 => ?_) <;> (try simp only [gt_iff_lt, ge_iff_le, bne_iff_ne, ne_eq, bne_eq_false_iff_eq, beq_iff_eq, beq_eq_false_iff_ne, Bool.not_eq_true', Bool.not_eq_false', decide_eq_true_eq, decide_eq_false_iff_not, List.length_map] at h2)
      · refine rn rfl ?_
        refine goal_did rfl rfl (dA_append (old := (F.places).map eI) (rows := (x.list : List Int).map eI) (((F.places) ++ (x.list : List Int)).map eI) (F.places.length + x.list.length) true (Dst.own rfl rfl rfl rfl rfl (by first | (simp; done) | (simp; omega)) (whole (by first | (simp; done) | (simp; omega)))) (Src.fs rfl) rfl rfl rfl rfl rfl rfl rfl rfl (rows_len eI_len _) (rows_len eI_len _) (by (try simp only [List.length_map, List.length_append, List.length_cons, List.length_nil, List.length_take, List.length_drop]); show _ * 8 ≤ _; omega) (by first | (simp; done) | (simp; omega)) (by simp) (by first | (simp; done) | (simp; omega)) (fun _ => noOwnR_map _ eI_noOwn _)) ?_
        refine rn rfl ?_
        refine round_keep (s.length - (i + 1)) [13, 12, 11, 6, 5, 4, 3] [0, 1, 2, 7, 4] (by omega) rfl ⟨_, _, i + 1, F.places.length + x.list.length, F.named.length, ob, ⟨F.places ++ x.list, F.named⟩, wrap64 (by omega) (by omega), rfl, by omega, rfl, by simp, by simp, by rw [hst]; simp [stU, h2], rfl⟩
      · refine rn rfl ?_
        refine goal_step (step_call [] rfl rfl rfl rfl rfl rfl (iplaced_ct p)) ?_
        rintro σ2 ⟨r, o', ⟨rfl, rfl⟩, hσ⟩
        obtain rfl := Option.some.inj hσ
        clear hσ
        refine rn rfl ?_
        refine goal_guard rfl rfl rfl (fun h0 => by rw [hpl] at h0; cases h0) (fun _ => ?_)
        refine rn rfl ?_
        refine goal_step (step_call [] rfl rfl rfl rfl rfl rfl (isingle_ct p)) ?_
        rintro σ2 ⟨r, o', ⟨rfl, rfl⟩, hσ⟩
        obtain rfl := Option.some.inj hσ
        clear hσ
        refine rn rfl ?_
        refine goal_guard rfl rfl rfl (fun h3 => ?_) (fun h3 => ?_) <;> (try simp only [gt_iff_lt, ge_iff_le, bne_iff_ne, ne_eq, bne_eq_false_iff_eq, beq_iff_eq, beq_eq_false_iff_ne, Bool.not_eq_true', Bool.not_eq_false', decide_eq_true_eq, decide_eq_false_iff_not, List.length_map] at h3)
        · have h4 : p.kind ≠ 4 := by rw [single_kind] at h3; omega
          refine rn rfl ?_
          refine goal_cond rfl (fun hg => ?_) (fun hg => ?_) <;> (try simp only [gt_iff_lt, ge_iff_le, bne_iff_ne, ne_eq, bne_eq_false_iff_eq, beq_iff_eq, beq_eq_false_iff_ne, Bool.not_eq_true', Bool.not_eq_false', decide_eq_true_eq, decide_eq_false_iff_not, List.length_map] at hg)
          · obtain ⟨v, hv⟩ := hone h3 hg
            refine rn rfl ?_
            refine goal_drawL [2, 5, 6] [12] 13 rfl ?_
            refine drnL [0, 1, 2, 3, 4, 5] (by kernel_rfl) (by kernel_rfl) rfl rfl ?_
            refine AHL_did 6 rfl (by kernel_rfl) (by kernel_rfl) (by kernel_rfl) (by kernel_rfl) rfl rfl (dA_index (eI v) rfl rfl rfl rfl rfl rfl rfl (by omega) (by simp [hv]) (by simp [hv]) rfl) ?_
            refine drnL [7, 8] (by kernel_rfl) (by kernel_rfl) rfl rfl ?_
            refine AHL_oneDid 9 rfl (by kernel_rfl) rfl rfl (dA_step rfl) (mdOk rfl) ?_
            refine AHL_oneDid 10 rfl (by kernel_rfl) rfl rfl (dA_append (old := (F.named).map eP) (rows := ([⟨p.name, v⟩] : List Pair).map eP) (((F.named) ++ ([⟨p.name, v⟩] : List Pair)).map eP) (F.named.length + 1) true (Dst.own rfl rfl rfl rfl rfl (by first | (simp; done) | (simp; omega)) (whole (by first | (simp; done) | (simp; omega)))) (Src.os rfl rfl (Nat.le_refl 1) rfl) rfl rfl rfl rfl rfl rfl rfl rfl (rows_len eP_len _) (rows_len eP_len _) (by (try simp only [List.length_map, List.length_append, List.length_cons, List.length_nil, List.length_take, List.length_drop]); show _ * 24 ≤ _; omega) (by first | (simp; done) | (simp; omega)) (by simp) (by first | (simp; done) | (simp; omega)) (fun _ => noOwnR_map _ eP_noOwn _)) (mdOk rfl) ?_
            refine drnL [11] (by kernel_rfl) (by kernel_rfl) rfl rfl ?_
            refine AHL_lateDid 12 rfl (by kernel_rfl) rfl rfl (dA_step rfl) ?_
            refine AH_end (by kernel_rfl) ?_
            refine rn rfl ?_
            refine round_keep (s.length - (i + 1)) [13, 12, 11, 6, 5, 4, 3] [0, 1, 2, 3, 8] (by omega) rfl ⟨_, _, i + 1, F.places.length, F.named.length + 1, ob, ⟨F.places, F.named ++ [⟨p.name, v⟩]⟩, wrap64 (by omega) (by omega), rfl, by omega, rfl, by simp, by simp, by rw [hst]; simp [stU, h2, h4, hpl, hg, hv, hd0], rfl⟩
          · refine rn rfl ?_
            refine goal_cond rfl (fun h0 => by simp at h0; omega) (fun _ => ?_)
            refine rn rfl ?_
            refine round_keep (s.length - (i + 1)) [13, 12, 11, 6, 5, 4, 3] [0, 1, 2, 3, 4] (by omega) rfl ⟨_, _, i + 1, F.places.length, F.named.length, ob, F, wrap64 (by omega) (by omega), rfl, by omega, rfl, by simp, by simp, by rw [hst]; simp [stU, h2, h4, hpl, hg], rfl⟩
        · have h4 : p.kind = 4 := by
            rcases kind_split hk with h0 | h0 | h0 | h0
            · rw [hpl] at h0; cases h0
            · exact absurd h0 h2
            · simp [singleQ, h0] at h3
            · exact h0
          refine rn rfl ?_
          refine goal_cond rfl (fun _ => ?_) (fun h0 => by simp at h0; omega)
          refine rn rfl ?_
          refine goal_did rfl rfl (dA_append (old := (F.named).map eP) (rows := (x.pairs : List Pair).map eP) (((F.named) ++ (x.pairs : List Pair)).map eP) (F.named.length + x.pairs.length) true (Dst.own rfl rfl rfl rfl rfl (by first | (simp; done) | (simp; omega)) (whole (by first | (simp; done) | (simp; omega)))) (Src.fs rfl) rfl rfl rfl rfl rfl rfl rfl rfl (rows_len eP_len _) (rows_len eP_len _) (by (try simp only [List.length_map, List.length_append, List.length_cons, List.length_nil, List.length_take, List.length_drop]); show _ * 24 ≤ _; omega) (by first | (simp; done) | (simp; omega)) (by simp) (by first | (simp; done) | (simp; omega)) (fun _ => noOwnR_map _ eP_noOwn _)) ?_
          refine rn rfl ?_
          refine round_keep (s.length - (i + 1)) [13, 12, 11, 6, 5, 4, 3] [0, 1, 2, 3, 7] (by omega) rfl ⟨_, _, i + 1, F.places.length, F.named.length + x.pairs.length, ob, ⟨F.places, F.named ++ x.pairs⟩, wrap64 (by omega) (by omega), rfl, by omega, rfl, by simp, by simp, by rw [hst]; simp [stU, h4], rfl⟩
  · refine rn rfl (round_ext ?_)
    have hfin : unbQ s b = F := by
      unfold unbQ
      rw [List.take_of_length_le (by omega)] at hF
      rw [← hF]
    rw [hfin]
    refine rn rfl ?_
    refine goal_step (step_callE [] rfl rfl rfl rfl rfl rfl (cons_eq (asFl F) rfl) (copyOf_ct F (by omega) (by omega))) ?_
    rintro σ2 ⟨r, o', ⟨rfl, rfl⟩, hσ⟩
    obtain rfl := Option.some.inj hσ
    clear hσ
    refine rn rfl ?_
    exact rn rfl (fin_is [5, 6] rfl ⟨rfl, rfl⟩)

theorem iunbindD_ct (s : Sig) (b : Bnds) (h : OkB s b) : ACalls pk 114 [.agg (eG s), .agg (eBi b)] [] (fun r o => r = .agg (eF (unbQ s b)) ∧ o = []) :=
  (iunbind_ct s b h).told [] (by rintro r o ⟨rfl, rfl⟩; exact ⟨_, _, rfl, asFl _, rfl⟩)

theorem sunbound_ct (s : Sig) (b : Bnds) (h : OkB s b) : ACalls pk 111 [.agg (eG s), .agg (eBi b)] [] (fun r o => r = .agg (eF (unbQ s b)) ∧ o = []) := by
  have hlen := h.len
  have hfew := h.few
  have hzl : (s.zip b).length = s.length := by simp [hlen]
  refine acalls_of_body Try.func111 rfl (by kernel_rfl) rfl ?_
  refine rn rfl ?_
  refine goal_loop_keep (fun m σ => ∃ (q : Int) (i l1 l2 : Nat) (ob : Bool) (F : Flat), q = i ∧ i ≤ s.length ∧ m = s.length - i ∧ l1 = F.places.length ∧ l2 = F.named.length ∧ (F, ob) = ((s.zip b).take i).foldl stU (zF, true) ∧
      σ = ⟨[(7, .one (.int .i64 q)), (6, .one (.bool ob)), (5, .one (.op 3 0 0)), (4, .one (.op 2 0 0)), (3, .one (.op 1 0 0)), (2, .one (.op 0 0 0))],
        [some ⟨1, [eG s], false, false, true⟩, some ⟨1, [eBi b], false, false, true⟩, some ⟨2, [[.fs [], .fs []]], false, false, true⟩, some ⟨2, [[.os 4 0 l1 l1, .os 5 0 l2 l2]], false, false, true⟩, ownI F.places, ownP F.named], []⟩) s.length [7, 6, 5, 4, 3, 2] [0, 1, 2, 5, 3, 4] rfl
    ⟨_, 0, 0, 0, _, zF, rfl, by omega, by omega, rfl, rfl, rfl, rfl⟩ ?_
  rintro m σ ⟨q, i, l1, l2, ob, F, rfl, hi, rfl, rfl, rfl, hF, rfl⟩
  have hln := unb_len b h.size ((s.zip b).take i) (zF, true) (fun z hz => by
    have := List.mem_of_mem_take hz
    exact (List.of_mem_zip this).2)
  rw [← hF] at hln
  simp only [List.length_take, hzl, zF, List.length_nil] at hln
  refine rn rfl ?_
  refine goal_cond rfl (fun hc => ?_) (fun hc => ?_) <;> (try simp only [gt_iff_lt, ge_iff_le, bne_iff_ne, ne_eq, bne_eq_false_iff_eq, beq_iff_eq, beq_eq_false_iff_ne, Bool.not_eq_true', Bool.not_eq_false', decide_eq_true_eq, decide_eq_false_iff_not, List.length_map] at hc)
  · obtain ⟨p, hp⟩ := at_some (xs := s) (i := i) (by omega)
    obtain ⟨x, hx⟩ := at_some (xs := b) (i := i) (by omega)
    have hsz := h.size x (List.mem_of_getElem? hx)
    have hz : (s.zip b)[i]? = some (p, x) := by rw [List.getElem?_zip_eq_some]; exact ⟨hp, hx⟩
    have hst : ((s.zip b).take (i + 1)).foldl stU (zF, true) = stU (F, ob) (p, x) := by rw [foldl_take_succ _ _ hz, ← hF]
    have hone := h.one i p x hp hx
    have hk := h.kinds p (List.mem_of_getElem? hp)
    refine rn rfl ?_
    refine goal_did rfl rfl (dA_index (eQ p) rfl rfl rfl rfl rfl rfl rfl (by omega) (by (try simp); omega) (map_at (by simpa using hp)) rfl) ?_
    refine rn rfl ?_
    refine goal_did rfl rfl (dA_index (eL x) rfl rfl rfl rfl rfl rfl rfl (by omega) (by (try simp); omega) (map_at (by simpa using hx)) rfl) ?_
    refine rn rfl ?_
    refine goal_cond rfl (fun h2 => ?_) (fun h2 => ?_) <;> (try simp only [gt_iff_lt, ge_iff_le, bne_iff_ne, ne_eq, bne_eq_false_iff_eq, beq_iff_eq, beq_eq_false_iff_ne, Bool.not_eq_true', Bool.not_eq_false', decide_eq_true_eq, decide_eq_false_iff_not, List.length_map] at h2)
    · refine rn rfl ?_
      refine goal_did rfl rfl (dA_append (old := (F.places).map eI) (rows := (x.list : List Int).map eI) (((F.places) ++ (x.list : List Int)).map eI) (F.places.length + x.list.length) true (Dst.own rfl rfl rfl rfl rfl (by first | (simp; done) | (simp; omega)) (whole (by first | (simp; done) | (simp; omega)))) (Src.fs rfl) rfl rfl rfl rfl rfl rfl rfl rfl (rows_len eI_len _) (rows_len eI_len _) (by (try simp only [List.length_map, List.length_append, List.length_cons, List.length_nil, List.length_take, List.length_drop]); show _ * 8 ≤ _; omega) (by first | (simp; done) | (simp; omega)) (by simp) (by first | (simp; done) | (simp; omega)) (fun _ => noOwnR_map _ eI_noOwn _)) ?_
      refine rn rfl ?_
      refine round_keep (s.length - (i + 1)) [7, 6, 5, 4, 3, 2] [0, 1, 2, 3, 8, 5] (by omega) rfl ⟨_, i + 1, F.places.length + x.list.length, F.named.length, ob, ⟨F.places ++ x.list, F.named⟩, wrap64 (by omega) (by omega), by omega, rfl, by simp, by simp, by rw [hst]; simp [stU, h2], rfl⟩
    · refine rn rfl ?_
      refine goal_cond rfl (fun h4 => ?_) (fun h4 => ?_) <;> (try simp only [gt_iff_lt, ge_iff_le, bne_iff_ne, ne_eq, bne_eq_false_iff_eq, beq_iff_eq, beq_eq_false_iff_ne, Bool.not_eq_true', Bool.not_eq_false', decide_eq_true_eq, decide_eq_false_iff_not, List.length_map] at h4)
      · refine rn rfl ?_
        refine goal_did rfl rfl (dA_append (old := (F.named).map eP) (rows := (x.pairs : List Pair).map eP) (((F.named) ++ (x.pairs : List Pair)).map eP) (F.named.length + x.pairs.length) true (Dst.own rfl rfl rfl rfl rfl (by first | (simp; done) | (simp; omega)) (whole (by first | (simp; done) | (simp; omega)))) (Src.fs rfl) rfl rfl rfl rfl rfl rfl rfl rfl (rows_len eP_len _) (rows_len eP_len _) (by (try simp only [List.length_map, List.length_append, List.length_cons, List.length_nil, List.length_take, List.length_drop]); show _ * 24 ≤ _; omega) (by first | (simp; done) | (simp; omega)) (by simp) (by first | (simp; done) | (simp; omega)) (fun _ => noOwnR_map _ eP_noOwn _)) ?_
        refine rn rfl ?_
        refine round_keep (s.length - (i + 1)) [7, 6, 5, 4, 3, 2] [0, 1, 2, 3, 4, 8] (by omega) rfl ⟨_, i + 1, F.places.length, F.named.length + x.pairs.length, ob, ⟨F.places, F.named ++ x.pairs⟩, wrap64 (by omega) (by omega), by omega, rfl, by simp, by simp, by rw [hst]; simp [stU, h4], rfl⟩
      · have hsg : singleQ p = true := by rw [single_kind]; omega
        refine rn rfl ?_
        refine goal_cond rfl (fun hg => ?_) (fun hg => ?_) <;> (try simp only [gt_iff_lt, ge_iff_le, bne_iff_ne, ne_eq, bne_eq_false_iff_eq, beq_iff_eq, beq_eq_false_iff_ne, Bool.not_eq_true', Bool.not_eq_false', decide_eq_true_eq, decide_eq_false_iff_not, List.length_map] at hg)
        · refine rn rfl ?_
          refine goal_guard rfl rfl rfl (fun ho => ?_) (fun ho => ?_) <;> (try simp only [gt_iff_lt, ge_iff_le, bne_iff_ne, ne_eq, bne_eq_false_iff_eq, beq_iff_eq, beq_eq_false_iff_ne, Bool.not_eq_true', Bool.not_eq_false', decide_eq_true_eq, decide_eq_false_iff_not, List.length_map] at ho)
          · refine rn rfl ?_
            refine goal_step (step_call [] rfl rfl rfl rfl rfl rfl (splaced_ct p)) ?_
            rintro σ2 ⟨r, o', ⟨rfl, rfl⟩, hσ⟩
            obtain rfl := Option.some.inj hσ
            clear hσ
            refine rn rfl ?_
            refine round_keep (s.length - (i + 1)) [7, 6, 5, 4, 3, 2] [0, 1, 2, 3, 4, 5] (by omega) rfl ⟨_, i + 1, F.places.length, F.named.length, !placedQ p, F, wrap64 (by omega) (by omega), by omega, rfl, by simp, by simp, by rw [hst]; simp [stU, h2, h4, hg, ho], rfl⟩
          · refine rn rfl ?_
            refine round_keep (s.length - (i + 1)) [7, 6, 5, 4, 3, 2] [0, 1, 2, 3, 4, 5] (by omega) rfl ⟨_, i + 1, F.places.length, F.named.length, false, F, wrap64 (by omega) (by omega), by omega, rfl, by simp, by simp, by rw [hst]; simp [stU, h2, h4, hg, ho], rfl⟩
        · obtain ⟨v, hv⟩ := hone hsg (by simpa using hg)
          have hg' : x.given = true := by simpa using hg
          refine rn rfl ?_
          refine goal_step (step_call [] rfl rfl rfl rfl rfl rfl (splaced_ct p)) ?_
          rintro σ2 ⟨r, o', ⟨rfl, rfl⟩, hσ⟩
          obtain rfl := Option.some.inj hσ
          clear hσ
          refine rn rfl ?_
          refine goal_guard rfl rfl rfl (fun hpl => ?_) (fun hpl => ?_) <;> (try simp only [gt_iff_lt, ge_iff_le, bne_iff_ne, ne_eq, bne_eq_false_iff_eq, beq_iff_eq, beq_eq_false_iff_ne, Bool.not_eq_true', Bool.not_eq_false', decide_eq_true_eq, decide_eq_false_iff_not, List.length_map] at hpl)
          · refine rn rfl ?_
            refine goal_cond rfl (fun ho => ?_) (fun ho => ?_) <;> (try simp only [gt_iff_lt, ge_iff_le, bne_iff_ne, ne_eq, bne_eq_false_iff_eq, beq_iff_eq, beq_eq_false_iff_ne, Bool.not_eq_true', Bool.not_eq_false', decide_eq_true_eq, decide_eq_false_iff_not, List.length_map] at ho)
            · refine rn rfl ?_
              refine goal_drawL [3, 7] [9] 10 rfl ?_
              refine drnL [0, 1, 2, 3] (by kernel_rfl) (by kernel_rfl) rfl rfl ?_
              refine AHL_did 4 rfl (by kernel_rfl) (by kernel_rfl) (by kernel_rfl) (by kernel_rfl) rfl rfl (dA_index (eI v) rfl rfl rfl rfl rfl rfl rfl (by omega) (by simp [hv]) (by simp [hv]) rfl) ?_
              refine drnL [5] (by kernel_rfl) (by kernel_rfl) rfl rfl ?_
              refine AHL_oneDid 6 rfl (by kernel_rfl) rfl rfl (dA_step rfl) (mdOk rfl) ?_
              refine AHL_oneDid 7 rfl (by kernel_rfl) rfl rfl (dA_append (old := (F.places).map eI) (rows := ([v] : List Int).map eI) (((F.places) ++ ([v] : List Int)).map eI) (F.places.length + 1) true (Dst.own rfl rfl rfl rfl rfl (by first | (simp; done) | (simp; omega)) (whole (by first | (simp; done) | (simp; omega)))) (Src.os rfl rfl (Nat.le_refl 1) rfl) rfl rfl rfl rfl rfl rfl rfl rfl (rows_len eI_len _) (rows_len eI_len _) (by (try simp only [List.length_map, List.length_append, List.length_cons, List.length_nil, List.length_take, List.length_drop]); show _ * 8 ≤ _; omega) (by first | (simp; done) | (simp; omega)) (by simp) (by first | (simp; done) | (simp; omega)) (fun _ => noOwnR_map _ eI_noOwn _)) (mdOk rfl) ?_
              refine drnL [8] (by kernel_rfl) (by kernel_rfl) rfl rfl ?_
              refine AHL_lateDid 9 rfl (by kernel_rfl) rfl rfl (dA_step rfl) ?_
              refine AH_end (by kernel_rfl) ?_
              refine rn rfl ?_
              refine round_keep (s.length - (i + 1)) [7, 6, 5, 4, 3, 2] [0, 1, 2, 3, 9, 5] (by omega) rfl ⟨_, i + 1, F.places.length + 1, F.named.length, ob, ⟨F.places ++ [v], F.named⟩, wrap64 (by omega) (by omega), by omega, rfl, by simp, by simp, by rw [hst]; simp [stU, h2, h4, hg', hpl, ho, hv, hd0], rfl⟩
            · refine rn rfl ?_
              refine goal_drawL [3, 6, 7] [12] 13 rfl ?_
              refine drnL [0, 1, 2, 3, 4, 5] (by kernel_rfl) (by kernel_rfl) rfl rfl ?_
              refine AHL_did 6 rfl (by kernel_rfl) (by kernel_rfl) (by kernel_rfl) (by kernel_rfl) rfl rfl (dA_index (eI v) rfl rfl rfl rfl rfl rfl rfl (by omega) (by simp [hv]) (by simp [hv]) rfl) ?_
              refine drnL [7, 8] (by kernel_rfl) (by kernel_rfl) rfl rfl ?_
              refine AHL_oneDid 9 rfl (by kernel_rfl) rfl rfl (dA_step rfl) (mdOk rfl) ?_
              refine AHL_oneDid 10 rfl (by kernel_rfl) rfl rfl (dA_append (old := (F.named).map eP) (rows := ([⟨p.name, v⟩] : List Pair).map eP) (((F.named) ++ ([⟨p.name, v⟩] : List Pair)).map eP) (F.named.length + 1) true (Dst.own rfl rfl rfl rfl rfl (by first | (simp; done) | (simp; omega)) (whole (by first | (simp; done) | (simp; omega)))) (Src.os rfl rfl (Nat.le_refl 1) rfl) rfl rfl rfl rfl rfl rfl rfl rfl (rows_len eP_len _) (rows_len eP_len _) (by (try simp only [List.length_map, List.length_append, List.length_cons, List.length_nil, List.length_take, List.length_drop]); show _ * 24 ≤ _; omega) (by first | (simp; done) | (simp; omega)) (by simp) (by first | (simp; done) | (simp; omega)) (fun _ => noOwnR_map _ eP_noOwn _)) (mdOk rfl) ?_
              refine drnL [11] (by kernel_rfl) (by kernel_rfl) rfl rfl ?_
              refine AHL_lateDid 12 rfl (by kernel_rfl) rfl rfl (dA_step rfl) ?_
              refine AH_end (by kernel_rfl) ?_
              refine rn rfl ?_
              refine round_keep (s.length - (i + 1)) [7, 6, 5, 4, 3, 2] [0, 1, 2, 3, 4, 9] (by omega) rfl ⟨_, i + 1, F.places.length, F.named.length + 1, ob, ⟨F.places, F.named ++ [⟨p.name, v⟩]⟩, wrap64 (by omega) (by omega), by omega, rfl, by simp, by simp, by rw [hst]; simp [stU, h2, h4, hg', hpl, ho, hv, hd0], rfl⟩
          · refine rn rfl ?_
            refine goal_drawL [3, 6, 7] [12] 13 rfl ?_
            refine drnL [0, 1, 2, 3, 4, 5] (by kernel_rfl) (by kernel_rfl) rfl rfl ?_
            refine AHL_did 6 rfl (by kernel_rfl) (by kernel_rfl) (by kernel_rfl) (by kernel_rfl) rfl rfl (dA_index (eI v) rfl rfl rfl rfl rfl rfl rfl (by omega) (by simp [hv]) (by simp [hv]) rfl) ?_
            refine drnL [7, 8] (by kernel_rfl) (by kernel_rfl) rfl rfl ?_
            refine AHL_oneDid 9 rfl (by kernel_rfl) rfl rfl (dA_step rfl) (mdOk rfl) ?_
            refine AHL_oneDid 10 rfl (by kernel_rfl) rfl rfl (dA_append (old := (F.named).map eP) (rows := ([⟨p.name, v⟩] : List Pair).map eP) (((F.named) ++ ([⟨p.name, v⟩] : List Pair)).map eP) (F.named.length + 1) true (Dst.own rfl rfl rfl rfl rfl (by first | (simp; done) | (simp; omega)) (whole (by first | (simp; done) | (simp; omega)))) (Src.os rfl rfl (Nat.le_refl 1) rfl) rfl rfl rfl rfl rfl rfl rfl rfl (rows_len eP_len _) (rows_len eP_len _) (by (try simp only [List.length_map, List.length_append, List.length_cons, List.length_nil, List.length_take, List.length_drop]); show _ * 24 ≤ _; omega) (by first | (simp; done) | (simp; omega)) (by simp) (by first | (simp; done) | (simp; omega)) (fun _ => noOwnR_map _ eP_noOwn _)) (mdOk rfl) ?_
            refine drnL [11] (by kernel_rfl) (by kernel_rfl) rfl rfl ?_
            refine AHL_lateDid 12 rfl (by kernel_rfl) rfl rfl (dA_step rfl) ?_
            refine AH_end (by kernel_rfl) ?_
            refine rn rfl ?_
            refine round_keep (s.length - (i + 1)) [7, 6, 5, 4, 3, 2] [0, 1, 2, 3, 4, 9] (by omega) rfl ⟨_, i + 1, F.places.length, F.named.length + 1, ob, ⟨F.places, F.named ++ [⟨p.name, v⟩]⟩, wrap64 (by omega) (by omega), by omega, rfl, by simp, by simp, by rw [hst]; simp [stU, h2, h4, hg', hpl, hv, hd0], rfl⟩
  · refine rn rfl (round_ext ?_)
    have hfin : unbQ s b = F := by
      unfold unbQ
      rw [List.take_of_length_le (by omega)] at hF
      rw [← hF]
    rw [hfin]
    refine rn rfl (fin_is [] rfl ⟨?_, rfl⟩)
    exact asFl F

theorem give_one {s : Sig} {pl : List Int} {qs : List Pair} {i : Nat} {p : Param} (h : singleQ p = true) : ((giveQ s pl qs i p).given = true → ∃ v, (giveQ s pl qs i p).list = [v]) ∧ ((giveQ s pl qs i p).given = false → (giveQ s pl qs i p).list = []) ∧
    (p.kind = 0 → (giveQ s pl qs i p).given = decide (i < pl.length)) := by
  rw [single_kind] at h
  unfold giveQ
  rw [if_neg (by omega)]
  split
  · rename_i hn
    simp only [Bool.and_eq_true] at hn
    have hk := named_kind.1 hn.1
    split
    · exact ⟨fun _ => ⟨_, rfl⟩, (fun h0 => by cases h0), (fun h0 => by omega)⟩
    · exact ⟨(fun h0 => by cases h0), (fun _ => rfl), (fun h0 => by omega)⟩
  · unfold place1
    by_cases hb : (placedQ p && decide (i < pl.length)) = true
    · rw [if_pos hb]
      simp only [Bool.and_eq_true] at hb
      exact ⟨fun _ => ⟨_, rfl⟩, (fun h0 => by cases h0), fun _ => hb.2.symm⟩
    · rw [if_neg hb]
      have h2 : (p.kind == 2) = false := by simp; omega
      simp only [h2]
      refine ⟨(fun h0 => by cases h0), (fun _ => rfl), fun h0 => ?_⟩
      have hp : placedQ p = true := placed_kind.2 (.inl h0)
      rw [hp] at hb
      show false = _
      simpa using hb

theorem give_size {s : Sig} {pl : List Int} {qs : List Pair} {i : Nat} {p : Param} (h1 : pl.length ≤ 8) (h2 : qs.length ≤ 8) : (giveQ s pl qs i p).list.length ≤ 1000 ∧ (giveQ s pl qs i p).pairs.length ≤ 1000 := by
  have hf := List.length_filter_le (fun q : Pair => takesQ s q.name == (i : Int)) qs
  unfold giveQ
  split
  · simp; omega
  · split
    · split
      · simp
      · simp [zL]
    · unfold place1
      split
      · simp
      · split
        · simp; omega
        · simp [zL]

theorem bound_at {s : Sig} {f : Flat} (hs : OkS s) (hf : OkF f) {i : Nat} {p : Param} {x : Slot} (hp : s[i]? = some p) (hx : (boundQ s f).1[i]? = some x) : x = giveQ s f.places f.named i p := by
  rw [bound_closed hs hf.nodup] at hx
  simp only [closedQ, List.getElem?_mapIdx, hp, Option.map_some, Option.some.injEq] at hx
  exact hx.symm

theorem bound_okB {s : Sig} {f : Flat} (hs : OkS s) (hf : OkF f) : OkB s (boundQ s f).1 := by
  refine ⟨boundQ_len s f, hs.len, fun p hp => hs.kindRange hp, fun i p x hp hx hsg hg => ?_, fun x hx => ?_⟩
  · have := bound_at hs hf hp hx
    subst this
    exact (give_one hsg).1 hg
  · obtain ⟨i, hi⟩ := List.getElem?_of_mem hx
    obtain ⟨p, hp⟩ := at_some (xs := s) (i := i) (by have := lt_of_some hi; rw [boundQ_len] at this; exact this)
    rw [bound_at hs hf hp hi]
    exact give_size hf.places hf.named

def restB (s : Sig) (b : Bnds) : List Int := if 0 ≤ idxI (kIs 2) s 0 then (match b[(idxI (kIs 2) s 0).toNat]? with
  | some x => x.list
  | none => []) else []

theorem restB_at {s : Sig} {b : Bnds} (hl : b.length = s.length) (h : 0 ≤ idxI (kIs 2) s 0) : ∃ x, b[(idxI (kIs 2) s 0).toNat]? = some x ∧ restB s b = x.list ∧ idxI (kIs 2) s 0 < s.length := by
  obtain ⟨p, _, hp, _, hlt⟩ := idxI_find h
  obtain ⟨x, hx⟩ := at_some (xs := b) (i := (idxI (kIs 2) s 0).toNat) (by omega)
  exact ⟨x, hx, by simp [restB, h, hx], hlt⟩

theorem restOf_ct (s : Sig) (b : Bnds) (h : b.length = s.length) (hl : s.length ≤ 1000) : ACalls pk 110 [.agg (eG s), .agg (eBi b)] [] (fun r o => r = .one (.fs ((restB s b).map eI)) ∧ o = []) := by
  refine acalls_of_body Try.func110 rfl (by kernel_rfl) rfl ?_
  refine rn rfl ?_
  refine goal_step (step_call [] rfl rfl rfl rfl rfl rfl (kindAt_ct s 2 (by omega))) ?_
  rintro σ2 ⟨r, o', ⟨rfl, rfl⟩, hσ⟩
  obtain rfl := Option.some.inj hσ
  clear hσ
  refine rn rfl ?_
  refine goal_cond rfl (fun h0 => ?_) (fun h0 => ?_) <;> (try simp only [gt_iff_lt, ge_iff_le, bne_iff_ne, ne_eq, bne_eq_false_iff_eq, beq_iff_eq, beq_eq_false_iff_ne, Bool.not_eq_true', Bool.not_eq_false', decide_eq_true_eq, decide_eq_false_iff_not, List.length_map] at h0)
  · refine rn rfl (fin_is [] rfl ⟨?_, rfl⟩)
    simp only [restB]; rw [if_neg (by omega)]; rfl
  · obtain ⟨x, hx, hr, hlt⟩ := restB_at (b := b) h (by omega)
    refine rn rfl ?_
    refine goal_did rfl rfl (dA_index (eL x) rfl rfl rfl rfl rfl rfl rfl (by omega) (by (try simp); omega) (map_at (by simpa using hx)) rfl) ?_
    refine rn rfl ?_
    refine rn rfl (fin_is [] rfl ⟨?_, rfl⟩)
    rw [hr]

theorem rest_ct (s : Sig) (b : Bnds) (h : b.length = s.length) (hl : s.length ≤ 1000) : ACalls pk 113 [.agg (eG s), .agg (eBi b)] [] (fun r o => r = .one (.int .i64 (restB s b).length) ∧ o = []) := by
  refine acalls_of_body Try.func113 rfl (by kernel_rfl) rfl ?_
  refine rn rfl ?_
  refine goal_loop_keep (fun m σ => ∃ (q L : Int) (i : Nat), q = i ∧ L = s.length ∧ i ≤ s.length ∧ m = s.length - i ∧ idxI (kIs 2) s 0 = idxI (kIs 2) (s.drop i) i ∧
      σ = ⟨[(10, .one (.int .i64 q)), (9, .one (.int .i64 L)), (8, .one (.fs (s.map eQ))), (3, .one (.op 0 0 0))], [some ⟨1, [eBi b], false, false, true⟩], []⟩) s.length [10, 9, 8, 3] [1] rfl
    ⟨_, _, 0, rfl, by simp, by omega, by omega, by simp, rfl⟩ ?_
  rintro m σ ⟨q, L, i, rfl, rfl, hi, rfl, hidx, rfl⟩
  refine rn rfl ?_
  refine goal_cond rfl (fun hc => ?_) (fun hc => ?_) <;> (try simp only [gt_iff_lt, ge_iff_le, bne_iff_ne, ne_eq, bne_eq_false_iff_eq, beq_iff_eq, beq_eq_false_iff_ne, Bool.not_eq_true', Bool.not_eq_false', decide_eq_true_eq, decide_eq_false_iff_not, List.length_map] at hc)
  · obtain ⟨p, hp⟩ := at_some (xs := s) (i := i) (by omega)
    obtain ⟨x, hx⟩ := at_some (xs := b) (i := i) (by omega)
    refine rn rfl ?_
    refine goal_did rfl rfl (dA_index (eQ p) rfl rfl rfl rfl rfl rfl rfl (by omega) (by (try simp); omega) (map_at (by simpa using hp)) rfl) ?_
    refine rn rfl ?_
    refine goal_cond rfl (fun h2 => ?_) (fun h2 => ?_) <;> (try simp only [gt_iff_lt, ge_iff_le, bne_iff_ne, ne_eq, bne_eq_false_iff_eq, beq_iff_eq, beq_eq_false_iff_ne, Bool.not_eq_true', Bool.not_eq_false', decide_eq_true_eq, decide_eq_false_iff_not, List.length_map] at h2)
    · have hi2 : idxI (kIs 2) s 0 = (i : Int) := by rw [hidx, drop_at hp]; simp [idxI, kIs, h2]
      refine rn rfl ?_
      refine goal_did rfl rfl (dA_index (eL x) rfl rfl rfl rfl rfl rfl rfl (by omega) (by (try simp); omega) (map_at (by simpa using hx)) rfl) ?_
      refine rn rfl ?_
      refine rn rfl (round_ret (fin_is [] rfl ⟨?_, rfl⟩))
      have : restB s b = x.list := by simp [restB, hi2, hx]
      rw [this, List.length_map]
    · refine rn rfl ?_
      refine round_keep (s.length - (i + 1)) [10, 9, 8, 3] [0] (by omega) rfl ⟨_, _, i + 1, wrap64 (by omega) (by omega), rfl, by omega, rfl, ?_, rfl⟩
      rw [hidx, drop_at hp]; simp [idxI, kIs, h2]
  · refine rn rfl (round_ext ?_)
    refine rn rfl (fin_is [] rfl ⟨?_, rfl⟩)
    rw [List.drop_eq_nil_of_le (by omega)] at hidx
    have : restB s b = [] := by simp [restB, hidx, idxI]
    rw [this]; rfl

theorem bound_names {s : Sig} {f : Flat} (hs : OkS s) (hf : OkF f) : ∀ z ∈ s.zip (boundQ s f).1, z.1.name.length ≤ 6 ∧ ∀ q ∈ z.2.pairs, q.name.length ≤ 6 := by
  intro z hz
  obtain ⟨i, hi⟩ := List.getElem?_of_mem hz
  rw [List.getElem?_zip_eq_some] at hi
  refine ⟨(hs.nameLen (List.mem_of_getElem? hi.1)).1, fun q hq => ?_⟩
  rw [bound_at hs hf hi.1 hi.2] at hq
  have hqn : q ∈ f.named := by
    unfold giveQ at hq
    split at hq
    · exact (List.mem_filter.1 hq).1
    · split at hq
      · split at hq
        · simp at hq
        · simp [zL] at hq
      · unfold place1 at hq
        split at hq
        · simp at hq
        · split at hq
          · simp at hq
          · simp [zL] at hq
  have := hf.pairs q hqn
  simp only [okPair, okName, inR, Bool.and_eq_true, decide_eq_true_eq] at this
  omega

def plainQ (p : Param) (x : Slot) : Bool := p.hasD && (hd0 x.list == p.dflt)

def isDefQ (p : Param) (x : Slot) : Bool := singleQ p && x.given && plainQ p x

def keepQ (p : Param) (fx nd : Bool) : Bool := (placedQ p && fx) || (p.kind == 0 && nd)

def clrQ (p : Param) (x : Slot) (fx nd : Bool) : Bool := isDefQ p x && !keepQ p fx nd

def leanS (fx : Bool) (i : Nat) (p : Param) (x : Slot) (st : Bnds × Bool) : Bnds × Bool :=
  (if clrQ p x fx st.2 then st.1.set i zL else st.1, st.2 || (p.kind == 0 && (x.given && !clrQ p x fx st.2)))

def leanI (s : Sig) (b : Bnds) (fx : Bool) : Nat → Bnds × Bool → Bnds × Bool
  | 0, st => st
  | i + 1, st => leanI s b fx i (match s[i]?, b[i]? with
    | some p, some x => leanS fx i p x st
    | _, _ => st)

def leanQ (s : Sig) (b : Bnds) (fx : Bool) : Bnds := (leanI s b fx s.length (b, false)).1

theorem leanI_succ {s : Sig} {b : Bnds} {fx : Bool} {i : Nat} {p : Param} {x : Slot} (hp : s[i]? = some p) (hx : b[i]? = some x) (st : Bnds × Bool) : leanI s b fx (i + 1) st = leanI s b fx i (leanS fx i p x st) := by
  simp only [leanI, hp, hx]

theorem leanS_okB {s : Sig} {fx : Bool} {i : Nat} {p : Param} {x : Slot} {st : Bnds × Bool} (h : OkB s st.1) : OkB s (leanS fx i p x st).1 := by
  unfold leanS
  simp only
  split
  · refine ⟨by simp [h.len], h.few, h.kinds, fun j q y hq hy hsg hg => ?_, fun y hy => ?_⟩
    · rw [List.getElem?_set] at hy
      split at hy
      · split at hy
        · cases hy; cases hg
        · cases hy
      · exact h.one j q y hq hy hsg hg
    · rcases List.mem_or_eq_of_mem_set hy with hy | hy
      · exact h.size y hy
      · rw [hy]; simp [zL]
  · exact h

theorem leanI_okB {s : Sig} {b : Bnds} {fx : Bool} : ∀ (i : Nat) (st : Bnds × Bool), OkB s st.1 → OkB s (leanI s b fx i st).1
  | 0, st, h => h
  | i + 1, st, h => by
    unfold leanI
    refine leanI_okB i _ ?_
    split
    · exact leanS_okB h
    · exact h

theorem leanI_pairs {s : Sig} {b : Bnds} {fx : Bool} (P : Pair → Prop) : ∀ (i : Nat) (st : Bnds × Bool), (∀ x ∈ st.1, ∀ q ∈ x.pairs, P q) → ∀ x ∈ (leanI s b fx i st).1, ∀ q ∈ x.pairs, P q
  | 0, st, h => h
  | i + 1, st, h => by
    unfold leanI
    refine leanI_pairs P i _ ?_
    split
    · unfold leanS
      simp only
      split
      · intro y hy
        rcases List.mem_or_eq_of_mem_set hy with hy | hy
        · exact h y hy
        · rw [hy]; simp [zL]
      · exact h
    · exact h

theorem isDefault_ct (p : Param) (x : Slot) (ho : singleQ p = true → x.given = true → ∃ v, x.list = [v]) : ACalls pk 172 [.agg (eQ p), .agg (eL x)] [] (fun r o => r = .one (.bool (isDefQ p x)) ∧ o = []) := by
  refine acalls_of_body Try.func172 rfl (by kernel_rfl) rfl ?_
  refine rn rfl ?_
  refine goal_draw' [0, 1] 20 rfl ?_
  refine drn [0] (by kernel_rfl) (by kernel_rfl) rfl rfl ?_
  refine AH_one (i := 1) (by kernel_rfl) (step_call [] rfl rfl rfl rfl rfl rfl (ssingle_ct p)) (by simp) ?_
  rintro σ2 ⟨r, o', ⟨rfl, rfl⟩, hσ⟩
  obtain rfl := Option.some.inj hσ
  clear hσ
  refine drn [2] (by kernel_rfl) (by kernel_rfl) rfl rfl ?_
  refine AH_guard (i := 3) rfl rfl rfl (fun h1 => ?_) (fun h1 => ?_) <;> (try simp only [gt_iff_lt, ge_iff_le, bne_iff_ne, ne_eq, bne_eq_false_iff_eq, beq_iff_eq, beq_eq_false_iff_ne, Bool.not_eq_true', Bool.not_eq_false', decide_eq_true_eq, decide_eq_false_iff_not, List.length_map] at h1)
  · refine drn [3, 4, 5, 6] (by kernel_rfl) (by kernel_rfl) rfl rfl ?_
    refine AH_guard (i := 7) rfl rfl rfl (fun h2 => ?_) (fun h2 => ?_) <;> (try simp only [gt_iff_lt, ge_iff_le, bne_iff_ne, ne_eq, bne_eq_false_iff_eq, beq_iff_eq, beq_eq_false_iff_ne, Bool.not_eq_true', Bool.not_eq_false', decide_eq_true_eq, decide_eq_false_iff_not, List.length_map] at h2)
    · refine drn [7, 8, 9, 10] (by kernel_rfl) (by kernel_rfl) rfl rfl ?_
      refine AH_guard (i := 11) rfl rfl rfl (fun h3 => ?_) (fun h3 => ?_) <;> (try simp only [gt_iff_lt, ge_iff_le, bne_iff_ne, ne_eq, bne_eq_false_iff_eq, beq_iff_eq, beq_eq_false_iff_ne, Bool.not_eq_true', Bool.not_eq_false', decide_eq_true_eq, decide_eq_false_iff_not, List.length_map] at h3)
      · obtain ⟨v, hv⟩ := ho h1 h2
        refine drn [11, 12, 15, 16] (by kernel_rfl) (by kernel_rfl) rfl rfl ?_
        refine AH_did 13 rfl (by kernel_rfl) (by kernel_rfl) (by kernel_rfl) rfl rfl (dA_index (eI v) rfl rfl rfl rfl rfl rfl rfl (by omega) (by simp [hv]) (by simp [hv]) rfl) ?_
        refine drn [14, 17, 18, 19] (by kernel_rfl) (by kernel_rfl) rfl rfl ?_
        refine AH_end (by kernel_rfl) ?_
        refine rn rfl ?_
        refine rn rfl (fin_is [] rfl ⟨?_, rfl⟩)
        simp [isDefQ, plainQ, h1, h2, h3, hv, hd0]
      · refine drn [11, 12, 13, 14, 15, 16, 17, 18, 19] (by kernel_rfl) (by kernel_rfl) rfl rfl ?_
        refine AH_end (by kernel_rfl) ?_
        refine rn rfl ?_
        refine rn rfl (fin_is [] rfl ⟨?_, rfl⟩)
        simp [isDefQ, plainQ, h1, h2, h3]
    · refine drn [7, 8, 9, 10, 11, 12, 13, 14, 15, 16, 17, 18, 19] (by kernel_rfl) (by kernel_rfl) rfl rfl ?_
      refine AH_end (by kernel_rfl) ?_
      refine rn rfl ?_
      refine rn rfl (fin_is [] rfl ⟨?_, rfl⟩)
      simp [isDefQ, h1, h2]
  · refine drn [3, 4, 5, 6, 7, 8, 9, 10, 11, 12, 13, 14, 15, 16, 17, 18, 19] (by kernel_rfl) (by kernel_rfl) rfl rfl ?_
    refine AH_end (by kernel_rfl) ?_
    refine rn rfl ?_
    refine rn rfl (fin_is [] rfl ⟨?_, rfl⟩)
    simp [isDefQ, h1]

theorem leanWalk_ct (s : Sig) (b : Bnds) (h : OkB s b) : ACalls pk 118 [.agg (eG s), .agg (eBi b)] [] (fun r o => r = .agg (eBi (leanQ s b (decide (0 < (restB s b).length)))) ∧ o = []) := by
  have hlen := h.len
  have hfew := h.few
  refine acalls_of_body Try.func118 rfl (by kernel_rfl) rfl ?_
  refine rn rfl ?_
  refine goal_did rfl rfl (dA_append (old := []) (rows := (b : List Slot).map eL) ((b : List Slot).map eL) (b.length) true (Dst.own rfl rfl rfl rfl rfl (Nat.le_refl 0) rfl) (Src.fs rfl) rfl rfl rfl rfl rfl rfl rfl rfl (by simp) (rows_len eL_len _) (by (try simp only [List.length_map, List.length_append, List.length_cons, List.length_nil, List.length_take, List.length_drop]); show _ * 56 ≤ _; omega) (by first | (simp; done) | (simp; omega)) (by simp) (by first | (simp; done) | (simp; omega)) (fun _ => noOwnR_map _ eL_noOwn _)) ?_
  refine rn rfl ?_
  refine goal_step (step_call [] rfl rfl rfl rfl rfl rfl (restOf_ct s b hlen (by omega))) ?_
  rintro σ2 ⟨r, o', ⟨rfl, rfl⟩, hσ⟩
  obtain rfl := Option.some.inj hσ
  clear hσ
  refine rn rfl ?_
  refine goal_loop_keep (fun m σ => ∃ (q : Int) (i L : Nat) (out : Bnds) (nd fx : Bool), q = (i : Int) - 1 ∧ L = s.length ∧ i ≤ s.length ∧ m = i ∧ out.length = s.length ∧ fx = decide (0 < (restB s b).length) ∧ leanQ s b fx = (leanI s b fx i (out, nd)).1 ∧ (∀ j, j < i → out[j]? = b[j]?) ∧
      σ = ⟨[(8, .one (.int .i64 q)), (7, .one (.bool nd)), (6, .one (.bool fx)), (5, .one (.op 3 0 0)), (4, .one (.op 2 0 0)), (3, .one (.op 1 0 0)), (2, .one (.op 0 0 0))],
        [some ⟨1, [eG s], false, false, true⟩, some ⟨1, [eBi b], false, false, true⟩, some ⟨1, [[.fs []]], false, false, true⟩, some ⟨1, [[.os 4 0 L L]], false, false, true⟩, ownL out], []⟩) s.length [8, 7, 6, 5, 4, 3, 2] [0, 1, 2, 5, 4] rfl
    ⟨_, s.length, _, b, _, _, ?_, hlen, by omega, rfl, hlen, ?_, rfl, fun _ _ => rfl, rfl⟩ ?_
  · simp only [List.length_map]; rw [wrap64 (by omega) (by omega)]
  · simp
  rintro m σ ⟨q, i, L, out, nd, fx, hq, rfl, hi, rfl, hol, hfx, hlq, hag, rfl⟩
  rw [← hfx]
  refine rn rfl ?_
  refine goal_cond rfl (fun hc => ?_) (fun hc => ?_) <;> (try simp only [gt_iff_lt, ge_iff_le, bne_iff_ne, ne_eq, bne_eq_false_iff_eq, beq_iff_eq, beq_eq_false_iff_ne, Bool.not_eq_true', Bool.not_eq_false', decide_eq_true_eq, decide_eq_false_iff_not, List.length_map] at hc)
  · obtain ⟨k, rfl⟩ : ∃ k, m = k + 1 := ⟨m - 1, by omega⟩
    obtain rfl : q = (k : Int) := by omega
    obtain ⟨p, hp⟩ := at_some (xs := s) (i := k) (by omega)
    obtain ⟨x, hx⟩ := at_some (xs := b) (i := k) (by omega)
    have hxo : out[k]? = some x := by rw [hag k (by omega)]; exact hx
    rw [leanI_succ hp hx] at hlq
    refine rn rfl ?_
    refine goal_did rfl rfl (dA_index (eQ p) rfl rfl rfl rfl rfl rfl rfl (by omega) (by (try simp); omega) (map_at (by simpa using hp)) rfl) ?_
    refine rt1 8 rfl ?_
    refine goal_cutR (fun σ' => σ' = ⟨[(10, .one (.bool (keepQ p fx nd))), (9, .one (.op 5 0 0)), (8, .one (.int .i64 k)), (7, .one (.bool nd)), (6, .one (.bool fx)), (5, .one (.op 3 0 0)), (4, .one (.op 2 0 0)), (3, .one (.op 1 0 0)), (2, .one (.op 0 0 0))], [some ⟨1, [eG s], false, false, true⟩, some ⟨1, [eBi b], false, false, true⟩, some ⟨1, [[.fs []]], false, false, true⟩, some ⟨1, [[.os 4 0 s.length s.length]], false, false, true⟩, ownL out, some ⟨4, [eQ p], false, false, true⟩], []⟩) ?_ ?_
    · refine rn rfl ?_
      refine goal_step (step_call [] rfl rfl rfl rfl rfl rfl (splaced_ct p)) ?_
      rintro σ2 ⟨r, o', ⟨rfl, rfl⟩, hσ⟩
      obtain rfl := Option.some.inj hσ
      clear hσ
      refine rn rfl ?_
      refine goal_guard rfl rfl rfl (fun h1 => ?_) (fun h1 => ?_) <;> (try simp only [gt_iff_lt, ge_iff_le, bne_iff_ne, ne_eq, bne_eq_false_iff_eq, beq_iff_eq, beq_eq_false_iff_ne, Bool.not_eq_true', Bool.not_eq_false', decide_eq_true_eq, decide_eq_false_iff_not, List.length_map] at h1)
      · refine rn rfl ?_
        refine goal_guard rfl rfl rfl (fun hf => ?_) (fun hf => ?_) <;> (try simp only [gt_iff_lt, ge_iff_le, bne_iff_ne, ne_eq, bne_eq_false_iff_eq, beq_iff_eq, beq_eq_false_iff_ne, Bool.not_eq_true', Bool.not_eq_false', decide_eq_true_eq, decide_eq_false_iff_not, List.length_map] at hf)
        · have hk : keepQ p fx nd = true := by simp [keepQ, h1, hf]
          rw [hk]
          refine rn rfl ?_
          exact cut_nrm [10, 9, 8, 7, 6, 5, 4, 3, 2] [0, 1, 2, 3, 4, 5] rfl rfl
        · refine rn rfl ?_
          refine goal_guard rfl rfl rfl (fun h2 => ?_) (fun h2 => ?_) <;> (try simp only [gt_iff_lt, ge_iff_le, bne_iff_ne, ne_eq, bne_eq_false_iff_eq, beq_iff_eq, beq_eq_false_iff_ne, Bool.not_eq_true', Bool.not_eq_false', decide_eq_true_eq, decide_eq_false_iff_not, List.length_map] at h2)
          · have hk : keepQ p fx nd = nd := by simp [keepQ, h1, hf, h2]
            rw [hk]
            refine rn rfl ?_
            exact cut_nrm [10, 9, 8, 7, 6, 5, 4, 3, 2] [0, 1, 2, 3, 4, 5] rfl rfl
          · have hk : keepQ p fx nd = false := by simp [keepQ, h1, hf, h2]
            rw [hk]
            refine rn rfl ?_
            exact cut_nrm [10, 9, 8, 7, 6, 5, 4, 3, 2] [0, 1, 2, 3, 4, 5] rfl rfl
      · have hk0 : (p.kind == 0) = false := by
          cases h0 : p.kind == 0 with
          | false => rfl
          | true => rw [placed_kind.2 (.inl (by simpa using h0))] at h1; cases h1
        have hk : keepQ p fx nd = false := by simp [keepQ, h1, hk0]
        rw [hk]
        refine rn rfl ?_
        refine goal_guard rfl rfl rfl (fun h0 => by rw [hk0] at h0; cases h0) (fun _ => ?_)
        refine rn rfl ?_
        exact cut_nrm [10, 9, 8, 7, 6, 5, 4, 3, 2] [0, 1, 2, 3, 4, 5] rfl rfl
    rintro _ rfl
    have hone := h.one k p x hp hx
    refine rt 9 rfl ?_
    refine goal_cutR (fun σ' => σ' = ⟨[(9, .one (.op 5 0 0)), (8, .one (.int .i64 k)), (7, .one (.bool nd)), (6, .one (.bool fx)), (5, .one (.op 3 0 0)), (4, .one (.op 2 0 0)), (3, .one (.op 1 0 0)), (2, .one (.op 0 0 0))], [some ⟨1, [eG s], false, false, true⟩, some ⟨1, [eBi b], false, false, true⟩, some ⟨1, [[.fs []]], false, false, true⟩, some ⟨1, [[.os 4 0 s.length s.length]], false, false, true⟩, ownL (leanS fx k p x (out, nd)).1, some ⟨4, [eQ p], false, false, true⟩], []⟩) ?_ ?_
    · refine rn rfl ?_
      refine goal_draw' [1, 5] 11 rfl ?_
      refine drn [0, 1, 2, 3] (by kernel_rfl) (by kernel_rfl) rfl rfl ?_
      refine AH_did 4 rfl (by kernel_rfl) (by kernel_rfl) (by kernel_rfl) rfl rfl (dA_index (eL x) rfl rfl rfl rfl rfl rfl rfl (by omega) (by (try simp); omega) (map_at (by simpa using hx)) rfl) ?_
      refine drn [5] (by kernel_rfl) (by kernel_rfl) rfl rfl ?_
      refine AH_one (i := 6) (by kernel_rfl) (step_call [] rfl rfl rfl rfl rfl rfl (isDefault_ct p x hone)) (by simp) ?_
      rintro σ2 ⟨r, o', ⟨rfl, rfl⟩, hσ⟩
      obtain rfl := Option.some.inj hσ
      clear hσ
      refine drn [7] (by kernel_rfl) (by kernel_rfl) rfl rfl ?_
      refine AH_guard (i := 8) rfl rfl rfl (fun h3 => ?_) (fun h3 => ?_) <;> (try simp only [gt_iff_lt, ge_iff_le, bne_iff_ne, ne_eq, bne_eq_false_iff_eq, beq_iff_eq, beq_eq_false_iff_ne, Bool.not_eq_true', Bool.not_eq_false', decide_eq_true_eq, decide_eq_false_iff_not, List.length_map] at h3)
      · refine drn [8, 9, 10] (by kernel_rfl) (by kernel_rfl) rfl rfl ?_
        refine AH_end (by kernel_rfl) ?_
        refine rn rfl ?_
        refine goal_cond rfl (fun h4 => ?_) (fun h4 => ?_) <;> (try simp only [gt_iff_lt, ge_iff_le, bne_iff_ne, ne_eq, bne_eq_false_iff_eq, beq_iff_eq, beq_eq_false_iff_ne, Bool.not_eq_true', Bool.not_eq_false', decide_eq_true_eq, decide_eq_false_iff_not, List.length_map] at h4)
        · have e : (leanS fx k p x (out, nd)).1 = out.set k zL := by simp [leanS, clrQ, h3, h4]
          rw [e]
          refine rn rfl ?_
          refine goal_data 61 [] (y := .agg (eL zL)) rfl rfl rfl ?_
          refine goal_did rfl rfl (dA_indexOwn rfl rfl rfl rfl rfl rfl rfl rfl rfl (by omega) (by omega)) ?_
          refine goal_did rfl rfl (dA_storeEl (eL x) ((out.set k zL).map eL) true rfl rfl rfl rfl rfl (map_at (by simpa using hxo)) rfl rfl (by simp [eL, zL]) (by rw [map_set]; simp [patch, eL, zL]) (fun _ => noOwnR_map _ eL_noOwn _)) ?_
          refine rn rfl ?_
          exact cut_nrm [9, 8, 7, 6, 5, 4, 3, 2] [0, 1, 2, 3, 4, 5] rfl rfl
        · have e : (leanS fx k p x (out, nd)).1 = out := by simp [leanS, clrQ, h3, h4]
          rw [e]
          refine rn rfl ?_
          exact cut_nrm [9, 8, 7, 6, 5, 4, 3, 2] [0, 1, 2, 3, 4, 5] rfl rfl
      · have e : (leanS fx k p x (out, nd)).1 = out := by simp [leanS, clrQ, h3]
        rw [e]
        refine drn [8, 9, 10] (by kernel_rfl) (by kernel_rfl) rfl rfl ?_
        refine AH_end (by kernel_rfl) ?_
        refine rn rfl ?_
        refine rn rfl ?_
        exact cut_nrm [9, 8, 7, 6, 5, 4, 3, 2] [0, 1, 2, 3, 4, 5] rfl rfl
    rintro _ rfl
    have hol' : (leanS fx k p x (out, nd)).1.length = s.length := by unfold leanS; simp only; split <;> simp [hol]
    have hy : (leanS fx k p x (out, nd)).1[k]? = some (if clrQ p x fx nd then zL else x) := by
      unfold leanS
      simp only
      split
      · rw [List.getElem?_set, if_pos rfl, if_pos (by omega)]
      · exact hxo
    have hag' : ∀ j, j < k → (leanS fx k p x (out, nd)).1[j]? = b[j]? := fun j hj => by
      rw [← hag j (by omega)]
      unfold leanS
      simp only
      split
      · rw [List.getElem?_set, if_neg (by omega)]
      · rfl
    have hnd : (leanS fx k p x (out, nd)).2 = (nd || (p.kind == 0 && (if clrQ p x fx nd then zL else x).given)) := by
      unfold leanS
      simp only
      cases clrQ p x fx nd <;> simp [zL]
    generalize hO : leanS fx k p x (out, nd) = st at hol' hy hag' hnd hlq ⊢
    obtain ⟨O, N⟩ := st
    simp only at hol' hy hag' hnd hlq ⊢
    generalize (if clrQ p x fx nd then zL else x) = y at hy hnd
    refine rt1 11 rfl ?_
    refine goal_cutR (fun σ' => σ' = ⟨[(9, .one (.op 5 0 0)), (8, .one (.int .i64 k)), (7, .one (.bool N)), (6, .one (.bool fx)), (5, .one (.op 3 0 0)), (4, .one (.op 2 0 0)), (3, .one (.op 1 0 0)), (2, .one (.op 0 0 0))], [some ⟨1, [eG s], false, false, true⟩, some ⟨1, [eBi b], false, false, true⟩, some ⟨1, [[.fs []]], false, false, true⟩, some ⟨1, [[.os 4 0 s.length s.length]], false, false, true⟩, ownL O, some ⟨4, [eQ p], false, false, true⟩], []⟩) ?_ ?_
    · refine rn rfl ?_
      refine goal_guard rfl rfl rfl (fun h5 => ?_) (fun h5 => ?_) <;> (try simp only [gt_iff_lt, ge_iff_le, bne_iff_ne, ne_eq, bne_eq_false_iff_eq, beq_iff_eq, beq_eq_false_iff_ne, Bool.not_eq_true', Bool.not_eq_false', decide_eq_true_eq, decide_eq_false_iff_not, List.length_map] at h5)
      · have e : N = true := by rw [hnd, h5]; rfl
        rw [e]
        refine rn rfl ?_
        exact cut_nrm [9, 8, 7, 6, 5, 4, 3, 2] [0, 1, 2, 3, 4, 5] rfl rfl
      · refine rn rfl ?_
        refine goal_guard rfl rfl rfl (fun h6 => ?_) (fun h6 => ?_) <;> (try simp only [gt_iff_lt, ge_iff_le, bne_iff_ne, ne_eq, bne_eq_false_iff_eq, beq_iff_eq, beq_eq_false_iff_ne, Bool.not_eq_true', Bool.not_eq_false', decide_eq_true_eq, decide_eq_false_iff_not, List.length_map] at h6)
        · have e : N = y.given := by rw [hnd, h5]; simp [h6]
          rw [e]
          refine rn rfl ?_
          refine goal_did rfl rfl (dA_indexOwn rfl rfl rfl rfl rfl rfl rfl rfl rfl (by omega) (by omega)) ?_
          refine goal_did rfl rfl (dA_step rfl) ?_
          refine goal_did rfl rfl (dA_loadEl (eL y) rfl rfl rfl rfl (map_at (by simpa using hy)) rfl rfl rfl) ?_
          refine rn rfl ?_
          exact cut_nrm [9, 8, 7, 6, 5, 4, 3, 2] [0, 1, 2, 3, 4, 5] rfl rfl
        · have e : N = false := by rw [hnd, h5]; simp [h6]
          rw [e]
          refine rn rfl ?_
          exact cut_nrm [9, 8, 7, 6, 5, 4, 3, 2] [0, 1, 2, 3, 4, 5] rfl rfl
    rintro _ rfl
    refine rn rfl ?_
    refine round_keep k [8, 7, 6, 5, 4, 3, 2] [0, 1, 2, 3, 4] (by omega) rfl ⟨_, k, _, O, N, fx, wrap64 (by omega) (by omega), rfl, by omega, rfl, hol', rfl, hlq, hag', rfl⟩
  · obtain rfl : m = 0 := by omega
    refine rn rfl (round_ext ?_)
    have hfin : leanQ s b fx = out := hlq
    rw [hfin]
    refine rn rfl (fin_is [] rfl ⟨?_, rfl⟩)
    exact congrArg (fun x => T.agg [C.fs x]) (takeAll eL _ _ hol)

def LeanF (s : Sig) (f : Flat) : Flat × Bool := if fitQ s f && accQ s f then checkF (unbQ s (leanQ s (boundQ s f).1 (decide (0 < (restB s (boundQ s f).1).length)))) true else (zF, false)

theorem asL (b : Bnds) (n : Nat) (h : b.length = n) : T.agg [C.fs (List.take n (List.drop 0 (b.map eL)))] = T.agg (eBi b) := by rw [takeAll eL _ _ h]; rfl

theorem unb_names (M : Nat) : ∀ (zs : List (Param × Slot)) (st : Flat × Bool), (∀ z ∈ zs, z.1.name.length ≤ M ∧ ∀ q ∈ z.2.pairs, q.name.length ≤ M) → (∀ q ∈ st.1.named, q.name.length ≤ M) → ∀ q ∈ (zs.foldl stU st).1.named, q.name.length ≤ M
  | [], st, _, h => h
  | z :: zs, st, hz, h => by
    rw [List.foldl_cons]
    refine unb_names M zs _ (fun y hy => hz y (by simp [hy])) ?_
    obtain ⟨h1, h2⟩ := hz z (by simp)
    intro q hq
    unfold stU at hq
    split at hq
    · exact h q hq
    · split at hq
      · rcases List.mem_append.1 hq with hq | hq
        · exact h q hq
        · exact h2 q hq
      · split at hq
        · exact h q hq
        · split at hq
          · exact h q hq
          · rcases List.mem_append.1 hq with hq | hq
            · exact h q hq
            · simp only [List.mem_singleton] at hq; rw [hq]; exact h1

theorem lean_unb {s : Sig} {b : Bnds} (hs : OkS s) (h : OkB s b) (hp : ∀ x ∈ b, ∀ q ∈ x.pairs, q.name.length ≤ 6) (fx : Bool) : OkB s (leanQ s b fx) ∧ (unbQ s (leanQ s b fx)).places.length ≤ 8000 ∧ (unbQ s (leanQ s b fx)).named.length ≤ 8000 ∧ ∀ q ∈ (unbQ s (leanQ s b fx)).named, q.name.length ≤ 9223372036854775807 := by
  have h1 : OkB s (leanQ s b fx) := leanI_okB _ _ h
  have h2 : ∀ x ∈ leanQ s b fx, ∀ q ∈ x.pairs, q.name.length ≤ 6 := leanI_pairs (fun q => q.name.length ≤ 6) _ _ hp
  have hl := unb_len (leanQ s b fx) h1.size (s.zip (leanQ s b fx)) (zF, true) (fun z hz => (List.of_mem_zip hz).2)
  have hzl : (s.zip (leanQ s b fx)).length = s.length := by simp [h1.len]
  have hf := h1.few
  have hn := unb_names 6 (s.zip (leanQ s b fx)) (zF, true) (fun z hz => ⟨(hs.nameLen (List.of_mem_zip hz).1).1, h2 _ (List.of_mem_zip hz).2⟩) (by simp [zF])
  unfold unbQ
  simp only [zF, List.length_nil, hzl] at hl hn ⊢
  exact ⟨h1, by omega, by omega, fun q hq => by have := hn q hq; omega⟩

theorem bound_pairs {s : Sig} {f : Flat} (hs : OkS s) (hf : OkF f) : ∀ x ∈ (boundQ s f).1, ∀ q ∈ x.pairs, q.name.length ≤ 6 := by
  intro x hx
  obtain ⟨i, hi⟩ := List.getElem?_of_mem hx
  obtain ⟨p, hp⟩ := at_some (xs := s) (i := i) (by have := lt_of_some hi; rw [boundQ_len] at this; exact this)
  have hz : (p, x) ∈ s.zip (boundQ s f).1 := List.mem_of_getElem? (by rw [List.getElem?_zip_eq_some]; exact ⟨hp, hi⟩)
  exact (bound_names hs hf _ hz).2

theorem slean_ctF (s : Sig) (f : Flat) (hls : LenS s) (hlf : LenF f) : ACalls pk 54 [.agg (eG s), .agg (eF f)] [] (fun r o => r = .tup [.agg (eF (LeanF s f).1), .one (.bool (LeanF s f).2)] ∧ o = []) := by
  refine acalls_of_body Try.func54 rfl (by kernel_rfl) rfl ?_
  refine rn rfl ?_
  refine goal_step (step_call [] rfl rfl rfl rfl rfl rfl (sBind_ct s f hls hlf)) ?_
  rintro σ2 ⟨r, o', ⟨rfl, rfl⟩, hσ⟩
  obtain rfl := Option.some.inj hσ
  clear hσ
  refine rn rfl ?_
  unfold BindQ
  by_cases hv : ¬ (fitQ s f && accQ s f) = true
  · rw [if_neg hv]
    have hz : LeanF s f = (zF, false) := by unfold LeanF; rw [if_neg hv]
    rw [hz]
    refine goal_cond rfl (fun _ => ?_) (fun h0 => by cases h0)
    exact rn rfl (fin_is [] rfl ⟨rfl, rfl⟩)
  rw [Classical.not_not] at hv
  rw [if_pos hv]
  have hz : LeanF s f = checkF (unbQ s (leanQ s (boundQ s f).1 (decide (0 < (restB s (boundQ s f).1).length)))) true := by unfold LeanF; rw [if_pos hv]
  rw [hz]
  simp only [Bool.and_eq_true] at hv
  obtain ⟨hs, hf⟩ := fitQ_iff.1 hv.1
  have h := bound_okB hs hf
  have hpn := bound_pairs hs hf
  generalize (boundQ s f).1 = b at *
  obtain ⟨l1, l2, l3, l4⟩ := lean_unb hs h hpn (decide (0 < (restB s b).length))
  refine goal_cond rfl (fun h0 => by cases h0) (fun _ => ?_)
  refine rn rfl ?_
  refine goal_draw' [0, 3] 10 rfl ?_
  refine drn [0, 1, 2] (by kernel_rfl) (by kernel_rfl) rfl rfl ?_
  refine AH_one (i := 3) (by kernel_rfl) (step_call [] rfl rfl rfl rfl rfl rfl (leanWalk_ct s b h)) (by simp) ?_
  rintro σ2 ⟨r, o', ⟨rfl, rfl⟩, hσ⟩
  obtain rfl := Option.some.inj hσ
  clear hσ
  refine AH_one (i := 4) (by kernel_rfl) (step_call [] rfl rfl rfl rfl rfl rfl (sunbound_ct s _ l1)) (by simp) ?_
  rintro σ2 ⟨r, o', ⟨rfl, rfl⟩, hσ⟩
  obtain rfl := Option.some.inj hσ
  clear hσ
  refine AH_one (i := 5) (by kernel_rfl) (step_call [] rfl rfl rfl rfl rfl rfl (checkedFlat_ct _ (by omega) (by omega) l4)) (by simp) ?_
  rintro σ2 ⟨r, o', ⟨rfl, rfl⟩, hσ⟩
  obtain rfl := Option.some.inj hσ
  clear hσ
  refine drn [6, 7] (by kernel_rfl) (by kernel_rfl) rfl rfl ?_
  refine AH_oneDid 8 rfl (by kernel_rfl) rfl (dA_step rfl) (mdOk rfl) ?_
  refine drn [9] (by kernel_rfl) (by kernel_rfl) rfl rfl ?_
  refine AH_end (by kernel_rfl) ?_
  refine rn rfl ?_
  exact rn rfl (fin_is [] rfl ⟨rfl, rfl⟩)

theorem ilean_ctF (s : Sig) (f : Flat) (hls : LenS s) (hlf : LenF f) : ACalls pk 55 [.agg (eG s), .agg (eF f)] [] (fun r o => r = .tup [rF (LeanF s f).1, .one (.bool (LeanF s f).2)] ∧ o = oF (LeanF s f).1) := by
  refine acalls_of_body Try.func55 rfl (by kernel_rfl) rfl ?_
  refine rn rfl ?_
  refine goal_step (step_call [] rfl rfl rfl rfl rfl rfl (iBind_ct s f hls hlf)) ?_
  rintro σ2 ⟨r, o', ⟨rfl, rfl⟩, hσ⟩
  obtain rfl := Option.some.inj hσ
  clear hσ
  refine rn rfl ?_
  unfold BindQ
  by_cases hv : ¬ (fitQ s f && accQ s f) = true
  · rw [if_neg hv]
    have hz : LeanF s f = (zF, false) := by unfold LeanF; rw [if_neg hv]
    rw [hz]
    refine goal_cond rfl (fun _ => ?_) (fun h0 => by cases h0)
    refine rn rfl ?_
    exact fin_weak (Weak.adoptO 2 0 1) (fin_weak (Weak.adoptO 2 1 2) (fin_is [5, 6] rfl ⟨rfl, rfl⟩))
  rw [Classical.not_not] at hv
  rw [if_pos hv]
  have hz : LeanF s f = checkF (unbQ s (leanQ s (boundQ s f).1 (decide (0 < (restB s (boundQ s f).1).length)))) true := by unfold LeanF; rw [if_pos hv]
  rw [hz]
  simp only [Bool.and_eq_true] at hv
  obtain ⟨hs, hf⟩ := fitQ_iff.1 hv.1
  have h := bound_okB hs hf
  have hpn := bound_pairs hs hf
  generalize (boundQ s f).1 = b at *
  have hlen := h.len
  have hfew := h.few
  obtain ⟨l1, l2, l3, l4⟩ := lean_unb hs h hpn (decide (0 < (restB s b).length))
  refine goal_cond rfl (fun h0 => by cases h0) (fun _ => ?_)
  refine rn rfl ?_
  refine goal_step (step_lendE [] rfl rfl rfl rfl rfl rfl rfl (cons_eq rfl (cons_eq (asL b _ rfl) rfl)) (rest_ct s b hlen (by omega)) (by rintro r o ⟨rfl, rfl⟩; exact ⟨rfl, rfl⟩)) ?_
  rintro σ2 ⟨r, o', ⟨rfl, rfl⟩, hσ⟩
  obtain rfl := Option.some.inj hσ
  clear hσ
  refine rn rfl ?_
  refine rn rfl ?_
  refine goal_loop_keep (fun m σ => ∃ (q : Int) (i L : Nat) (out : Bnds) (nd nn fx : Bool), q = (i : Int) - 1 ∧ L = s.length ∧ i ≤ s.length ∧ m = i ∧ out.length = s.length ∧ nn = !fx ∧ fx = decide (0 < (restB s b).length) ∧ leanQ s b fx = (leanI s b fx i (out, nd)).1 ∧ (∀ j, j < i → out[j]? = b[j]?) ∧
      σ = ⟨[(10, .one (.int .i64 q)), (9, .one (.bool nd)), (8, .one (.bool nn)), (6, .one (.op 2 0 0)), (4, .one (.op 1 0 0)), (2, .one (.op 0 0 0))],
        [some ⟨1, [eG s], false, false, true⟩, some ⟨2, [[.fs [], .fs []]], false, false, true⟩, some ⟨1, [[.os 3 0 L L]], false, false, true⟩, ownL out], []⟩) s.length [10, 9, 8, 6, 4, 2] [0, 2, 4, 3] rfl
    ⟨_, s.length, _, b, _, _, _, ?_, hlen, by omega, rfl, hlen, ?_, rfl, rfl, fun _ _ => rfl, rfl⟩ ?_
  · simp only [List.length_map]; rw [wrap64 (by omega) (by omega)]
  · cases restB s b with
    | nil => rfl
    | cons a l => simp; omega
  rintro m σ ⟨q, i, L, out, nd, nn, fx, hq, rfl, hi, rfl, hol, hnn, hfx, hlq, hag, rfl⟩
  rw [← hfx] at l1 l2 l3 l4 ⊢
  refine rn rfl ?_
  refine goal_cond rfl (fun hc => ?_) (fun hc => ?_) <;> (try simp only [gt_iff_lt, ge_iff_le, bne_iff_ne, ne_eq, bne_eq_false_iff_eq, beq_iff_eq, beq_eq_false_iff_ne, Bool.not_eq_true', Bool.not_eq_false', decide_eq_true_eq, decide_eq_false_iff_not, List.length_map] at hc)
  · obtain ⟨k, rfl⟩ : ∃ k, m = k + 1 := ⟨m - 1, by omega⟩
    obtain rfl : q = (k : Int) := by omega
    obtain ⟨p, hp⟩ := at_some (xs := s) (i := k) (by omega)
    obtain ⟨x, hx⟩ := at_some (xs := b) (i := k) (by omega)
    have hxo : out[k]? = some x := by rw [hag k (by omega)]; exact hx
    rw [leanI_succ hp hx] at hlq
    have hone := h.one k p x hp hx
    refine rn rfl ?_
    refine goal_cutR (fun σ' => σ' = ⟨[(12, .one (.op 3 (0 + (k : Int).toNat) 0)), (11, .one (.op 4 0 0)), (10, .one (.int .i64 k)), (9, .one (.bool nd)), (8, .one (.bool nn)), (6, .one (.op 2 0 0)), (4, .one (.op 1 0 0)), (2, .one (.op 0 0 0))], [some ⟨1, [eG s], false, false, true⟩, some ⟨2, [[.fs [], .fs []]], false, false, true⟩, some ⟨1, [[.os 3 0 s.length s.length]], false, false, true⟩, ownL out, some ⟨4, [eQ p], false, false, true⟩], []⟩) ?_ ?_
    · refine goal_draw' [0, 2] 12 rfl ?_
      refine drn [0, 1, 2, 5, 6, 7] (by kernel_rfl) (by kernel_rfl) rfl rfl ?_
      refine AH_did 3 rfl (by kernel_rfl) (by kernel_rfl) (by kernel_rfl) rfl rfl (dA_index (eQ p) rfl rfl rfl rfl rfl rfl rfl (by omega) (by (try simp); omega) (map_at (by simpa using hp)) rfl) ?_
      refine drn [4] (by kernel_rfl) (by kernel_rfl) rfl rfl ?_
      refine AH_did 8 rfl (by kernel_rfl) (by kernel_rfl) (by kernel_rfl) rfl rfl (dA_indexOwn rfl rfl rfl rfl rfl rfl rfl rfl rfl (by omega) (by (try simp); omega)) ?_
      refine AH_oneDid 9 rfl (by kernel_rfl) rfl (dA_step rfl) (mdOk rfl) ?_
      refine AH_oneDid 10 rfl (by kernel_rfl) rfl (dA_step rfl) (mdOk rfl) ?_
      refine drn [11] (by kernel_rfl) (by kernel_rfl) rfl rfl ?_
      refine AH_end (by kernel_rfl) ?_
      refine rn rfl ?_
      exact cut_nrm [12, 11, 10, 9, 8, 6, 4, 2] [0, 1, 2, 3, 4] rfl rfl
    rintro _ rfl
    refine rt 10 rfl ?_
    refine goal_cutR (fun σ' => (singleQ p = true ∧ x.given = true) ∧ σ' = ⟨[(12, .one (.op 3 (0 + (k : Int).toNat) 0)), (11, .one (.op 4 0 0)), (10, .one (.int .i64 k)), (9, .one (.bool nd)), (8, .one (.bool nn)), (6, .one (.op 2 0 0)), (4, .one (.op 1 0 0)), (2, .one (.op 0 0 0))], [some ⟨1, [eG s], false, false, true⟩, some ⟨2, [[.fs [], .fs []]], false, false, true⟩, some ⟨1, [[.os 3 0 s.length s.length]], false, false, true⟩, ownL out, some ⟨4, [eQ p], false, false, true⟩], []⟩) ?_ ?_
    · refine rn rfl ?_
      refine goal_step (step_call [] rfl rfl rfl rfl rfl rfl (isingle_ct p)) ?_
      rintro σ2 ⟨r, o', ⟨rfl, rfl⟩, hσ⟩
      obtain rfl := Option.some.inj hσ
      clear hσ
      refine rn rfl ?_
      refine goal_guard rfl rfl rfl (fun h1 => ?_) (fun h1 => ?_) <;> (try simp only [gt_iff_lt, ge_iff_le, bne_iff_ne, ne_eq, bne_eq_false_iff_eq, beq_iff_eq, beq_eq_false_iff_ne, Bool.not_eq_true', Bool.not_eq_false', decide_eq_true_eq, decide_eq_false_iff_not, List.length_map] at h1)
      · have e : leanS fx k p x (out, nd) = (out, nd) := by
          have hk0 : (p.kind == 0) = false := by
            cases h0 : p.kind == 0 with
            | false => rfl
            | true => rw [single_kind.2 (.inl (by simpa using h0))] at h1; cases h1
          simp [leanS, clrQ, isDefQ, h1, hk0]
        refine rn rfl ?_
        refine cut_ext ?_
        refine rn rfl ?_
        refine round_keep k [10, 9, 8, 6, 4, 2] [0, 1, 2, 3] (by omega) rfl ⟨_, k, _, out, nd, nn, fx, wrap64 (by omega) (by omega), rfl, by omega, rfl, hol, hnn, rfl, by rw [hlq, e], fun j hj => hag j (by omega), rfl⟩
      · refine goal_did rfl rfl (dA_step rfl) ?_
        refine goal_did rfl rfl (dA_step rfl) ?_
        refine goal_did rfl rfl (dA_step rfl) ?_
        refine goal_did rfl rfl (dA_loadEl (eL x) rfl rfl rfl rfl (map_at (by simpa using hxo)) rfl rfl rfl) ?_
        refine rn rfl ?_
        refine goal_cond rfl (fun h2 => ?_) (fun h2 => ?_) <;> (try simp only [gt_iff_lt, ge_iff_le, bne_iff_ne, ne_eq, bne_eq_false_iff_eq, beq_iff_eq, beq_eq_false_iff_ne, Bool.not_eq_true', Bool.not_eq_false', decide_eq_true_eq, decide_eq_false_iff_not, List.length_map] at h2)
        · have e : leanS fx k p x (out, nd) = (out, nd) := by simp [leanS, clrQ, isDefQ, h2]
          refine rn rfl ?_
          refine cut_ext ?_
          refine rn rfl ?_
          refine round_keep k [10, 9, 8, 6, 4, 2] [0, 1, 2, 3] (by omega) rfl ⟨_, k, _, out, nd, nn, fx, wrap64 (by omega) (by omega), rfl, by omega, rfl, hol, hnn, rfl, by rw [hlq, e], fun j hj => hag j (by omega), rfl⟩
        · refine rn rfl ?_
          exact cut_nrm [12, 11, 10, 9, 8, 6, 4, 2] [0, 1, 2, 3, 4] rfl ⟨⟨by simpa using h1, by simpa using h2⟩, rfl⟩
    rintro _ ⟨⟨hsg, hgv⟩, rfl⟩
    obtain ⟨v, hv⟩ := hone hsg hgv
    refine rt1 11 rfl ?_
    refine goal_cutR (fun σ' => σ' = ⟨[(13, .one (.bool (plainQ p x))), (12, .one (.op 3 (0 + (k : Int).toNat) 0)), (11, .one (.op 4 0 0)), (10, .one (.int .i64 k)), (9, .one (.bool nd)), (8, .one (.bool nn)), (6, .one (.op 2 0 0)), (4, .one (.op 1 0 0)), (2, .one (.op 0 0 0))], [some ⟨1, [eG s], false, false, true⟩, some ⟨2, [[.fs [], .fs []]], false, false, true⟩, some ⟨1, [[.os 3 0 s.length s.length]], false, false, true⟩, ownL out, some ⟨4, [eQ p], false, false, true⟩], []⟩) ?_ ?_
    · refine goal_draw' [3, 4] 14 rfl ?_
      refine drn [0, 1, 2] (by kernel_rfl) (by kernel_rfl) rfl rfl ?_
      refine AH_guard (i := 3) rfl rfl rfl (fun h3 => ?_) (fun h3 => ?_) <;> (try simp only [gt_iff_lt, ge_iff_le, bne_iff_ne, ne_eq, bne_eq_false_iff_eq, beq_iff_eq, beq_eq_false_iff_ne, Bool.not_eq_true', Bool.not_eq_false', decide_eq_true_eq, decide_eq_false_iff_not, List.length_map] at h3)
      · have e : plainQ p x = (v == p.dflt) := by simp [plainQ, h3, hv, hd0]
        rw [e]
        refine drn [3, 9, 10] (by kernel_rfl) (by kernel_rfl) rfl rfl ?_
        refine AH_oneDid 4 rfl (by kernel_rfl) rfl (dA_step rfl) (mdOk rfl) ?_
        refine AH_did 5 rfl (by kernel_rfl) (by kernel_rfl) (by kernel_rfl) rfl rfl (dA_step rfl) ?_
        refine AH_did 6 rfl (by kernel_rfl) (by kernel_rfl) (by kernel_rfl) rfl rfl (dA_loadEl (eL x) rfl rfl rfl rfl (map_at (by simpa using hxo)) rfl rfl rfl) ?_
        refine AH_did 7 rfl (by kernel_rfl) (by kernel_rfl) (by kernel_rfl) rfl rfl (dA_index (eI v) rfl rfl rfl rfl rfl rfl rfl (by omega) (by simp [hv]) (by simp [hv]) rfl) ?_
        refine drn [8, 11, 12, 13] (by kernel_rfl) (by kernel_rfl) rfl rfl ?_
        refine AH_end (by kernel_rfl) ?_
        refine rn rfl ?_
        exact cut_nrm [13, 12, 11, 10, 9, 8, 6, 4, 2] [0, 1, 2, 3, 4] rfl rfl
      · have e : plainQ p x = false := by simp [plainQ, h3]
        rw [e]
        refine drn [3, 4, 5, 6, 7, 8, 9, 10, 11, 12, 13] (by kernel_rfl) (by kernel_rfl) rfl rfl ?_
        refine AH_end (by kernel_rfl) ?_
        refine rn rfl ?_
        exact cut_nrm [13, 12, 11, 10, 9, 8, 6, 4, 2] [0, 1, 2, 3, 4] rfl rfl
    rintro _ rfl
    generalize hpl : plainQ p x = pl
    rcases single_kind.1 hsg with hk | hk | hk
    · refine rn rfl ?_
      refine goal_guard rfl rfl rfl (fun h0 => by simp [hk] at h0) (fun _ => ?_)
      refine rn rfl ?_
      refine goal_guard rfl rfl rfl (fun h0 => by simp [hk] at h0) (fun _ => ?_)
      refine rn rfl ?_
      refine goal_guard rfl rfl rfl (fun _ => ?_) (fun h0 => by simp [hk] at h0)
      refine rn rfl ?_
      refine goal_guard rfl rfl rfl (fun hp1 => ?_) (fun hp1 => ?_) <;> (try simp only [gt_iff_lt, ge_iff_le, bne_iff_ne, ne_eq, bne_eq_false_iff_eq, beq_iff_eq, beq_eq_false_iff_ne, Bool.not_eq_true', Bool.not_eq_false', decide_eq_true_eq, decide_eq_false_iff_not, List.length_map] at hp1)
      · refine rn rfl ?_
        refine goal_guard rfl rfl rfl (fun hn1 => ?_) (fun hn1 => ?_) <;> (try simp only [gt_iff_lt, ge_iff_le, bne_iff_ne, ne_eq, bne_eq_false_iff_eq, beq_iff_eq, beq_eq_false_iff_ne, Bool.not_eq_true', Bool.not_eq_false', decide_eq_true_eq, decide_eq_false_iff_not, List.length_map] at hn1)
        · refine rn rfl ?_
          refine goal_cond rfl (fun hb1 => ?_) (fun hb1 => ?_) <;> (try simp only [gt_iff_lt, ge_iff_le, bne_iff_ne, ne_eq, bne_eq_false_iff_eq, beq_iff_eq, beq_eq_false_iff_ne, Bool.not_eq_true', Bool.not_eq_false', decide_eq_true_eq, decide_eq_false_iff_not, List.length_map] at hb1)
          · have e : leanS fx k p x (out, nd) = (out.set k zL, nd) := by simp [leanS, clrQ, isDefQ, keepQ, placedQ, hsg, hgv, hpl, hk, hp1, hb1, (show fx = false by rw [hn1] at hnn; simpa using hnn.symm)]
            refine rt1 15 rfl ?_
            refine run_sound 1 _ _ _ _ rfl ?_
            refine goal_did rfl rfl (dA_step rfl) ?_
            refine goal_did rfl rfl (dA_step rfl) ?_
            refine goal_did rfl rfl (dA_step rfl) ?_
            refine goal_data 97 [] (y := .agg (eL zL)) rfl rfl rfl ?_
            refine goal_did rfl rfl (dA_storeEl (eL x) ((out.set k zL).map eL) true rfl rfl rfl rfl rfl (map_at (by simpa using hxo)) rfl rfl (by simp [eL, zL]) (by rw [map_set]; simp [patch, eL, zL]) (fun _ => noOwnR_map _ eL_noOwn _)) ?_
            refine rn rfl ?_
            refine round_keep k [10, 9, 8, 6, 4, 2] [0, 1, 2, 3] (by omega) rfl ⟨_, k, _, out.set k zL, nd, nn, fx, wrap64 (by omega) (by omega), rfl, by omega, rfl, (by simp [hol]), hnn, rfl, by rw [hlq, e], (fun j hj => by rw [List.getElem?_set, if_neg (by omega)]; exact hag j (by omega)), rfl⟩
          · have e : leanS fx k p x (out, nd) = (out, true) := by simp [leanS, clrQ, isDefQ, keepQ, placedQ, hsg, hgv, hpl, hk, hp1, hb1, (show fx = false by rw [hn1] at hnn; simpa using hnn.symm)]
            refine rn rfl ?_
            refine goal_cond rfl (fun _ => ?_) (fun h0 => by simp [hk] at h0)
            refine rn rfl ?_
            refine round_keep k [10, 9, 8, 6, 4, 2] [0, 1, 2, 3] (by omega) rfl ⟨_, k, _, out, true, nn, fx, wrap64 (by omega) (by omega), rfl, by omega, rfl, hol, hnn, rfl, by rw [hlq, e], (fun j hj => hag j (by omega)), rfl⟩
        · have e : leanS fx k p x (out, nd) = (out, true) := by simp [leanS, clrQ, isDefQ, keepQ, placedQ, hsg, hgv, hpl, hk, hp1, (show fx = true by rw [hn1] at hnn; simpa using hnn.symm)]
          refine rn rfl ?_
          refine goal_cond rfl (fun _ => ?_) (fun h0 => by simp [hk] at h0)
          refine rn rfl ?_
          refine round_keep k [10, 9, 8, 6, 4, 2] [0, 1, 2, 3] (by omega) rfl ⟨_, k, _, out, true, nn, fx, wrap64 (by omega) (by omega), rfl, by omega, rfl, hol, hnn, rfl, by rw [hlq, e], (fun j hj => hag j (by omega)), rfl⟩
      · have e : leanS fx k p x (out, nd) = (out, true) := by simp [leanS, clrQ, isDefQ, keepQ, placedQ, hsg, hgv, hpl, hk, hp1]
        refine rn rfl ?_
        refine goal_cond rfl (fun _ => ?_) (fun h0 => by simp [hk] at h0)
        refine rn rfl ?_
        refine round_keep k [10, 9, 8, 6, 4, 2] [0, 1, 2, 3] (by omega) rfl ⟨_, k, _, out, true, nn, fx, wrap64 (by omega) (by omega), rfl, by omega, rfl, hol, hnn, rfl, by rw [hlq, e], (fun j hj => hag j (by omega)), rfl⟩
    · refine rn rfl ?_
      refine goal_guard rfl rfl rfl (fun h0 => by simp [hk] at h0) (fun _ => ?_)
      refine rn rfl ?_
      refine goal_guard rfl rfl rfl (fun _ => ?_) (fun h0 => by simp [hk] at h0)
      refine rn rfl ?_
      refine goal_guard rfl rfl rfl (fun hp1 => ?_) (fun hp1 => ?_) <;> (try simp only [gt_iff_lt, ge_iff_le, bne_iff_ne, ne_eq, bne_eq_false_iff_eq, beq_iff_eq, beq_eq_false_iff_ne, Bool.not_eq_true', Bool.not_eq_false', decide_eq_true_eq, decide_eq_false_iff_not, List.length_map] at hp1)
      · refine rn rfl ?_
        refine goal_cond rfl (fun hn1 => ?_) (fun hn1 => ?_) <;> (try simp only [gt_iff_lt, ge_iff_le, bne_iff_ne, ne_eq, bne_eq_false_iff_eq, beq_iff_eq, beq_eq_false_iff_ne, Bool.not_eq_true', Bool.not_eq_false', decide_eq_true_eq, decide_eq_false_iff_not, List.length_map] at hn1)
        · have e : leanS fx k p x (out, nd) = (out.set k zL, nd) := by simp [leanS, clrQ, isDefQ, keepQ, placedQ, hsg, hgv, hpl, hk, hp1, (show fx = false by rw [hn1] at hnn; simpa using hnn.symm)]
          refine rn rfl ?_
          refine goal_cond rfl (fun _ => ?_) (fun h0 => by rw [hn1] at h0; cases h0)
          refine rt1 15 rfl ?_
          refine run_sound 1 _ _ _ _ rfl ?_
          refine goal_did rfl rfl (dA_step rfl) ?_
          refine goal_did rfl rfl (dA_step rfl) ?_
          refine goal_did rfl rfl (dA_step rfl) ?_
          refine goal_data 97 [] (y := .agg (eL zL)) rfl rfl rfl ?_
          refine goal_did rfl rfl (dA_storeEl (eL x) ((out.set k zL).map eL) true rfl rfl rfl rfl rfl (map_at (by simpa using hxo)) rfl rfl (by simp [eL, zL]) (by rw [map_set]; simp [patch, eL, zL]) (fun _ => noOwnR_map _ eL_noOwn _)) ?_
          refine rn rfl ?_
          refine round_keep k [10, 9, 8, 6, 4, 2] [0, 1, 2, 3] (by omega) rfl ⟨_, k, _, out.set k zL, nd, nn, fx, wrap64 (by omega) (by omega), rfl, by omega, rfl, (by simp [hol]), hnn, rfl, by rw [hlq, e], (fun j hj => by rw [List.getElem?_set, if_neg (by omega)]; exact hag j (by omega)), rfl⟩
        · have e : leanS fx k p x (out, nd) = (out, nd) := by simp [leanS, clrQ, isDefQ, keepQ, placedQ, hsg, hgv, hpl, hk, hp1, (show fx = true by rw [hn1] at hnn; simpa using hnn.symm)]
          refine rn rfl ?_
          refine goal_guard rfl rfl rfl (fun h0 => by simp [hk] at h0) (fun _ => ?_)
          refine rn rfl ?_
          refine goal_cond rfl (fun h0 => by simp [hk] at h0) (fun _ => ?_)
          refine rn rfl ?_
          refine round_keep k [10, 9, 8, 6, 4, 2] [0, 1, 2, 3] (by omega) rfl ⟨_, k, _, out, nd, nn, fx, wrap64 (by omega) (by omega), rfl, by omega, rfl, hol, hnn, rfl, by rw [hlq, e], (fun j hj => hag j (by omega)), rfl⟩
      · have e : leanS fx k p x (out, nd) = (out, nd) := by simp [leanS, clrQ, isDefQ, keepQ, placedQ, hsg, hgv, hpl, hk, hp1]
        refine rn rfl ?_
        refine goal_guard rfl rfl rfl (fun h0 => by simp [hk] at h0) (fun _ => ?_)
        refine rn rfl ?_
        refine goal_cond rfl (fun h0 => by simp [hk] at h0) (fun _ => ?_)
        refine rn rfl ?_
        refine round_keep k [10, 9, 8, 6, 4, 2] [0, 1, 2, 3] (by omega) rfl ⟨_, k, _, out, nd, nn, fx, wrap64 (by omega) (by omega), rfl, by omega, rfl, hol, hnn, rfl, by rw [hlq, e], (fun j hj => hag j (by omega)), rfl⟩
    · refine rn rfl ?_
      refine goal_guard rfl rfl rfl (fun _ => ?_) (fun h0 => by simp [hk] at h0)
      refine rn rfl ?_
      refine goal_cond rfl (fun hp1 => ?_) (fun hp1 => ?_) <;> (try simp only [gt_iff_lt, ge_iff_le, bne_iff_ne, ne_eq, bne_eq_false_iff_eq, beq_iff_eq, beq_eq_false_iff_ne, Bool.not_eq_true', Bool.not_eq_false', decide_eq_true_eq, decide_eq_false_iff_not, List.length_map] at hp1)
      · have e : leanS fx k p x (out, nd) = (out.set k zL, nd) := by simp [leanS, clrQ, isDefQ, keepQ, placedQ, hsg, hgv, hpl, hk, hp1]
        refine rn rfl ?_
        refine goal_cond rfl (fun _ => ?_) (fun h0 => by rw [hp1] at h0; cases h0)
        refine rt1 15 rfl ?_
        refine run_sound 1 _ _ _ _ rfl ?_
        refine goal_did rfl rfl (dA_step rfl) ?_
        refine goal_did rfl rfl (dA_step rfl) ?_
        refine goal_did rfl rfl (dA_step rfl) ?_
        refine goal_data 97 [] (y := .agg (eL zL)) rfl rfl rfl ?_
        refine goal_did rfl rfl (dA_storeEl (eL x) ((out.set k zL).map eL) true rfl rfl rfl rfl rfl (map_at (by simpa using hxo)) rfl rfl (by simp [eL, zL]) (by rw [map_set]; simp [patch, eL, zL]) (fun _ => noOwnR_map _ eL_noOwn _)) ?_
        refine rn rfl ?_
        refine round_keep k [10, 9, 8, 6, 4, 2] [0, 1, 2, 3] (by omega) rfl ⟨_, k, _, out.set k zL, nd, nn, fx, wrap64 (by omega) (by omega), rfl, by omega, rfl, (by simp [hol]), hnn, rfl, by rw [hlq, e], (fun j hj => by rw [List.getElem?_set, if_neg (by omega)]; exact hag j (by omega)), rfl⟩
      · have e : leanS fx k p x (out, nd) = (out, nd) := by simp [leanS, clrQ, isDefQ, keepQ, placedQ, hsg, hgv, hpl, hk, hp1]
        refine rn rfl ?_
        refine goal_guard rfl rfl rfl (fun h0 => by simp [hk] at h0) (fun _ => ?_)
        refine rn rfl ?_
        refine goal_guard rfl rfl rfl (fun h0 => by simp [hk] at h0) (fun _ => ?_)
        refine rn rfl ?_
        refine goal_cond rfl (fun h0 => by simp [hk] at h0) (fun _ => ?_)
        refine rn rfl ?_
        refine round_keep k [10, 9, 8, 6, 4, 2] [0, 1, 2, 3] (by omega) rfl ⟨_, k, _, out, nd, nn, fx, wrap64 (by omega) (by omega), rfl, by omega, rfl, hol, hnn, rfl, by rw [hlq, e], (fun j hj => hag j (by omega)), rfl⟩
  · obtain rfl : m = 0 := by omega
    refine rn rfl (round_ext ?_)
    have hfin : leanQ s b fx = out := hlq
    rw [hfin] at l1 l2 l3 l4 ⊢
    refine rn rfl ?_
    refine goal_step (step_callE [] rfl rfl rfl rfl rfl rfl (cons_eq rfl (cons_eq (asL out _ hol) rfl)) (iunbindD_ct s out l1)) ?_
    rintro σ2 ⟨r, o', ⟨rfl, rfl⟩, hσ⟩
    obtain rfl := Option.some.inj hσ
    clear hσ
    refine rn rfl ?_
    refine goal_step (step_call [] rfl rfl rfl rfl rfl rfl (checked_ct (unbQ s out) true (by omega) (by omega) l4)) ?_
    rintro σ2 ⟨r, o', ⟨rfl, rfl⟩, hσ⟩
    obtain rfl := Option.some.inj hσ
    clear hσ
    refine rn rfl ?_
    exact rn rfl (fin_is [4, 5] rfl ⟨rfl, rfl⟩)

theorem rF_noL (f : Flat) (b : Bool) : ∀ r o, (r = .tup [rF f, .one (.bool b)] ∧ o = oF f) → noFzT r = true ∧ noFzO o = true := by
  rintro r o ⟨rfl, rfl⟩; exact ⟨rfl, oF_noFz f⟩

theorem leanF_len (s : Sig) (f : Flat) : (LeanF s f).1.places.length ≤ 8000 ∧ (LeanF s f).1.named.length ≤ 8000 := by
  unfold LeanF checkF
  split
  · split
    · rename_i h
      simp only [Bool.true_and] at h
      have := okFlat_iff.1 h
      refine ⟨Nat.le_trans this.places (by omega), Nat.le_trans this.named (by omega)⟩
    · simp [zF]
  · simp [zF]

theorem ileanD_ctF (s : Sig) (f : Flat) (hls : LenS s) (hlf : LenF f) : ACalls pk 55 [.agg (eG s), .agg (eF f)] [] (fun r o => r = .tup [.agg (eF (LeanF s f).1), .one (.bool (LeanF s f).2)] ∧ o = []) :=
  (ilean_ctF s f hls hlf).told [] (by rintro r o ⟨rfl, rfl⟩; exact ⟨_, _, rfl, congrArg (fun t => T.tup [t, .one (.bool (LeanF s f).2)]) (asFl _), rfl⟩)

theorem fnExactLeanFlat_ct (s : Sig) (f : Flat) (hp : FitsS s) (hf : Fits f) : ACalls pk 10 [.agg (eG s), .agg (eF f)] [] (fun r o => r = .one (.bool true) ∧ o = []) := by
  refine acalls_of_body Try.func10 rfl (by kernel_rfl) rfl ?_
  refine rn rfl ?_
  refine goal_step (step_call [] rfl rfl rfl rfl rfl rfl (szSig_ct s 1048576 (by omega) (by omega) hp)) ?_
  rintro σ2 ⟨r, o', ⟨rfl, rfl⟩, hσ⟩
  obtain rfl := Option.some.inj hσ
  clear hσ
  refine rn rfl ?_
  refine goal_cond rfl (fun h => ?_) (fun h => ?_) <;> (try simp only [gt_iff_lt, ge_iff_le, bne_iff_ne, ne_eq, bne_eq_false_iff_eq, beq_iff_eq, beq_eq_false_iff_ne, Bool.not_eq_true', Bool.not_eq_false', decide_eq_true_eq, decide_eq_false_iff_not, List.length_map] at h)
  · exact rn rfl (fin_is [] rfl ⟨rfl, rfl⟩)
  obtain ⟨p0, p3⟩ := szParamS_ok (by omega) h
  refine rn rfl ?_
  refine goal_step (step_call [] rfl rfl rfl rfl rfl rfl (szFlat_ct f (szParamS s 1048576) (by omega) (by omega) hf)) ?_
  rintro σ2 ⟨r, o', ⟨rfl, rfl⟩, hσ⟩
  obtain rfl := Option.some.inj hσ
  clear hσ
  refine rn rfl ?_
  refine goal_cond rfl (fun h2 => ?_) (fun h2 => ?_) <;> (try simp only [gt_iff_lt, ge_iff_le, bne_iff_ne, ne_eq, bne_eq_false_iff_eq, beq_iff_eq, beq_eq_false_iff_ne, Bool.not_eq_true', Bool.not_eq_false', decide_eq_true_eq, decide_eq_false_iff_not, List.length_map] at h2)
  · exact rn rfl (fin_is [] rfl ⟨rfl, rfl⟩)
  obtain ⟨f1, f2, f3⟩ := fits_of_szF (by omega) (by omega) h2
  have lp : LenS s := ⟨by omega, hp.names⟩
  have lf : LenF f := ⟨by omega, by omega, hf.names⟩
  obtain ⟨g1, g2⟩ := leanF_len s f
  have hi := ilean_ctF s f lp lf
  have hd := ileanD_ctF s f lp lf
  have hs := slean_ctF s f lp lf
  generalize (LeanF s f).1 = R at *
  generalize (LeanF s f).2 = b at *
  refine rt1 8 rfl ?_
  refine goal_cutR (fun σ' => σ' = ⟨[(7, .one (.bool b)), (6, .one (.op 2 0 0)), (3, .one (.op 1 0 0)), (2, .one (.op 0 0 0))],
    [some ⟨1, [eG s], false, false, true⟩, some ⟨2, [eF f], false, false, true⟩, some ⟨2, [eF R], false, false, true⟩], []⟩) ?_ ?_
  · refine goal_draw' [0, 1] 11 rfl ?_
    refine drn [0, 2] (by kernel_rfl) (by kernel_rfl) rfl rfl ?_
    refine AH_two (i := 1) (j := 8) (by kernel_rfl) (step_call [] rfl rfl rfl rfl rfl rfl (toSigD_ct s (by omega))) (by simp) (step_did rfl rfl (dA_step rfl)) (mdOk rfl) ?_ ?_
    · rintro σ2 ⟨r, o', ⟨rfl, rfl⟩, hσ⟩
      obtain rfl := Option.some.inj hσ
      clear hσ
      refine AH_two (i := 3) (j := 8) (by kernel_rfl) (step_call [] rfl rfl rfl rfl rfl rfl (toFlatD_ct f (by omega) (by omega))) (by simp) (step_did rfl rfl (dA_step rfl)) (mdOk rfl) ?_ ?_
      · rintro σ2 ⟨r, o', ⟨rfl, rfl⟩, hσ⟩
        obtain rfl := Option.some.inj hσ
        clear hσ
        refine AH_two (i := 4) (j := 8) (by kernel_rfl) (step_call [] rfl rfl rfl rfl rfl rfl (hs)) (by simp) (step_did rfl rfl (dA_step rfl)) (mdOk rfl) ?_ ?_
        · rintro σ2 ⟨r, o', ⟨rfl, rfl⟩, hσ⟩
          obtain rfl := Option.some.inj hσ
          clear hσ
          refine drn [5, 6, 7] (by kernel_rfl) (by kernel_rfl) rfl rfl ?_
          refine AH_oneDid 8 rfl (by kernel_rfl) rfl (dA_step rfl) (mdOk rfl) ?_
          refine AH_oneDid 9 rfl (by kernel_rfl) rfl (dA_step rfl) (mdOk rfl) ?_
          refine drn [10] (by kernel_rfl) (by kernel_rfl) rfl rfl ?_
          refine AH_end (by kernel_rfl) ?_
          refine rn rfl ?_
          exact cut_nrm [7, 6, 3, 2] [0, 1, 2] rfl rfl
        · rintro _ rfl
          refine AH_one (i := 4) (by kernel_rfl) (step_call [] rfl rfl rfl rfl rfl rfl (hs)) (by simp) ?_
          rintro σ2 ⟨r, o', ⟨rfl, rfl⟩, hσ⟩
          obtain rfl := Option.some.inj hσ
          clear hσ
          refine drn [5, 6, 7] (by kernel_rfl) (by kernel_rfl) rfl rfl ?_
          refine AH_oneDid 9 rfl (by kernel_rfl) rfl (dA_step rfl) (mdOk rfl) ?_
          refine drn [10] (by kernel_rfl) (by kernel_rfl) rfl rfl ?_
          refine AH_end (by kernel_rfl) ?_
          refine rn rfl ?_
          exact cut_nrm [7, 6, 3, 2] [0, 1, 2] rfl rfl
      · rintro _ rfl
        refine AH_one (i := 3) (by kernel_rfl) (step_call [] rfl rfl rfl rfl rfl rfl (toFlatD_ct f (by omega) (by omega))) (by simp) ?_
        rintro σ2 ⟨r, o', ⟨rfl, rfl⟩, hσ⟩
        obtain rfl := Option.some.inj hσ
        clear hσ
        refine AH_one (i := 4) (by kernel_rfl) (step_call [] rfl rfl rfl rfl rfl rfl (hs)) (by simp) ?_
        rintro σ2 ⟨r, o', ⟨rfl, rfl⟩, hσ⟩
        obtain rfl := Option.some.inj hσ
        clear hσ
        refine drn [5, 6, 7] (by kernel_rfl) (by kernel_rfl) rfl rfl ?_
        refine AH_oneDid 9 rfl (by kernel_rfl) rfl (dA_step rfl) (mdOk rfl) ?_
        refine drn [10] (by kernel_rfl) (by kernel_rfl) rfl rfl ?_
        refine AH_end (by kernel_rfl) ?_
        refine rn rfl ?_
        exact cut_nrm [7, 6, 3, 2] [0, 1, 2] rfl rfl
    · rintro _ rfl
      refine AH_one (i := 1) (by kernel_rfl) (step_call [] rfl rfl rfl rfl rfl rfl (toSigD_ct s (by omega))) (by simp) ?_
      rintro σ2 ⟨r, o', ⟨rfl, rfl⟩, hσ⟩
      obtain rfl := Option.some.inj hσ
      clear hσ
      refine AH_one (i := 3) (by kernel_rfl) (step_call [] rfl rfl rfl rfl rfl rfl (toFlatD_ct f (by omega) (by omega))) (by simp) ?_
      rintro σ2 ⟨r, o', ⟨rfl, rfl⟩, hσ⟩
      obtain rfl := Option.some.inj hσ
      clear hσ
      refine AH_one (i := 4) (by kernel_rfl) (step_call [] rfl rfl rfl rfl rfl rfl (hs)) (by simp) ?_
      rintro σ2 ⟨r, o', ⟨rfl, rfl⟩, hσ⟩
      obtain rfl := Option.some.inj hσ
      clear hσ
      refine drn [5, 6, 7] (by kernel_rfl) (by kernel_rfl) rfl rfl ?_
      refine AH_oneDid 9 rfl (by kernel_rfl) rfl (dA_step rfl) (mdOk rfl) ?_
      refine drn [10] (by kernel_rfl) (by kernel_rfl) rfl rfl ?_
      refine AH_end (by kernel_rfl) ?_
      refine rn rfl ?_
      exact cut_nrm [7, 6, 3, 2] [0, 1, 2] rfl rfl
  rintro _ rfl
  refine rn rfl ?_
  refine goal_step (step_call [] rfl rfl rfl rfl rfl rfl (toSig_ct s (by omega))) ?_
  rintro σ2 ⟨r, o', ⟨rfl, rfl⟩, hσ⟩
  obtain rfl := Option.some.inj hσ
  clear hσ
  refine rn rfl ?_
  refine rn rfl ?_
  refine goal_step (step_call [] rfl rfl rfl rfl rfl rfl (toFlat_ct f (by omega) (by omega))) ?_
  rintro σ2 ⟨r, o', ⟨rfl, rfl⟩, hσ⟩
  obtain rfl := Option.some.inj hσ
  clear hσ
  refine rn rfl ?_
  refine rn rfl ?_
  refine goal_step (step_lendE [] rfl rfl rfl rfl rfl rfl rfl (cons_eq (asG s) (cons_eq (asFl f) rfl)) (hi) (rF_noL R b)) ?_
  rintro σ2 ⟨r, o', ⟨rfl, rfl⟩, hσ⟩
  obtain rfl := Option.some.inj hσ
  clear hσ
  refine rn rfl ?_
  have e1 : (!(decide (R = R))) = false := by simp
  refine goal_step (step_lendE [] rfl rfl rfl rfl rfl rfl rfl (cons_eq (asFl R) rfl) (eqFlat_ct R R (by omega) (by omega)) (by rintro r o ⟨rfl, rfl⟩; exact ⟨rfl, rfl⟩)) ?_
  rintro σ2 ⟨r, o', ⟨rfl, rfl⟩, hσ⟩
  obtain rfl := Option.some.inj hσ
  clear hσ
  refine rn rfl ?_
  simp only [e1]
  refine goal_guard rfl rfl rfl (fun h1 => by cases h1) (fun _ => ?_)
  refine rn rfl ?_
  refine goal_cond rfl (fun h => by simp at h) (fun _ => ?_)
  refine rn rfl ?_
  refine goal_draw' [0, 4] 5 rfl ?_
  refine drn [0, 1] (by kernel_rfl) (by kernel_rfl) rfl rfl ?_
  refine AH_one (i := 2) (by kernel_rfl) (step_call [] rfl rfl rfl rfl rfl rfl (toSigD_ct s (by omega))) (by simp) ?_
  rintro σ2 ⟨r, o', ⟨rfl, rfl⟩, hσ⟩
  obtain rfl := Option.some.inj hσ
  clear hσ
  refine AH_one (i := 3) (by kernel_rfl) (step_lendE [] rfl rfl rfl rfl rfl rfl rfl (cons_eq (asG s) rfl) (eqSig_ct s (by omega)) (by rintro r o ⟨rfl, rfl⟩; exact ⟨rfl, rfl⟩)) (by simp) ?_
  rintro σ2 ⟨r, o', ⟨rfl, rfl⟩, hσ⟩
  obtain rfl := Option.some.inj hσ
  clear hσ
  refine drn [4] (by kernel_rfl) (by kernel_rfl) rfl rfl ?_
  refine AH_end (by kernel_rfl) ?_
  refine rn rfl ?_
  refine goal_cond rfl (fun h => by simp at h) (fun _ => ?_)
  refine rn rfl ?_
  refine goal_draw' [1, 7] 5 rfl ?_
  refine drn [0, 1] (by kernel_rfl) (by kernel_rfl) rfl rfl ?_
  refine AH_one (i := 2) (by kernel_rfl) (step_call [] rfl rfl rfl rfl rfl rfl (toFlatD_ct f (by omega) (by omega))) (by simp) ?_
  rintro σ2 ⟨r, o', ⟨rfl, rfl⟩, hσ⟩
  obtain rfl := Option.some.inj hσ
  clear hσ
  refine AH_one (i := 3) (by kernel_rfl) (step_lendE [] rfl rfl rfl rfl rfl rfl rfl (cons_eq (asFl f) rfl) (eqFlat_ct f f (by omega) (by omega)) (by rintro r o ⟨rfl, rfl⟩; exact ⟨rfl, rfl⟩)) (by simp) ?_
  rintro σ2 ⟨r, o', ⟨rfl, rfl⟩, hσ⟩
  obtain rfl := Option.some.inj hσ
  clear hσ
  refine drn [4] (by kernel_rfl) (by kernel_rfl) rfl rfl ?_
  refine AH_end (by kernel_rfl) ?_
  refine rn rfl ?_
  refine goal_cond rfl (fun h => by simp at h) (fun _ => ?_)
  refine rn rfl ?_
  refine goal_step (step_call [3] rfl rfl rfl rfl rfl rfl (markSig_ct s 1 _ (by omega) (by omega) (by omega))) ?_
  rintro σ2 ⟨r, o', ⟨rfl, rfl⟩, hσ⟩
  obtain rfl := Option.some.inj hσ
  clear hσ
  refine rn rfl ?_
  refine rn rfl ?_
  refine goal_step (step_call [5, 6] rfl rfl rfl rfl rfl rfl (markFlatK_ct f _ _ _ (by omega) (by omega) (by omega) (by omega))) ?_
  rintro σ2 ⟨r, o', ⟨rfl, rfl⟩, hσ⟩
  obtain rfl := Option.some.inj hσ
  clear hσ
  refine rn rfl ?_
  refine rn rfl ?_
  refine goal_guard rfl rfl rfl (fun h => ?_) (fun h => ?_) <;> (try simp only [gt_iff_lt, ge_iff_le, bne_iff_ne, ne_eq, bne_eq_false_iff_eq, beq_iff_eq, beq_eq_false_iff_ne, Bool.not_eq_true', Bool.not_eq_false', decide_eq_true_eq, decide_eq_false_iff_not, List.length_map] at h)
  · omega
  refine rn rfl ?_
  refine goal_step (step_lendE [] rfl rfl rfl rfl rfl rfl rfl (cons_eq (asFl R) rfl) (eqFlat_ct R R (by omega) (by omega)) (by rintro r o ⟨rfl, rfl⟩; exact ⟨rfl, rfl⟩)) ?_
  rintro σ2 ⟨r, o', ⟨rfl, rfl⟩, hσ⟩
  obtain rfl := Option.some.inj hσ
  clear hσ
  refine rn rfl ?_
  simp only [e1]
  refine goal_guard rfl rfl rfl (fun h1 => by cases h1) (fun _ => ?_)
  refine rn rfl ?_
  refine goal_cond rfl (fun h => by simp at h) (fun _ => ?_)
  refine rn rfl ?_
  refine goal_step (step_call [8, 9] rfl rfl rfl rfl rfl rfl (markFlat_ct R _ _ (by omega) (by omega))) ?_
  rintro σ2 ⟨r, o', ⟨rfl, rfl⟩, hσ⟩
  obtain rfl := Option.some.inj hσ
  clear hσ
  refine rn rfl ?_
  refine rn rfl ?_
  have hsq : [T.agg [C.fs (List.take R.places.length (List.drop 0 ((seqF R.places.length R.named.length).places.map eI))), C.fs (List.take R.named.length (List.drop 0 ((seqF R.places.length R.named.length).named.map eP)))], T.one (.int .i64 1)] = [T.agg (eF (seqF R.places.length R.named.length)), T.one (.int .i64 1)] := by
    simp [eF, seqF, List.take_of_length_le, seqI_length, seqP_length]
  refine goal_step (step_lendE [] rfl rfl rfl rfl rfl rfl rfl (hsq) (heldFlat_ct R.places.length R.named.length (by omega) (by omega)) (by rintro r o ⟨rfl, rfl⟩; exact ⟨rfl, rfl⟩)) ?_
  rintro σ2 ⟨r, o', ⟨rfl, rfl⟩, hσ⟩
  obtain rfl := Option.some.inj hσ
  clear hσ
  refine rn rfl ?_
  refine goal_cond rfl (fun h => ?_) (fun h => ?_) <;> simp only [decide_eq_true_eq, decide_eq_false_iff_not] at h
  · omega
  refine rn rfl ?_
  refine goal_cond rfl (fun h => by simp at h) (fun _ => ?_)
  refine rt1 31 rfl ?_
  refine goal_cutR (fun σ' => σ' = ⟨[(16, .one (.bool b)), (15, .one (.op 4 0 0)), (13, .one (.int .i64 (1 + R.places.length + 2 * R.named.length))), (10, .one (.op 1 0 0)), (7, .one (.bool b)), (6, .one (.op 0 0 0))],
    [some ⟨2, [eF R], false, false, true⟩, some ⟨2, [[.os 2 0 R.places.length R.places.length, .os 3 0 R.named.length R.named.length]], false, false, true⟩,
     ownI (seqF R.places.length R.named.length).places, ownP (seqF R.places.length R.named.length).named, some ⟨2, [eF R], false, false, true⟩], []⟩) ?_ ?_
  · refine goal_draw' [0, 1] 11 rfl ?_
    refine drn [0, 2] (by kernel_rfl) (by kernel_rfl) rfl rfl ?_
    refine AH_two (i := 1) (j := 8) (by kernel_rfl) (step_call [] rfl rfl rfl rfl rfl rfl (toSigD_ct s (by omega))) (by simp) (step_did rfl rfl (dA_step rfl)) (mdOk rfl) ?_ ?_
    · rintro σ2 ⟨r, o', ⟨rfl, rfl⟩, hσ⟩
      obtain rfl := Option.some.inj hσ
      clear hσ
      refine AH_two (i := 3) (j := 8) (by kernel_rfl) (step_call [] rfl rfl rfl rfl rfl rfl (toFlatD_ct f (by omega) (by omega))) (by simp) (step_did rfl rfl (dA_step rfl)) (mdOk rfl) ?_ ?_
      · rintro σ2 ⟨r, o', ⟨rfl, rfl⟩, hσ⟩
        obtain rfl := Option.some.inj hσ
        clear hσ
        refine AH_two (i := 4) (j := 8) (by kernel_rfl) (step_call [] rfl rfl rfl rfl rfl rfl (hd)) (by simp) (step_did rfl rfl (dA_step rfl)) (mdOk rfl) ?_ ?_
        · rintro σ2 ⟨r, o', ⟨rfl, rfl⟩, hσ⟩
          obtain rfl := Option.some.inj hσ
          clear hσ
          refine drn [5, 6, 7] (by kernel_rfl) (by kernel_rfl) rfl rfl ?_
          refine AH_oneDid 8 rfl (by kernel_rfl) rfl (dA_step rfl) (mdOk rfl) ?_
          refine AH_oneDid 9 rfl (by kernel_rfl) rfl (dA_step rfl) (mdOk rfl) ?_
          refine drn [10] (by kernel_rfl) (by kernel_rfl) rfl rfl ?_
          refine AH_end (by kernel_rfl) ?_
          refine rn rfl ?_
          exact cut_nrm [16, 15, 13, 10, 7, 6] [2, 10, 8, 9, 11] rfl rfl
        · rintro _ rfl
          refine AH_one (i := 4) (by kernel_rfl) (step_call [] rfl rfl rfl rfl rfl rfl (hd)) (by simp) ?_
          rintro σ2 ⟨r, o', ⟨rfl, rfl⟩, hσ⟩
          obtain rfl := Option.some.inj hσ
          clear hσ
          refine drn [5, 6, 7] (by kernel_rfl) (by kernel_rfl) rfl rfl ?_
          refine AH_oneDid 9 rfl (by kernel_rfl) rfl (dA_step rfl) (mdOk rfl) ?_
          refine drn [10] (by kernel_rfl) (by kernel_rfl) rfl rfl ?_
          refine AH_end (by kernel_rfl) ?_
          refine rn rfl ?_
          exact cut_nrm [16, 15, 13, 10, 7, 6] [2, 10, 8, 9, 11] rfl rfl
      · rintro _ rfl
        refine AH_one (i := 3) (by kernel_rfl) (step_call [] rfl rfl rfl rfl rfl rfl (toFlatD_ct f (by omega) (by omega))) (by simp) ?_
        rintro σ2 ⟨r, o', ⟨rfl, rfl⟩, hσ⟩
        obtain rfl := Option.some.inj hσ
        clear hσ
        refine AH_one (i := 4) (by kernel_rfl) (step_call [] rfl rfl rfl rfl rfl rfl (hd)) (by simp) ?_
        rintro σ2 ⟨r, o', ⟨rfl, rfl⟩, hσ⟩
        obtain rfl := Option.some.inj hσ
        clear hσ
        refine drn [5, 6, 7] (by kernel_rfl) (by kernel_rfl) rfl rfl ?_
        refine AH_oneDid 9 rfl (by kernel_rfl) rfl (dA_step rfl) (mdOk rfl) ?_
        refine drn [10] (by kernel_rfl) (by kernel_rfl) rfl rfl ?_
        refine AH_end (by kernel_rfl) ?_
        refine rn rfl ?_
        exact cut_nrm [16, 15, 13, 10, 7, 6] [2, 10, 8, 9, 11] rfl rfl
    · rintro _ rfl
      refine AH_one (i := 1) (by kernel_rfl) (step_call [] rfl rfl rfl rfl rfl rfl (toSigD_ct s (by omega))) (by simp) ?_
      rintro σ2 ⟨r, o', ⟨rfl, rfl⟩, hσ⟩
      obtain rfl := Option.some.inj hσ
      clear hσ
      refine AH_one (i := 3) (by kernel_rfl) (step_call [] rfl rfl rfl rfl rfl rfl (toFlatD_ct f (by omega) (by omega))) (by simp) ?_
      rintro σ2 ⟨r, o', ⟨rfl, rfl⟩, hσ⟩
      obtain rfl := Option.some.inj hσ
      clear hσ
      refine AH_one (i := 4) (by kernel_rfl) (step_call [] rfl rfl rfl rfl rfl rfl (hd)) (by simp) ?_
      rintro σ2 ⟨r, o', ⟨rfl, rfl⟩, hσ⟩
      obtain rfl := Option.some.inj hσ
      clear hσ
      refine drn [5, 6, 7] (by kernel_rfl) (by kernel_rfl) rfl rfl ?_
      refine AH_oneDid 9 rfl (by kernel_rfl) rfl (dA_step rfl) (mdOk rfl) ?_
      refine drn [10] (by kernel_rfl) (by kernel_rfl) rfl rfl ?_
      refine AH_end (by kernel_rfl) ?_
      refine rn rfl ?_
      exact cut_nrm [16, 15, 13, 10, 7, 6] [2, 10, 8, 9, 11] rfl rfl
  rintro _ rfl
  refine rn rfl ?_
  refine goal_step (step_call [] rfl rfl rfl rfl rfl rfl (eqFlat_ct R R (by omega) (by omega))) ?_
  rintro σ2 ⟨r, o', ⟨rfl, rfl⟩, hσ⟩
  obtain rfl := Option.some.inj hσ
  clear hσ
  refine rn rfl ?_
  simp only [e1]
  refine goal_guard rfl rfl rfl (fun h1 => by cases h1) (fun _ => ?_)
  refine rn rfl ?_
  refine goal_cond rfl (fun h => by simp at h) (fun _ => ?_)
  refine rn rfl ?_
  refine goal_step (step_lendE [] rfl rfl rfl rfl rfl rfl rfl (hsq) (heldFlat_ct R.places.length R.named.length (by omega) (by omega)) (by rintro r o ⟨rfl, rfl⟩; exact ⟨rfl, rfl⟩)) ?_
  rintro σ2 ⟨r, o', ⟨rfl, rfl⟩, hσ⟩
  obtain rfl := Option.some.inj hσ
  clear hσ
  refine rn rfl ?_
  refine goal_cond rfl (fun h => ?_) (fun h => ?_) <;> simp only [decide_eq_true_eq, decide_eq_false_iff_not] at h
  · omega
  refine rn rfl ?_
  refine goal_cond rfl (fun h => by simp at h) (fun _ => ?_)
  exact rn rfl (fin_is [] rfl ⟨rfl, rfl⟩)

end Go.Proofs.Ytodggffbepfemaa
