/- Part 5 of the proof: an abstract machine over the model; contracts of the functions that the law reaches. -/
import Derived.Test.YthbnieiohbpacaaGreatKTBS4
set_option linter.unusedVariables false
set_option linter.unusedSimpArgs false
namespace Go.Proofs.YthbnieiohbpacaaGreat
open Go
set_option maxRecDepth 100000
set_option maxHeartbeats 1000000

theorem okS_lenS {s : Sig} (h : OkS s) : LenS s := ⟨by have := h.len; omega, fun q hq => by have := h.nameLen hq; omega⟩

theorem VBi_small {s : Sig} {b : Bnds} (h : VBi s b = true) : LenS s ∧ SmallB b := by
  have G := VBi_given h
  exact ⟨okS_lenS G.sig, G.small G.flat.len.names⟩

theorem small_of8 {b : Bnds} (h1 : b.length ≤ 8) (h2 : ∀ x ∈ b, x.list.length ≤ 12 ∧ x.pairs.length ≤ 12) (hn : ∀ x ∈ b, ∀ q ∈ x.pairs, q.name.length ≤ 9223372036854775807) : SmallB b := by
  refine ⟨by omega, fun x hx => ⟨by have := (h2 x hx).1; omega, by have := (h2 x hx).2; omega⟩, hn, ?_⟩
  have := cntB_bound (M := 24) (b := b) (fun x hx => by have := h2 x hx; unfold cntL; omega)
  omega

theorem svalidBX_ct (s : Sig) (b : Bnds) (hs : BigS s) (hb : BigB b) : ACalls pk 13 [.agg (eG s), .agg (eBi b)] [] (fun r o => r = .one (.bool (VBs s b)) ∧ o = []) := by
  by_cases hall : OkS s ∧ b.length = s.length ∧ ∀ j, j < b.length → sslotAt s b j = true
  · obtain ⟨h1, h2, h3⟩ := hall
    have h4 := sslots_small h1 h2 h3
    have h5 := h1.len
    exact svalidB_ct s b (okS_lenS h1) ⟨by omega, fun x hx => ⟨by have := (h4 x hx).1; omega, by have := (h4 x hx).2; omega⟩, hb.names⟩
  have hbl := hb.len
  refine acalls_of_body Tryz.func13 rfl (by kernel_rfl) rfl ?_
  refine rn rfl ?_
  refine goal_step (step_call [] rfl rfl rfl rfl rfl rfl (svalidSig_ct s hs.len hs.names)) ?_
  rintro σ2 ⟨r, o', ⟨rfl, rfl⟩, hσ⟩
  obtain rfl := Option.some.inj hσ
  clear hσ
  refine rn rfl ?_
  refine goal_guard rfl rfl rfl (fun h1 => ?_) (fun h1 => ?_) <;> (try simp only [gt_iff_lt, ge_iff_le, bne_iff_ne, ne_eq, bne_eq_false_iff_eq, beq_iff_eq, beq_eq_false_iff_ne, Bool.not_eq_true', Bool.not_eq_false', decide_eq_true_eq, decide_eq_false_iff_not, List.length_map] at h1)
  · refine rn rfl (fin_is [] rfl ⟨?_, rfl⟩)
    simp [VBs, h1]
  have hok := okSig_iff.1 h1
  have hfew := hok.len
  refine rn rfl ?_
  refine goal_cond rfl (fun h2 => ?_) (fun h2 => ?_) <;> simp only [List.length_map, bne_iff_ne, ne_eq, bne_eq_false_iff_eq] at h2
  · refine rn rfl (fin_is [] rfl ⟨?_, rfl⟩)
    have : b.length ≠ s.length := by omega
    simp [VBs, this]
  have hlen : b.length = s.length := by omega
  refine rn rfl ?_
  refine goal_loop_keep (fun m σ => ∃ (q : Int) (i : Nat), q = i ∧ i ≤ b.length ∧ m = b.length - i ∧ (∀ j, j < i → sslotAt s b j = true) ∧
      σ = ⟨[(5, .one (.int .i64 q)), (3, .one (.op 1 0 0)), (2, .one (.op 0 0 0))],
        [some ⟨1, [eG s], false, false, true⟩, some ⟨1, [eBi b], false, false, true⟩], []⟩) b.length [5, 3, 2] [0, 1] rfl
    ⟨_, 0, rfl, by omega, by omega, fun j hj => by omega, rfl⟩ ?_
  rintro m σ ⟨q, i, rfl, hi, rfl, hsl, rfl⟩
  refine rn rfl ?_
  refine goal_cond rfl (fun h3 => ?_) (fun h3 => ?_) <;> (try simp only [gt_iff_lt, ge_iff_le, bne_iff_ne, ne_eq, bne_eq_false_iff_eq, beq_iff_eq, beq_eq_false_iff_ne, Bool.not_eq_true', Bool.not_eq_false', decide_eq_true_eq, decide_eq_false_iff_not, List.length_map] at h3)
  · obtain ⟨x, hx⟩ := at_some (xs := b) (i := i) (by omega)
    obtain ⟨p, hp⟩ := at_some (xs := s) (i := i) (by omega)
    have l1 := hb.list x (List.mem_of_getElem? hx)
    have l2 := hb.pairs x (List.mem_of_getElem? hx)
    have ln := hb.names x (List.mem_of_getElem? hx)
    refine rn rfl ?_
    refine goal_draw' [0, 1] 12 rfl ?_
    refine drn [0, 1, 2, 5, 6, 7] (by kernel_rfl) (by kernel_rfl) rfl rfl ?_
    refine AH_did 3 rfl (by kernel_rfl) (by kernel_rfl) (by kernel_rfl) rfl rfl (dA_index (eQ p) rfl rfl rfl rfl rfl rfl rfl (by omega) (by (try simp); omega) (map_at (by simpa using hp)) rfl) ?_
    refine drn [4] (by kernel_rfl) (by kernel_rfl) rfl rfl ?_
    refine AH_did 8 rfl (by kernel_rfl) (by kernel_rfl) (by kernel_rfl) rfl rfl (dA_index (eL x) rfl rfl rfl rfl rfl rfl rfl (by omega) (by (try simp); omega) (map_at (by simpa using hx)) rfl) ?_
    refine drn [9] (by kernel_rfl) (by kernel_rfl) rfl rfl ?_
    refine AH_one (i := 10) (by kernel_rfl) (step_call [] rfl rfl rfl rfl rfl rfl (svalidSlotX_ct p x (by omega) (by omega) ln)) (by simp) ?_
    rintro σ2 ⟨r, o', ⟨rfl, rfl⟩, hσ⟩
    obtain rfl := Option.some.inj hσ
    clear hσ
    refine drn [11] (by kernel_rfl) (by kernel_rfl) rfl rfl ?_
    refine AH_end (by kernel_rfl) ?_
    refine rn rfl ?_
    refine goal_cond rfl (fun h4 => ?_) (fun h4 => ?_) <;> simp only [Bool.not_eq_true', Bool.not_eq_false'] at h4
    · refine rn rfl (round_ret (fin_is [] rfl ⟨?_, rfl⟩))
      have h5 : sslotAt s b i = false := by unfold sslotAt; rw [hp, hx]; exact h4
      have : (List.range b.length).all (sslotAt s b) = false := by
        rw [List.all_eq_false]
        exact ⟨i, List.mem_range.2 (by omega), by simp [h5]⟩
      simp [VBs, this]
    · have h5 : sslotAt s b i = true := by unfold sslotAt; rw [hp, hx]; exact h4
      refine rn rfl ?_
      refine round_keep (b.length - (i + 1)) [5, 3, 2] [0, 1] (by omega) rfl ⟨_, i + 1, wrap64 (by omega) (by omega), by omega, rfl, fun j hj => ?_, rfl⟩
      by_cases hji : j = i
      · subst hji; exact h5
      · exact hsl j (by omega)
  · exact absurd ⟨hok, hlen, fun j hj => hsl j (by omega)⟩ hall

theorem sUnbindX_ct (s : Sig) (b : Bnds) (hs : BigS s) (hb : BigB b) : ACalls pk 6 [.agg (eG s), .agg (eBi b)] [] (fun r o => r = .agg (eF (if VBi s b then unbQ s b else zF)) ∧ o = []) := by
  cases hV : VBi s b with
  | true =>
    obtain ⟨ls, sb⟩ := VBi_small hV
    have := sUnbind_ct s b ls ⟨sb.len, sb.size, sb.names⟩
    rw [hV] at this; exact this
  | false =>
    have h0 := svalidBX_ct s b hs hb
    rw [VB_eq, hV] at h0
    refine acalls_of_body Tryz.func6 rfl (by kernel_rfl) rfl ?_
    refine rn rfl ?_
    refine goal_step (step_call [] rfl rfl rfl rfl rfl rfl (h0)) ?_
    rintro σ2 ⟨r, o', ⟨rfl, rfl⟩, hσ⟩
    obtain rfl := Option.some.inj hσ
    clear hσ
    refine rn rfl ?_
    refine goal_cond rfl (fun _ => ?_) (fun h => by cases h)
    refine rn rfl (fin_is [] rfl ⟨?_, rfl⟩)
    rfl

theorem unb_growP : ∀ (zs : List (Param × Slot)) (st : Flat × Bool), ∃ B, (zs.foldl stU st).1.places = st.1.places ++ B
  | [], st => ⟨[], by simp⟩
  | z :: zs, st => by
    obtain ⟨B, hB⟩ := unb_growP zs (stU st z)
    have : ∃ A, (stU st z).1.places = st.1.places ++ A := by
      unfold stU
      split
      · exact ⟨_, rfl⟩
      · split
        · exact ⟨[], by simp⟩
        · split
          · exact ⟨[], by simp⟩
          · split
            · exact ⟨_, rfl⟩
            · exact ⟨[], by simp⟩
    obtain ⟨A, hA⟩ := this
    exact ⟨A ++ B, by rw [List.foldl_cons, hB, hA, List.append_assoc]⟩

theorem unb_atP {s : Sig} {b : Bnds} {i : Nat} {p : Param} {x : Slot} (hp : s[i]? = some p) (hx : b[i]? = some x) (hk : p.kind = 2) : ∃ A B, (unbQ s b).places = A ++ x.list ++ B := by
  have hz : (s.zip b)[i]? = some (p, x) := List.getElem?_zip_eq_some.2 ⟨hp, hx⟩
  have hsplit : s.zip b = (s.zip b).take i ++ (p, x) :: (s.zip b).drop (i + 1) := by
    conv => lhs; rw [← List.take_append_drop i (s.zip b), drop_at hz]
  unfold unbQ
  rw [hsplit, List.foldl_append, List.foldl_cons]
  obtain ⟨B, hB⟩ := unb_growP ((s.zip b).drop (i + 1)) (stU (((s.zip b).take i).foldl stU (zF, true)) (p, x))
  refine ⟨(((s.zip b).take i).foldl stU (zF, true)).1.places, B, ?_⟩
  rw [hB]
  simp [stU, hk]

theorem slot_lists {s : Sig} {b : Bnds} (hs : OkS s) (hlen : b.length = s.length) (hall : ∀ j, j < b.length → slotAt s b j = true) (hn : (unbQ s b).places.length ≤ 8) : ∀ x ∈ b, x.list.length ≤ 12 := by
  intro x hx
  obtain ⟨i, hi⟩ := List.getElem?_of_mem hx
  obtain ⟨p, hp⟩ := at_some (xs := s) (i := i) (by rw [← hlen]; exact lt_of_some hi)
  by_cases hk : p.kind = 2
  · obtain ⟨A, B, hAB⟩ := unb_atP hp hi hk
    rw [hAB] at hn
    simp only [List.length_append] at hn
    omega
  · have := hall i (lt_of_some hi)
    unfold slotAt slotOk at this
    rw [hp, hi] at this
    simp only at this
    rw [if_neg hk] at this
    split at this
    · simp only [Bool.and_eq_true, decide_eq_true_eq] at this; rw [this.1.2]; simp
    · split at this
      · simp only [Bool.and_eq_true, decide_eq_true_eq] at this; omega
      · simp only [Bool.and_eq_true, decide_eq_true_eq] at this; rw [this.1.2]; simp

theorem slots_okBX {s : Sig} {b : Bnds} (hs : OkS s) (hb : BigB b) (hlen : b.length = s.length) (hall : ∀ j, j < b.length → slotAt s b j = true) : OkBX s b := by
  refine ⟨hs, hlen, hs.len, fun p hp => hs.kindRange hp, fun i p x hp hx hsg hg => ?_, fun x hx => ⟨hb.list x hx, hb.pairs x hx⟩⟩
  have := hall i (lt_of_some hx)
  unfold slotAt slotOk at this
  rw [hp, hx] at this
  rw [single_kind] at hsg
  simp only at this
  rw [if_neg (by omega), if_neg (by omega), if_pos hg] at this
  simp only [Bool.and_eq_true, decide_eq_true_eq] at this
  exact List.length_eq_one_iff.1 this.1

theorem iunbindXD_ct (s : Sig) (b : Bnds) (h : OkBX s b) : ACalls pk 10 [.agg (eG s), .agg (eBi b)] [] (fun r o => r = .agg (eF (unbQ s b)) ∧ o = []) :=
  (iunbindX_ct s b h).told [] (by rintro r o ⟨rfl, rfl⟩; exact ⟨_, _, rfl, asFl _, rfl⟩)

theorem unb_UL {s : Sig} {b : Bnds} (h : OkBX s b) : ∀ i, i ≤ s.length → UL s i (((s.zip b).take i).foldl stU (zF, true)).1
  | 0, _ => by simpa using UL.zero s
  | i + 1, hi => by
    obtain ⟨p, hp⟩ := at_some (xs := s) (i := i) (by omega)
    obtain ⟨x, hx⟩ := at_some (xs := b) (i := i) (by rw [h.len]; omega)
    have hz : (s.zip b)[i]? = some (p, x) := List.getElem?_zip_eq_some.2 ⟨hp, hx⟩
    rw [foldl_take_succ _ _ hz]
    exact (unb_UL h i (by omega)).next h hp hx

theorem unb_fits {s : Sig} {b : Bnds} (h : OkBX s b) (hs : BigS s) (hb : BigB b) : Fits (unbQ s b) := by
  have h1 := unb_UL h s.length (Nat.le_refl _)
  rw [List.take_of_length_le (by simp [h.len])] at h1
  have h2 := h1.tot
  have h3 := h.few
  have e : (unbQ s b) = ((s.zip b).foldl stU (zF, true)).1 := rfl
  rw [← e] at h2
  exact ⟨by omega, by omega, unb_names hs.names hb.names⟩

theorem ivalidBindingX_ct (s : Sig) (b : Bnds) (hs : BigS s) (hb : BigB b) : ACalls pk 7 [.agg (eG s), .agg (eBi b)] [] (fun r o => r = .one (.bool (VBi s b)) ∧ o = []) := by
  by_cases hsm : OkS s ∧ b.length = s.length ∧ (∀ j, j < b.length → slotAt s b j = true) ∧ fitQ s (unbQ s b) = true
  · obtain ⟨h1, h2, h3, h4⟩ := hsm
    have hF := (fitQ_iff.1 h4).2
    have h5 := h1.len
    refine ivalidBinding_ct s b (okS_lenS h1) (small_of8 (by omega) (fun x hx => ⟨slot_lists h1 h2 h3 hF.places x hx, slot_pairs h1 h2 h3 hF.named x hx⟩) hb.names)
  have hbl := hb.len
  refine acalls_of_body Tryz.func7 rfl (by kernel_rfl) rfl ?_
  refine rn rfl ?_
  refine goal_step (step_call [] rfl rfl rfl rfl rfl rfl (ivalidSig_ct s hs.len hs.names)) ?_
  rintro σ2 ⟨r, o', ⟨rfl, rfl⟩, hσ⟩
  obtain rfl := Option.some.inj hσ
  clear hσ
  refine rn rfl ?_
  refine goal_guard rfl rfl rfl (fun h1 => ?_) (fun h1 => ?_) <;> (try simp only [gt_iff_lt, ge_iff_le, bne_iff_ne, ne_eq, bne_eq_false_iff_eq, beq_iff_eq, beq_eq_false_iff_ne, Bool.not_eq_true', Bool.not_eq_false', decide_eq_true_eq, decide_eq_false_iff_not, List.length_map] at h1)
  · refine rn rfl (fin_is [] rfl ⟨?_, rfl⟩)
    simp [VBi, h1]
  have hok := okSig_iff.1 h1
  have hfew := hok.len
  refine rn rfl ?_
  refine goal_cond rfl (fun h2 => ?_) (fun h2 => ?_) <;> simp only [List.length_map, bne_iff_ne, ne_eq, bne_eq_false_iff_eq] at h2
  · refine rn rfl (fin_is [] rfl ⟨?_, rfl⟩)
    have : b.length ≠ s.length := by omega
    simp [VBi, this]
  have hlen : b.length = s.length := by omega
  refine rn rfl ?_
  refine goal_loop_keep (fun m σ => ∃ (q L : Int) (i : Nat), q = i ∧ L = b.length ∧ i ≤ b.length ∧ m = b.length - i ∧ (∀ j, j < i → slotAt s b j = true) ∧
      σ = ⟨[(24, .one (.int .i64 q)), (23, .one (.int .i64 L)), (22, .one (.fs (b.map eL))), (3, .one (.op 1 0 0)), (2, .one (.op 0 0 0))],
        [some ⟨1, [eG s], false, false, true⟩, some ⟨1, [eBi b], false, false, true⟩], []⟩) b.length [24, 23, 22, 3, 2] [0, 1] rfl
    ⟨_, _, 0, rfl, by simp, by omega, by omega, fun j hj => by omega, rfl⟩ ?_
  rintro m σ ⟨q, L, i, rfl, rfl, hi, rfl, hall, rfl⟩
  refine rn rfl ?_
  refine goal_cond rfl (fun h3 => ?_) (fun h3 => ?_) <;> (try simp only [gt_iff_lt, ge_iff_le, bne_iff_ne, ne_eq, bne_eq_false_iff_eq, beq_iff_eq, beq_eq_false_iff_ne, Bool.not_eq_true', Bool.not_eq_false', decide_eq_true_eq, decide_eq_false_iff_not, List.length_map] at h3)
  · obtain ⟨x, hx⟩ := at_some (xs := b) (i := i) (by omega)
    obtain ⟨p, hp⟩ := at_some (xs := s) (i := i) (by omega)
    have l1 := hb.list x (List.mem_of_getElem? hx)
    have l2 := hb.pairs x (List.mem_of_getElem? hx)
    refine rn rfl ?_
    refine goal_did rfl rfl (dA_index (eL x) rfl rfl rfl rfl rfl rfl rfl (by omega) (by (try simp); omega) (map_at (by simpa using hx)) rfl) ?_
    refine rn rfl ?_
    refine goal_step (step_call [] rfl rfl rfl rfl rfl rfl (slotValidX_ct s i p x hp (by omega) (hok.kindRange (List.mem_of_getElem? hp)) (by omega) (by omega))) ?_
    rintro σ2 ⟨r, o', ⟨rfl, rfl⟩, hσ⟩
    obtain rfl := Option.some.inj hσ
    clear hσ
    refine rn rfl ?_
    refine goal_cond rfl (fun h4 => ?_) (fun h4 => ?_) <;> simp only [Bool.not_eq_true', Bool.not_eq_false'] at h4
    · refine rn rfl (round_ret (fin_is [] rfl ⟨?_, rfl⟩))
      have h5 : slotAt s b i = false := by unfold slotAt; rw [hp, hx]; exact h4
      have : (List.range b.length).all (slotAt s b) = false := by
        rw [List.all_eq_false]
        exact ⟨i, List.mem_range.2 (by omega), by simp [h5]⟩
      simp [VBi, this]
    · have h5 : slotAt s b i = true := by unfold slotAt; rw [hp, hx]; exact h4
      refine rn rfl ?_
      refine round_keep (b.length - (i + 1)) [24, 23, 22, 3, 2] [0, 1] (by omega) rfl ⟨_, _, i + 1, wrap64 (by omega) (by omega), rfl, by omega, rfl, fun j hj => ?_, rfl⟩
      by_cases hji : j = i
      · subst hji; exact h5
      · exact hall j (by omega)
  · refine rn rfl (round_ext ?_)
    have hall' : ∀ j, j < b.length → slotAt s b j = true := fun j hj => hall j (by omega)
    have hokB := slots_okBX hok hb hlen hall'
    have hfit : fitQ s (unbQ s b) = false := by
      cases hf : fitQ s (unbQ s b) with
      | false => rfl
      | true => exact absurd ⟨hok, hlen, hall', hf⟩ hsm
    have hz : BindQ s (unbQ s b) = ([], false) := by unfold BindQ; rw [hfit]; rfl
    have hV : VBi s b = false := by unfold VBi; rw [hz]; simp
    have hfX := fitX_ct s (unbQ s b) hs (unb_fits hokB hs hb)
    rw [hfit] at hfX
    have hU := iunbindXD_ct s b hokB
    rw [hV]
    clear hz hV hfit hsm hokB
    generalize unbQ s b = U at *
    have hB : ACalls pk 17 [.agg (eG s), .agg (eF U)] [] (fun r o => r = .tup [.agg (eBi []), .one (.bool false)] ∧ o = []) := by
      refine acalls_of_body Tryz.func17 rfl (by kernel_rfl) rfl ?_
      refine rn rfl ?_
      refine goal_step (step_call [] rfl rfl rfl rfl rfl rfl (hfX)) ?_
      rintro σ2 ⟨r, o', ⟨rfl, rfl⟩, hσ⟩
      obtain rfl := Option.some.inj hσ
      clear hσ
      refine rn rfl ?_
      refine goal_cond rfl (fun _ => ?_) (fun h0 => by cases h0)
      exact rn rfl (fin_is [] rfl ⟨rfl, rfl⟩)
    refine rt1 9 rfl ?_
    refine goal_cutR (fun σ' => σ' = ⟨[(8, .one (.bool false)), (7, .one (.op 2 0 0)), (3, .one (.op 1 0 0)), (2, .one (.op 0 0 0))],
      [some ⟨1, [eG s], false, false, true⟩, some ⟨1, [eBi b], false, false, true⟩, some ⟨1, [eBi []], false, false, true⟩], []⟩) ?_ ?_
    · refine goal_draw' [0, 1] 11 rfl ?_
      refine drn [0, 1, 2] (by kernel_rfl) (by kernel_rfl) rfl rfl ?_
      refine AH_two (i := 3) (j := 8) (by kernel_rfl) (step_call [] rfl rfl rfl rfl rfl rfl (hU)) (by simp) (step_did rfl rfl (dA_step rfl)) (mdOk rfl) ?_ ?_
      · rintro σ2 ⟨r, o', ⟨rfl, rfl⟩, hσ⟩
        obtain rfl := Option.some.inj hσ
        clear hσ
        refine AH_two (i := 4) (j := 8) (by kernel_rfl) (step_call [] rfl rfl rfl rfl rfl rfl (hB)) (by simp) (step_did rfl rfl (dA_step rfl)) (mdOk rfl) ?_ ?_
        · rintro σ2 ⟨r, o', ⟨rfl, rfl⟩, hσ⟩
          obtain rfl := Option.some.inj hσ
          clear hσ
          refine drn [5, 6, 7] (by kernel_rfl) (by kernel_rfl) rfl rfl ?_
          refine AH_oneDid 8 rfl (by kernel_rfl) rfl (dA_step rfl) (mdOk rfl) ?_
          refine AH_oneDid 9 rfl (by kernel_rfl) rfl (dA_step rfl) (mdOk rfl) ?_
          refine drn [10] (by kernel_rfl) (by kernel_rfl) rfl rfl ?_
          refine AH_end (by kernel_rfl) ?_
          refine rn rfl ?_
          exact cut_nrm [8, 7, 3, 2] [0, 1, 2] rfl rfl
        · rintro _ rfl
          refine AH_one (i := 4) (by kernel_rfl) (step_call [] rfl rfl rfl rfl rfl rfl (hB)) (by simp) ?_
          rintro σ2 ⟨r, o', ⟨rfl, rfl⟩, hσ⟩
          obtain rfl := Option.some.inj hσ
          clear hσ
          refine drn [5, 6, 7] (by kernel_rfl) (by kernel_rfl) rfl rfl ?_
          refine AH_oneDid 9 rfl (by kernel_rfl) rfl (dA_step rfl) (mdOk rfl) ?_
          refine drn [10] (by kernel_rfl) (by kernel_rfl) rfl rfl ?_
          refine AH_end (by kernel_rfl) ?_
          refine rn rfl ?_
          exact cut_nrm [8, 7, 3, 2] [0, 1, 2] rfl rfl
      · rintro _ rfl
        refine AH_one (i := 3) (by kernel_rfl) (step_call [] rfl rfl rfl rfl rfl rfl (hU)) (by simp) ?_
        rintro σ2 ⟨r, o', ⟨rfl, rfl⟩, hσ⟩
        obtain rfl := Option.some.inj hσ
        clear hσ
        refine AH_one (i := 4) (by kernel_rfl) (step_call [] rfl rfl rfl rfl rfl rfl (hB)) (by simp) ?_
        rintro σ2 ⟨r, o', ⟨rfl, rfl⟩, hσ⟩
        obtain rfl := Option.some.inj hσ
        clear hσ
        refine drn [5, 6, 7] (by kernel_rfl) (by kernel_rfl) rfl rfl ?_
        refine AH_oneDid 9 rfl (by kernel_rfl) rfl (dA_step rfl) (mdOk rfl) ?_
        refine drn [10] (by kernel_rfl) (by kernel_rfl) rfl rfl ?_
        refine AH_end (by kernel_rfl) ?_
        refine rn rfl ?_
        exact cut_nrm [8, 7, 3, 2] [0, 1, 2] rfl rfl
    rintro _ rfl
    refine rn rfl ?_
    refine goal_guard rfl rfl rfl (fun h6 => by cases h6) (fun _ => ?_)
    exact rn rfl (fin_is [] rfl ⟨rfl, rfl⟩)

theorem iUnbindX_ct (s : Sig) (b : Bnds) (hs : BigS s) (hb : BigB b) : ACalls pk 4 [.agg (eG s), .agg (eBi b)] [] (fun r o => r = .agg (eF (if VBi s b then unbQ s b else zF)) ∧ o = []) := by
  cases hV : VBi s b with
  | true =>
    obtain ⟨ls, sb⟩ := VBi_small hV
    have := iUnbind_ct s b ls sb
    rw [hV] at this; exact this
  | false =>
    have h0 := ivalidBindingX_ct s b hs hb
    rw [hV] at h0
    refine acalls_of_body Tryz.func4 rfl (by kernel_rfl) rfl ?_
    refine rn rfl ?_
    refine goal_step (step_call [] rfl rfl rfl rfl rfl rfl (h0)) ?_
    rintro σ2 ⟨r, o', ⟨rfl, rfl⟩, hσ⟩
    obtain rfl := Option.some.inj hσ
    clear hσ
    refine rn rfl ?_
    refine goal_cond rfl (fun _ => ?_) (fun h => by cases h)
    refine rn rfl (fin_is [] rfl ⟨?_, rfl⟩)
    rfl

theorem fnTopBind_ct (s : Sig) (b : Bnds) (ls : BigS s) (hb : BigB b) : ACalls pk 3 [.agg (eG s), .agg (eBi b)] [] (fun r o => r = .one (.bool true) ∧ o = []) := by
  have hI := iUnbindX_ct s b ls hb
  have hS := sUnbindX_ct s b ls hb
  have hV := ivalidBindingX_ct s b ls hb
  have lU := unbV_len (s := s) (b := b)
  have hG : VBi s b = true → Given s (unbQ s b) b := VBi_given
  have hU : VBi s b = true → (if VBi s b then unbQ s b else zF) = unbQ s b := fun h => if_pos h
  generalize (if VBi s b then unbQ s b else zF) = U at *
  have hEq := equalFlatSelf_ct U lU
  refine acalls_of_body Tryz.func3 rfl (by kernel_rfl) rfl ?_
  refine rn rfl ?_
  refine goal_step (step_call [] rfl rfl rfl rfl rfl rfl (hI)) ?_
  rintro σ2 ⟨r, o', ⟨rfl, rfl⟩, hσ⟩
  obtain rfl := Option.some.inj hσ
  clear hσ
  refine rn rfl ?_
  refine rn rfl ?_
  refine goal_draw' [0, 1, 2] 12 rfl ?_
  refine drn [0, 1, 2] (by kernel_rfl) (by kernel_rfl) rfl rfl ?_
  refine AH_one (i := 3) (by kernel_rfl) (step_call [] rfl rfl rfl rfl rfl rfl (hS)) (by simp) ?_
  rintro σ2 ⟨r, o', ⟨rfl, rfl⟩, hσ⟩
  obtain rfl := Option.some.inj hσ
  clear hσ
  refine AH_one (i := 4) (by kernel_rfl) (step_call [] rfl rfl rfl rfl rfl rfl (hEq)) (by simp) ?_
  rintro σ2 ⟨r, o', ⟨rfl, rfl⟩, hσ⟩
  obtain rfl := Option.some.inj hσ
  clear hσ
  refine drn [5, 6] (by kernel_rfl) (by kernel_rfl) rfl rfl ?_
  refine AH_guard (i := 7) rfl rfl rfl (fun h1 => ?_) (fun h1 => ?_) <;> (try simp only [gt_iff_lt, ge_iff_le, bne_iff_ne, ne_eq, bne_eq_false_iff_eq, beq_iff_eq, beq_eq_false_iff_ne, Bool.not_eq_true', Bool.not_eq_false', decide_eq_true_eq, decide_eq_false_iff_not, List.length_map] at h1)
  · exact absurd h1 (by simp)
  · refine drn [7, 8] (by kernel_rfl) (by kernel_rfl) rfl rfl ?_
    refine AH_one (i := 9) (by kernel_rfl) (step_call [] rfl rfl rfl rfl rfl rfl (hV)) (by simp) ?_
    rintro σ2 ⟨r, o', ⟨rfl, rfl⟩, hσ⟩
    obtain rfl := Option.some.inj hσ
    clear hσ
    refine drn [10, 11] (by kernel_rfl) (by kernel_rfl) rfl rfl ?_
    refine AH_end (by kernel_rfl) ?_
    refine rn rfl ?_
    refine goal_cond rfl (fun h2 => ?_) (fun h2 => ?_)
    · refine rn rfl ?_
      refine goal_draw' [0, 1, 2] 6 rfl ?_
      refine drn [0, 1, 2] (by kernel_rfl) (by kernel_rfl) rfl rfl ?_
      refine AH_one (i := 3) (by kernel_rfl) (step_call [] rfl rfl rfl rfl rfl rfl (hS)) (by simp) ?_
      rintro σ2 ⟨r, o', ⟨rfl, rfl⟩, hσ⟩
      obtain rfl := Option.some.inj hσ
      clear hσ
      refine AH_one (i := 4) (by kernel_rfl) (step_call [] rfl rfl rfl rfl rfl rfl (hEq)) (by simp) ?_
      rintro σ2 ⟨r, o', ⟨rfl, rfl⟩, hσ⟩
      obtain rfl := Option.some.inj hσ
      clear hσ
      refine drn [5] (by kernel_rfl) (by kernel_rfl) rfl rfl ?_
      refine AH_end (by kernel_rfl) ?_
      refine rn rfl ?_
      exact rn rfl (fin_is [] rfl ⟨rfl, rfl⟩)
    · have hv : VBi s b = true := by simpa using h2
      have G := hG hv
      have lS := okS_lenS G.sig
      rw [← hU hv] at G
      have hC := icanon_ct s U lS lU
      have hbu : unbQ s b = U := (hU hv).symm
      rw [G.canon, hbu] at hC
      dsimp only at hC
      have hA := iaccepts_ct s U lS lU
      rw [G.bind] at hA
      dsimp only at hA
      refine rn rfl ?_
      refine goal_step (step_call [] rfl rfl rfl rfl rfl rfl (hC)) ?_
      rintro σ2 ⟨r, o', ⟨rfl, rfl⟩, hσ⟩
      obtain rfl := Option.some.inj hσ
      clear hσ
      refine rn rfl ?_
      refine rn rfl ?_
      refine goal_guard rfl rfl rfl (fun _ => ?_) (fun h3 => by cases h3)
      refine rn rfl ?_
      refine goal_step (step_call [] rfl rfl rfl rfl rfl rfl (hEq)) ?_
      rintro σ2 ⟨r, o', ⟨rfl, rfl⟩, hσ⟩
      obtain rfl := Option.some.inj hσ
      clear hσ
      refine rn rfl ?_
      refine goal_guard rfl rfl rfl (fun _ => ?_) (fun h3 => by cases h3)
      refine rn rfl ?_
      refine goal_step (step_call [] rfl rfl rfl rfl rfl rfl (hA)) ?_
      rintro σ2 ⟨r, o', ⟨rfl, rfl⟩, hσ⟩
      obtain rfl := Option.some.inj hσ
      clear hσ
      refine rn rfl ?_
      exact rn rfl (fin_is [] rfl ⟨rfl, rfl⟩)

section
open Go Go.ChangeShapes
/-- A value of type 't' that can be read, no slice of it longer than memory reaches, is some 'a', its cells told by 'enc'. -/
def OpensZ (P : Program) (t : TypeId) {α : Type} (enc : α → List C) (ok : α → Prop) : Prop :=
  ∀ (H : Type) (en : TypeId × Value → H) (w : World) (fuel : Nat) (cs : List Value) (x : DataW H × List MemPlace), DataW.trod en P w 0 (fun _ => true) true fuel t cs = some x → (∀ n ∈ x.1.weights P t, n ≤ reachBytes) →
    ∃ a : α, ok a ∧ CRp (allD w) w.heap [] (enc a) cs ∧ cs.length = (enc a).length

theorem Opens.z {P : Program} {t : TypeId} {α : Type} {enc : α → List C} {ok : α → Prop} (h : Opens P t enc ok) : OpensZ P t enc ok := fun H en w fuel cs x hx _ => h H en w fuel cs x hx

theorem weights_all {H : Type} {P : Program} {e : TypeId} : ∀ {elems : List (DataW H × List MemPlace)} {y : DataW H × List MemPlace} {m : Nat}, y ∈ elems → m ∈ y.1.weights P e → m ∈ DataW.weightsAll P e (elems.map (·.1))
  | [], _, _, h, _ => by simp at h
  | z :: elems, y, m, h, hm => by
    simp only [List.map_cons, DataW.weightsAll, List.mem_append]
    rcases List.mem_cons.1 h with rfl | h
    · exact .inl hm
    · exact .inr (weights_all h hm)

theorem oz_slice {P : Program} {t e : TypeId} {α : Type} {enc : α → List C} {ok : α → Prop} {by_ : Nat} {sz : Nat} (ht : P.underlying t = some (.slice e)) (hc : P.cellsOf e = sz) (h0 : 0 < sz) (hl : ∀ a, (enc a).length = sz) (hB : P.bytesOf e = by_) (he : OpensZ P e enc ok) :
    OpensZ P t (fun xs : List α => [.fs (xs.map enc)]) (fun xs => by_ * xs.length ≤ reachBytes ∧ xs.length ≤ 9223372036854775807 ∧ ∀ x ∈ xs, ok x) := by
  intro H en w fuel cs x h hw
  rcases DataW.trod_slice ht h with ⟨rfl, rfl⟩ | ⟨a, len, cap, elems, rest, n, _, rfl, rfl, _, hlc, hm, hlen, hel, _, _⟩
  · refine ⟨[], by simp, ?_, rfl⟩
    simp only [CRp, CR, List.map_nil, List.length_nil, and_true]
    exact ⟨none, 0, rfl, Nat.le_refl _, .inl trivial⟩
  · have each : ∀ i, i < len → ∃ y, elems[i]? = some y ∧ ∃ cs' : List Value, w.cells? 0 (a.add (i * sz)) sz = some cs' ∧ ∃ b : α, ok b ∧ CRp (allD w) w.heap [] (enc b) cs' ∧ cs'.length = (enc b).length := by
      intro i hi
      have := hel i hi
      rw [hc] at this
      obtain ⟨y, hy⟩ : ∃ y, elems[i]? = some y := ⟨elems[i], by simp [hlen, hi]⟩
      rw [hy, Option.bind_eq_some_iff] at this
      obtain ⟨cs', h1, h2⟩ := this
      obtain ⟨b, hb⟩ := he H en w n cs' y h2 (fun m hm => hw m (by
        simp only [DataW.weights, ht]
        exact List.mem_cons_of_mem _ (List.mem_append_left _ (weights_all (List.mem_of_getElem? hy) hm))))
      exact ⟨y, hy, cs', h1, b, hb⟩
    have hxs : ∀ k, k ≤ len → ∃ xs : List α, xs.length = k ∧ (∀ x ∈ xs, ok x) ∧ ∀ (i : Nat) (b : α), xs[i]? = some b → ∃ cs', w.cells? 0 (a.add (i * sz)) sz = some cs' ∧ CRp (allD w) w.heap [] (enc b) cs' := by
      intro k
      induction k with
      | zero => intro _; exact ⟨[], rfl, by simp, by simp⟩
      | succ k ih =>
        intro hk
        obtain ⟨xs, q1, q2, q3⟩ := ih (by omega)
        obtain ⟨y, hy, cs', h1, b, hb1, hb2, _⟩ := each k (by omega)
        refine ⟨xs ++ [b], by simp [q1], ?_, ?_⟩
        · intro z hz
          rcases List.mem_append.1 hz with hz | hz
          · exact q2 z hz
          · rw [List.mem_singleton.1 hz]; exact hb1
        · intro i b' hi
          rw [getElem?_app_one] at hi
          split at hi
          · exact q3 i b' hi
          · split at hi
            · rename_i heq
              simp at hi
              subst hi
              rw [heq, q1]
              exact ⟨cs', h1, hb2⟩
            · cases hi
    obtain ⟨xs, q1, q2, q3⟩ := hxs len (Nat.le_refl _)
    refine ⟨xs, ?_, ?_, rfl⟩
    · have hb := hw ((elems.length + rest.length) * P.bytesOf e) (by simp [DataW.weights, ht])
      rw [hB, hlen] at hb
      refine ⟨?_, ?_, q2⟩
      · rw [q1, Nat.mul_comm]
        exact Nat.le_trans (Nat.mul_le_mul_right _ (Nat.le_add_right _ _)) hb
      · rw [q1]
        exact Nat.le_trans hlc (Nat.le_trans hm (by decide))
    · simp only [CRp, CR, and_true]
      refine ⟨some a, cap, by simp [q1], by simpa [q1] using hlc, ?_⟩
      rcases Nat.eq_zero_or_pos len with hz | hz
      · left
        have : xs = [] := List.eq_nil_of_length_eq_zero (by omega)
        simp [this]
      · right
        obtain ⟨b0, hb0⟩ : ∃ b, xs[0]? = some b := ⟨xs[0], by simp [q1, hz]⟩
        obtain ⟨cs0, hc0, _⟩ := q3 0 b0 hb0
        have hcell0 := (World.cells?_some hc0).2.2 0 (by omega)
        have hl0 := (World.cells?_some hc0).1
        -- where the row lies
        obtain ⟨cells, tt, fr, hh, hs⟩ : ∃ cells tt fr, w.heap[a.block]? = some (.cells cells tt fr) ∧ a.spot = none := by
          have hv : ∃ v, w.cell? a = some v := by
            have h2 : a.add (0 * sz) = a := by simp [Addr.add]
            rw [h2] at hcell0
            have h3 : a.add 0 = a := by simp [Addr.add]
            rw [h3] at hcell0
            have : cs0[0]? ≠ none := by
              have h4 : cs0.length = sz := by
                have := World.cells?_some hc0
                first | exact this.1 | exact this.2.1
              rw [List.getElem?_eq_getElem (by omega)]; simp
            exact ⟨cs0[0]?.get (by cases hx : cs0[0]? with | none => exact absurd hx this | some v => rfl), by rw [hcell0]; simp⟩
          obtain ⟨v, hv⟩ := hv
          unfold World.cell? at hv
          split at hv
          · rename_i cells tt fr hh
            split at hv
            · cases hv
            · rename_i hsp
              exact ⟨cells, tt, fr, hh, by cases hq : a.spot with | none => rfl | some _ => rw [hq] at hsp; simp at hsp⟩
          · cases hv
        refine ⟨a, cells, tt, fr, sz, rfl, hs, (Array.getElem?_eq_some_iff.1 hh).1, hh, ?_⟩
        rw [CRr_iff]
        intro i r hi
        rw [List.getElem?_map] at hi
        cases hxi : xs[i]? with
        | none => rw [hxi] at hi; simp at hi
        | some b =>
          rw [hxi] at hi
          simp at hi
          subst hi
          obtain ⟨cs', hc', hr'⟩ := q3 i b hxi
          refine ⟨hl b, CRp.congr (fun j hj => ?_) hr'⟩
          rw [hl b] at hj
          have := (World.cells?_some hc').2.2 j hj
          rw [← this]
          have ha : (a.add (i * sz)).add j = ⟨a.block, a.off + i * sz + j, none⟩ := by rw [add_eq a _ hs, add_eq _ _ rfl]
          rw [ha, List.getElem?_drop]
          simp [World.cell?, hh, Nat.add_assoc]

/-- The fields of a struct, one by one. -/
def OpensFZ (P : Program) (fs : List (Nat × TypeId)) (off : Nat) {α : Type} (enc : α → List C) (ok : α → Prop) : Prop :=
  ∀ (H : Type) (en : TypeId × Value → H) (w : World) (fuel : Nat) (cs : List Value) (xs : List (DataW H × List MemPlace)), xs.length = fs.length →
    (∀ (i : Nat) (f : Nat × TypeId), fs[i]? = some f → DataW.trod en P w 0 (fun _ => true) true fuel f.2 ((cs.drop f.1).take (P.cellsOf f.2)) = xs[i]?) →
    (∀ n ∈ DataW.weightsEach P (fs.map (·.2)) (xs.map (·.1)), n ≤ reachBytes) →
    ∃ a : α, ok a ∧ CRp (allD w) w.heap [] (enc a) (cs.drop off)

theorem ozF_nil {P : Program} {off : Nat} : OpensFZ P [] off (fun _ : Unit => []) (fun _ => True) := by
  intro H en w fuel cs xs _ _ _
  exact ⟨(), trivial, by simp [CRp]⟩

theorem ozF_cons {P : Program} {t : TypeId} {fs : List (Nat × TypeId)} {off off' : Nat} {α β : Type} {enc : α → List C} {enc' : β → List C} {ok : α → Prop} {ok' : β → Prop}
    (h1 : OpensZ P t enc ok) (hl : ∀ a, (enc a).length = off' - off) (hle : off ≤ off') (h2 : OpensFZ P fs off' enc' ok') : OpensFZ P ((off, t) :: fs) off (fun ab : α × β => enc ab.1 ++ enc' ab.2) (fun ab => ok ab.1 ∧ ok' ab.2) := by
  intro H en w fuel cs xs hlen hf hw
  match xs, hlen with
  | y :: ys, hlen =>
    have hx := hf 0 (off, t) rfl
    simp only [List.getElem?_cons_zero] at hx
    simp only [List.map_cons, DataW.weightsEach, List.mem_append] at hw
    obtain ⟨a, ha, hr, hlen'⟩ := h1 H en w fuel _ y hx (fun n hn => hw n (.inl hn))
    obtain ⟨b, hb, hr'⟩ := h2 H en w fuel cs ys (by simpa using hlen) (fun i f hf' => by
      have := hf (i + 1) f (by simpa using hf')
      simpa using this) (fun n hn => hw n (.inr hn))
    refine ⟨(a, b), ⟨ha, hb⟩, ?_⟩
    · rw [CRp.app, hl a]
      refine ⟨?_, by rw [List.drop_drop, show off + (off' - off) = off' by omega]; exact hr'⟩
      have := CRp.more (r := (cs.drop off).drop (P.cellsOf t)) hr
      rwa [List.take_append_drop] at this

theorem oz_struct {P : Program} {t : TypeId} {fs : Array Field} {α : Type} {enc : α → List C} {ok : α → Prop} {sz : Nat} (ht : P.underlying t = some (.struct fs)) (hc : P.cellsOf t = sz) (hl : ∀ a, (enc a).length = sz)
    (h : OpensFZ P (fs.toList.map fun f => (f.offset, f.type)) 0 enc ok) : OpensZ P t enc ok := by
  intro H en w fuel cs x hx hw
  obtain ⟨xs, n, _, rfl, h1, h2, h3⟩ := DataW.trod_struct ht hx
  simp only [DataW.weights, ht] at hw
  obtain ⟨a, ha, hr⟩ := h H en w n cs xs (by simpa using h2) (fun i f hf => by
    rw [List.getElem?_map, Option.map_eq_some_iff] at hf
    obtain ⟨g, hg, rfl⟩ := hf
    exact h3 i g (by simpa using hg)) (by simpa [List.map_map, Function.comp_def] using hw)
  exact ⟨a, ha, by simpa using hr, by rw [h1, hc, hl a]⟩

theorem OpensZ.map {P : Program} {t : TypeId} {α β : Type} {enc : α → List C} {ok : α → Prop} {enc' : β → List C} {ok' : β → Prop} (h : OpensZ P t enc ok) (g : α → β) (he : ∀ a, enc' (g a) = enc a) (ho : ∀ a, ok a → ok' (g a)) : OpensZ P t enc' ok' := by
  intro H en w fuel cs x hx hw
  obtain ⟨a, h1, h2, h3⟩ := h H en w fuel cs x hx hw
  exact ⟨g a, ho a h1, by rw [he]; exact h2, by rw [he]; exact h3⟩

section

variable {X : Pk} {t : Nat} {ti te : TI}

theorem TIok.bytesOf {P : Program} {t : Nat} {ti : TI} (H : TIok P t ti) : P.bytesOf t = ti.bytes := by
  obtain ⟨i, z, hi, hs, hb, _⟩ := H.info
  simp [Program.bytesOf, hi, hb]

theorem xz_slice {α : Type} {enc : α → List C} {ok : α → Prop} (h : findTI X.L t = some ti) (hk : ti.kind = 2) (he : findTI X.L ti.elem = some te) (h0 : Nat.blt 0 te.size = true) (hl : ∀ a, (enc a).length = te.size) (hE : OpensZ X.P ti.elem enc ok) :
    OpensZ X.P t (fun xs : List α => [.fs (xs.map enc)]) (fun xs => te.bytes * xs.length ≤ reachBytes ∧ xs.length ≤ 9223372036854775807 ∧ ∀ x ∈ xs, ok x) :=
  oz_slice ((X.tiok h).slice hk) (X.tiok he).cellsOf (by simpa [Nat.blt_eq] using h0) hl (X.tiok he).bytesOf hE

theorem xz_struct {α : Type} {enc : α → List C} {ok : α → Prop} (h : findTI X.L t = some ti) (hk : ti.kind = 3) (hl : ∀ a, (enc a).length = ti.size) (hF : OpensFZ X.P ti.fields 0 enc ok) : OpensZ X.P t enc ok := by
  obtain ⟨fs, hu, hfs⟩ := (X.tiok h).struct hk
  exact oz_struct hu (X.tiok h).cellsOf hl (by rw [hfs]; exact hF)

end

def PairOkZ (p : Pair) : Prop := p.name.length ≤ 9223372036854775807

def ParamOkZ (p : Param) : Prop := p.name.length ≤ 9223372036854775807

theorem zIPair : Opens pk.P 51 eP PairOkZ :=
  Opens.map (xo_struct (α := Str × Int × Unit) rfl rfl (fun _ => rfl) (opensF_cons (off' := 1) (xo_str rfl rfl) (fun _ => rfl) (by omega) (opensF_cons (off' := 2) (xo_int rfl rfl rfl) (fun _ => rfl) (by omega) opensF_nil)))
    (fun x => ⟨x.1, x.2.1⟩) (fun _ => rfl) (fun _ h => h.1)

theorem zIParam : Opens pk.P 48 eQ ParamOkZ :=
  Opens.map (xo_struct (α := Str × Int × Bool × Int × Unit) rfl rfl (fun _ => rfl) (opensF_cons (off' := 1) (xo_str rfl rfl) (fun _ => rfl) (by omega) (opensF_cons (off' := 2) (xo_int rfl rfl rfl) (fun _ => rfl) (by omega)
    (opensF_cons (off' := 3) (xo_bool rfl rfl) (fun _ => rfl) (by omega) (opensF_cons (off' := 4) (xo_int rfl rfl rfl) (fun _ => rfl) (by omega) opensF_nil)))))
    (fun x => ⟨x.1, x.2.1, x.2.2.1, x.2.2.2.1⟩) (fun _ => rfl) (fun _ h => h.1)

theorem zISig : OpensZ pk.P 24 eG BigS :=
  OpensZ.map (Opens.z (xo_struct (α := List Param × Unit) rfl rfl (fun _ => rfl) (opensF_cons (off' := 1) (xo_slice rfl rfl rfl rfl (fun _ => rfl) zIParam) (fun _ => rfl) (by omega) opensF_nil)))
    (fun x => x.1) (fun _ => rfl) (fun _ h => ⟨h.1.1, h.1.2⟩)

structure SlotZ (x : Slot) : Prop where
  list : 8 * x.list.length ≤ 140737488351232
  pairs : 24 * x.pairs.length ≤ 140737488351232
  names : ∀ q ∈ x.pairs, q.name.length ≤ 9223372036854775807

theorem zISlot : OpensZ pk.P 42 eL SlotZ :=
  OpensZ.map (xz_struct (α := Bool × List Int × List Pair × Unit) rfl rfl (fun _ => rfl) (ozF_cons (off' := 1) (Opens.z (xo_bool rfl rfl)) (fun _ => rfl) (by omega)
    (ozF_cons (off' := 2) (xz_slice (enc := eI) rfl rfl rfl rfl (fun _ => rfl) (Opens.z (xo_int rfl rfl rfl))) (fun _ => rfl) (by omega)
      (ozF_cons (off' := 3) (xz_slice rfl rfl rfl rfl (fun _ => rfl) (Opens.z zIPair)) (fun _ => rfl) (by omega) ozF_nil))))
    (fun x => ⟨x.1, x.2.1, x.2.2.1⟩) (fun _ => rfl) (fun x h => ⟨h.2.1.1, h.2.2.1.1, h.2.2.1.2.2⟩)

theorem zIBinding : OpensZ pk.P 27 eBi BigB :=
  OpensZ.map (xz_struct (α := List Slot × Unit) rfl rfl (fun _ => rfl) (ozF_cons (off' := 1) (xz_slice rfl rfl rfl rfl (fun _ => rfl) zISlot) (fun _ => rfl) (by omega) ozF_nil))
    (fun x => x.1) (fun _ => rfl) (fun _ h => ⟨h.1.2.1, fun x hx => (h.1.2.2 x hx).list, fun x hx => (h.1.2.2 x hx).pairs, fun x hx => (h.1.2.2 x hx).names⟩)
end

end Go.Proofs.YthbnieiohbpacaaGreat
