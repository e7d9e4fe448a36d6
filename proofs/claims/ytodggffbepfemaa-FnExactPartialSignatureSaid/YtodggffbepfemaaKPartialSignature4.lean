/- Part 4 of the proof: an abstract machine over the model; contracts of the functions that the law reaches. -/
import Derived.Test.YtodggffbepfemaaKPartialSignature3
set_option linter.unusedVariables false
set_option linter.unusedSimpArgs false
namespace Go.Proofs.Ytodggffbepfemaa
open Go
set_option maxRecDepth 100000
set_option maxHeartbeats 1000000

theorem placed_not2 {x : Param} (h : placedQ x = true) : (x.kind == 2) = false := by
  rw [placed_kind] at h; simp; omega

theorem partialParams_ct (s : Sig) (f : Flat) (hp : LenPa ⟨s, f⟩) (hl : s.length ≤ 1000) : ACalls pk 66 [.agg (ePa ⟨s, f⟩)] [] (fun r o => r = .one (.fs ((psL (atQ s f) f s).map eQ)) ∧ o = []) := by
  obtain ⟨s1, s2⟩ := hp.sig
  have f1 := hp.flat.places
  have f2 := hp.flat.named
  have hat : ACalls pk 135 [.agg (ePa ⟨s, f⟩)] [] (fun r o => r = .one (.int .i64 (atQ s f)) ∧ o = []) := snamedAt_ct ⟨s, f⟩ hp
  simp only at s1 f1 f2 s2
  refine acalls_of_body Try.func66 rfl (by kernel_rfl) rfl ?_
  refine rn rfl ?_
  refine goal_step (step_call [] rfl rfl rfl rfl rfl rfl (hat)) ?_
  rintro σ2 ⟨r, o', ⟨rfl, rfl⟩, hσ⟩
  obtain rfl := Option.some.inj hσ
  clear hσ
  refine rn rfl ?_
  generalize atQ s f = A
  refine rn rfl ?_
  refine goal_loop_keep (fun m σ => ∃ (q : Int) (i l : Nat) (acc : List Param), q = i ∧ i ≤ s.length ∧ m = s.length - i ∧ l = acc.length ∧ acc = psL A f (s.take i) ∧
      σ = ⟨[(5, .one (.int .i64 q)), (4, .one (.int .i64 A)), (3, .one (.os 1 0 l l)), (1, .one (.op 0 0 0))], [some ⟨3, [ePa ⟨s, f⟩], false, false, true⟩, ownQ acc], []⟩) s.length [5, 4, 3, 1] [0, 1] rfl
    ⟨_, 0, 0, [], rfl, by omega, by omega, rfl, rfl, rfl⟩ ?_
  rintro m σ ⟨q, i, l, acc, rfl, hi, rfl, rfl, hacc, rfl⟩
  have hal := psL_len A f (s.take i)
  rw [← hacc, List.length_take] at hal
  refine rn rfl ?_
  refine goal_cond rfl (fun h => ?_) (fun h => ?_) <;> (try simp only [gt_iff_lt, ge_iff_le, bne_iff_ne, ne_eq, bne_eq_false_iff_eq, beq_iff_eq, beq_eq_false_iff_ne, Bool.not_eq_true', Bool.not_eq_false', decide_eq_true_eq, decide_eq_false_iff_not, List.length_map] at h)
  · obtain ⟨x, hx⟩ := at_some (xs := s) (i := i) (by omega)
    have hst := psL_succ (at' := A) (f := f) hx
    rw [← hacc] at hst
    have hskip : skipP A f i x = true → psL A f (s.take (i + 1)) = acc := fun h0 => by rw [hst]; simp [partParam, h0]
    refine rn rfl ?_
    refine goal_did rfl rfl (dA_index (eQ x) rfl rfl rfl rfl rfl rfl rfl (by omega) (by (try simp); omega) (map_at (by simpa using hx)) rfl) ?_
    refine rt 7 rfl ?_
    refine goal_cutR (fun σ' => skipP A f i x = false ∧ σ' = ⟨[(6, .one (.op 2 0 0)), (5, .one (.int .i64 i)), (4, .one (.int .i64 A)), (3, .one (.os 1 0 acc.length acc.length)), (1, .one (.op 0 0 0))],
        [some ⟨3, [ePa ⟨s, f⟩], false, false, true⟩, ownQ acc, some ⟨4, [eQ x], false, false, true⟩], []⟩) ?_ ?_
    · refine rn rfl ?_
      refine goal_step (step_call [] rfl rfl rfl rfl rfl rfl (splaced_ct x)) ?_
      rintro σ2 ⟨r, o', ⟨rfl, rfl⟩, hσ⟩
      obtain rfl := Option.some.inj hσ
      clear hσ
      refine rn rfl ?_
      refine goal_guard rfl rfl rfl (fun h1 => ?_) (fun h1 => ?_) <;> (try simp only [gt_iff_lt, ge_iff_le, bne_iff_ne, ne_eq, bne_eq_false_iff_eq, beq_iff_eq, beq_eq_false_iff_ne, Bool.not_eq_true', Bool.not_eq_false', decide_eq_true_eq, decide_eq_false_iff_not, List.length_map] at h1)
      · refine rn rfl ?_
        refine goal_guard rfl rfl rfl (fun h2 => ?_) (fun h2 => ?_) <;> (try simp only [gt_iff_lt, ge_iff_le, bne_iff_ne, ne_eq, bne_eq_false_iff_eq, beq_iff_eq, beq_eq_false_iff_ne, Bool.not_eq_true', Bool.not_eq_false', decide_eq_true_eq, decide_eq_false_iff_not, List.length_map] at h2)
        · refine rn rfl ?_
          refine cut_ext ?_
          refine rn rfl ?_
          refine round_keep (s.length - (i + 1)) [5, 4, 3, 1] [0, 1] (by omega) rfl ⟨_, i + 1, acc.length, acc, wrap64 (by omega) (by omega), by omega, rfl, rfl, (hskip (by simp [skipP, h1]; left; omega)).symm, rfl⟩
        · have h3 := placed_not2 h1
          refine rn rfl ?_
          refine goal_guard rfl rfl rfl (fun h4 => by rw [h3] at h4; cases h4) (fun h4 => ?_)
          refine rn rfl ?_
          exact cut_nrm [6, 5, 4, 3, 1] [0, 1, 2] rfl ⟨by simp [skipP, h1, h3]; omega, rfl⟩
      · refine rn rfl ?_
        refine goal_guard rfl rfl rfl (fun h3 => ?_) (fun h3 => ?_) <;> (try simp only [gt_iff_lt, ge_iff_le, bne_iff_ne, ne_eq, bne_eq_false_iff_eq, beq_iff_eq, beq_eq_false_iff_ne, Bool.not_eq_true', Bool.not_eq_false', decide_eq_true_eq, decide_eq_false_iff_not, List.length_map] at h3)
        · refine rn rfl ?_
          refine goal_cond rfl (fun h4 => ?_) (fun h4 => ?_) <;> (try simp only [gt_iff_lt, ge_iff_le, bne_iff_ne, ne_eq, bne_eq_false_iff_eq, beq_iff_eq, beq_eq_false_iff_ne, Bool.not_eq_true', Bool.not_eq_false', decide_eq_true_eq, decide_eq_false_iff_not, List.length_map] at h4)
          · refine rn rfl ?_
            refine cut_ext ?_
            refine rn rfl ?_
            refine round_keep (s.length - (i + 1)) [5, 4, 3, 1] [0, 1] (by omega) rfl ⟨_, i + 1, acc.length, acc, wrap64 (by omega) (by omega), by omega, rfl, rfl, (hskip (by simp [skipP, h3]; right; omega)).symm, rfl⟩
          · refine rn rfl ?_
            exact cut_nrm [6, 5, 4, 3, 1] [0, 1, 2] rfl ⟨by simp [skipP, h1, h3]; omega, rfl⟩
        · refine rn rfl ?_
          exact cut_nrm [6, 5, 4, 3, 1] [0, 1, 2] rfl ⟨by simp [skipP, h1, h3], rfl⟩
    rintro _ ⟨hns, rfl⟩
    refine rt 8 rfl ?_
    refine goal_cutR (fun σ' => σ' = ⟨[(6, .one (.op 2 0 0)), (5, .one (.int .i64 i)), (4, .one (.int .i64 A)), (3, .one (.os 1 0 acc.length acc.length)), (1, .one (.op 0 0 0))],
        [some ⟨3, [ePa ⟨s, f⟩], false, false, true⟩, ownQ acc, some ⟨4, [eQ (kindP (decide (0 ≤ A) && decide (A ≤ i)) x)], false, false, true⟩], []⟩) ?_ ?_
    · have keep : (x.kind == 1 && (decide (0 ≤ A) && decide (A ≤ i))) = false → kindP (decide (0 ≤ A) && decide (A ≤ i)) x = x := fun h0 => by unfold kindP; rw [h0]; rfl
      refine rn rfl ?_
      refine goal_guard rfl rfl rfl (fun h1 => ?_) (fun h1 => ?_) <;> (try simp only [gt_iff_lt, ge_iff_le, bne_iff_ne, ne_eq, bne_eq_false_iff_eq, beq_iff_eq, beq_eq_false_iff_ne, Bool.not_eq_true', Bool.not_eq_false', decide_eq_true_eq, decide_eq_false_iff_not, List.length_map] at h1)
      · refine rn rfl ?_
        refine goal_guard rfl rfl rfl (fun h2 => ?_) (fun h2 => ?_) <;> (try simp only [gt_iff_lt, ge_iff_le, bne_iff_ne, ne_eq, bne_eq_false_iff_eq, beq_iff_eq, beq_eq_false_iff_ne, Bool.not_eq_true', Bool.not_eq_false', decide_eq_true_eq, decide_eq_false_iff_not, List.length_map] at h2)
        · refine rn rfl ?_
          refine goal_cond rfl (fun h3 => ?_) (fun h3 => ?_) <;> (try simp only [gt_iff_lt, ge_iff_le, bne_iff_ne, ne_eq, bne_eq_false_iff_eq, beq_iff_eq, beq_eq_false_iff_ne, Bool.not_eq_true', Bool.not_eq_false', decide_eq_true_eq, decide_eq_false_iff_not, List.length_map] at h3)
          · have hk : kindP (decide (0 ≤ A) && decide (A ≤ i)) x = ⟨x.name, 3, x.hasD, x.dflt⟩ := by unfold kindP; rw [if_pos]; simp [h1]; omega
            rw [hk]
            refine rn rfl ?_
            exact cut_nrm [6, 5, 4, 3, 1] [0, 1, 2] rfl rfl
          · rw [keep (by simp; intros; omega)]
            refine rn rfl ?_
            exact cut_nrm [6, 5, 4, 3, 1] [0, 1, 2] rfl rfl
        · rw [keep (by simp; intros; omega)]
          refine rn rfl ?_
          exact cut_nrm [6, 5, 4, 3, 1] [0, 1, 2] rfl rfl
      · rw [keep (by simp [h1])]
        refine rn rfl ?_
        exact cut_nrm [6, 5, 4, 3, 1] [0, 1, 2] rfl rfl
    rintro _ rfl
    have hpp : partParam A f i x = some (giveP f (kindP (decide (0 ≤ A) && decide (A ≤ i)) x)) := by simp [partParam, hns]
    rw [hpp] at hst
    generalize kindP (decide (0 ≤ A) && decide (A ≤ i)) x = y at hst ⊢
    refine rn rfl ?_
    refine goal_step (step_call [] rfl rfl rfl rfl rfl rfl (spairAt_ct f.named y.name (by omega))) ?_
    rintro σ2 ⟨r, o', ⟨rfl, rfl⟩, hσ⟩
    obtain rfl := Option.some.inj hσ
    clear hσ
    refine rt 11 rfl ?_
    refine goal_cutR (fun σ' => σ' = ⟨[(6, .one (.op 2 0 0)), (5, .one (.int .i64 i)), (4, .one (.int .i64 A)), (3, .one (.os 1 0 acc.length acc.length)), (1, .one (.op 0 0 0))],
        [some ⟨3, [ePa ⟨s, f⟩], false, false, true⟩, ownQ acc, some ⟨4, [eQ (giveP f y)], false, false, true⟩], []⟩) ?_ ?_
    · refine rn rfl ?_
      refine goal_guard rfl rfl rfl (fun h1 => ?_) (fun h1 => ?_) <;> (try simp only [gt_iff_lt, ge_iff_le, bne_iff_ne, ne_eq, bne_eq_false_iff_eq, beq_iff_eq, beq_eq_false_iff_ne, Bool.not_eq_true', Bool.not_eq_false', decide_eq_true_eq, decide_eq_false_iff_not, List.length_map] at h1)
      · obtain ⟨r, hr1, hr2, hr3⟩ := pair_at h1
        refine rn rfl ?_
        refine goal_step (step_call [] rfl rfl rfl rfl rfl rfl (snamed_ct y)) ?_
        rintro σ2 ⟨r, o', ⟨rfl, rfl⟩, hσ⟩
        obtain rfl := Option.some.inj hσ
        clear hσ
        refine rn rfl ?_
        refine goal_cond rfl (fun h2 => ?_) (fun h2 => ?_) <;> (try simp only [gt_iff_lt, ge_iff_le, bne_iff_ne, ne_eq, bne_eq_false_iff_eq, beq_iff_eq, beq_eq_false_iff_ne, Bool.not_eq_true', Bool.not_eq_false', decide_eq_true_eq, decide_eq_false_iff_not, List.length_map] at h2)
        · have hg : giveP f y = ⟨y.name, y.kind, true, r.value⟩ := by unfold giveP; rw [if_pos h2, hr1]
          rw [hg]
          refine rn rfl ?_
          refine goal_did rfl rfl (dA_index (eP r) rfl rfl rfl rfl rfl rfl rfl (by omega) (by (try simp); omega) (map_at (by simpa using hr2)) rfl) ?_
          refine rn rfl ?_
          exact cut_nrm [6, 5, 4, 3, 1] [0, 1, 2] rfl rfl
        · have hg : giveP f y = y := by unfold giveP; rw [if_neg (by simp [h2])]
          rw [hg]
          refine rn rfl ?_
          exact cut_nrm [6, 5, 4, 3, 1] [0, 1, 2] rfl rfl
      · have hg : giveP f y = y := by unfold giveP; rw [pair_none (by omega)]; split <;> rfl
        rw [hg]
        refine rn rfl ?_
        exact cut_nrm [6, 5, 4, 3, 1] [0, 1, 2] rfl rfl
    rintro _ rfl
    generalize giveP f y = z at hst ⊢
    refine rn rfl ?_
    refine goal_did rfl rfl (dA_append (old := (acc).map eQ) (rows := ([z] : List Param).map eQ) (((acc) ++ ([z] : List Param)).map eQ) (acc.length + 1) true (Dst.own rfl rfl rfl rfl rfl (by first | (simp; done) | (simp; omega)) (whole (by first | (simp; done) | (simp; omega)))) (Src.os rfl rfl (Nat.le_refl 1) rfl) rfl rfl rfl rfl rfl rfl rfl rfl (rows_len eQ_len _) (rows_len eQ_len _) (by (try simp only [List.length_map, List.length_append, List.length_cons, List.length_nil, List.length_take, List.length_drop]); show _ * 40 ≤ _; omega) (by first | (simp; done) | (simp; omega)) (by simp) (by first | (simp; done) | (simp; omega)) (fun _ => noOwnR_map _ eQ_noOwn _)) ?_
    refine rn rfl ?_
    refine round_keep (s.length - (i + 1)) [5, 4, 3, 1] [0, 4] (by omega) rfl ⟨_, i + 1, acc.length + 1, acc ++ [z], wrap64 (by omega) (by omega), by omega, rfl, by simp, by rw [hst]; rfl, rfl⟩
  · refine rn rfl (round_ext ?_)
    refine rn rfl (fin_is [] rfl ⟨?_, rfl⟩)
    rw [takeAll eQ _ _ rfl, hacc, show i = s.length by omega, List.take_length]

theorem idxI_le {α : Type} {pred : α → Bool} : ∀ {xs : List α} {k i : Nat} {x : α}, xs[i]? = some x → pred x = true → 0 ≤ idxI pred xs k ∧ idxI pred xs k ≤ ((k + i : Nat) : Int)
  | y :: xs, k, 0, x, hx, hp => by
    simp at hx; subst hx
    simp [idxI, hp]
  | y :: xs, k, i + 1, x, hx, hp => by
    simp only [List.getElem?_cons_succ] at hx
    have := idxI_le (k := k + 1) hx hp
    unfold idxI
    split
    · omega
    · omega

theorem at_step {s : Sig} {f : Flat} {i : Nat} {x : Param} (hx : s[i]? = some x) :
    (decide (0 ≤ atQ s f) && decide (atQ s f ≤ i)) = ((decide (0 ≤ atQ s f) && decide (atQ s f < i)) || atP f x) := by
  cases ha : atP f x with
  | true =>
    have := idxI_le (k := 0) hx ha
    simp only [Bool.or_true, Bool.and_eq_true, decide_eq_true_eq]
    unfold atQ; omega
  | false =>
    rw [Bool.or_false]
    by_cases h0 : 0 ≤ atQ s f
    · obtain ⟨y, _, hy, hyp, _⟩ := idxI_find h0
      have hne : atQ s f ≠ i := fun h1 => by
        have : (idxI (atP f) s 0).toNat = i := by unfold atQ at h1; omega
        rw [this, hx] at hy
        cases hy
        rw [ha] at hyp; cases hyp
      have : (atQ s f ≤ i) ↔ (atQ s f < i) := by omega
      simp [this]
    · simp [h0]

theorem part_np {s : Sig} {f : Flat} (h : partQ s f = true) {i : Nat} {x : Param} (hx : s[i]? = some x) (hp : placedQ x = true) (hi : i < f.places.length) (hn : namedQ x = true) : f.named.any (nameIs x.name) = false := by
  simp only [partQ, Bool.and_eq_true, decide_eq_true_eq] at h
  obtain ⟨h1, h2⟩ := h
  obtain ⟨hs, hf⟩ := fitQ_iff.1 h1
  have hnd : (namesOf f.named).Nodup := by
    have := okFlat_iff.2 hf
    simp [okFlat] at this; exact this.1.1.1.2
  rw [bound_closed hs hnd] at h2
  simp only [closedQ, List.append_eq_nil_iff, List.filterMap_eq_nil_iff] at h2
  cases ha : f.named.any (nameIs x.name) with
  | false => rfl
  | true =>
    rw [List.any_eq_true] at ha
    obtain ⟨q, hq, hqn⟩ := ha
    simp only [nameIs, beq_iff_eq] at hqn
    have hw := h2.2 q hq
    have ht := takes_named hs hx hn
    rw [← hqn] at ht
    have hk := placed_kind.1 hp
    have hb : byPl f.places i x = true := by simp [byPl, hp, hi]
    unfold wrongQ at hw
    rw [ht] at hw
    simp only [Int.toNat_natCast, hx] at hw
    rw [if_neg (by omega), if_neg (by omega), if_pos hb] at hw
    cases hw

theorem np_at {s : Sig} {f : Flat} (h : partQ s f = true) {i : Nat} {x : Param} (hx : s[i]? = some x) (hp : placedQ x = true) (hi : i < f.places.length) : atP f x = false := by
  unfold atP
  cases hk : x.kind == 1 with
  | false => rfl
  | true =>
    rw [part_np h hx hp hi (by simp at hk; simp [namedQ, hk])]; rfl

theorem rest_at {s : Sig} {f : Flat} (hs : OkS s) {i : Nat} {x : Param} (hx : s[i]? = some x) (hk : x.kind = 2) : decide (0 ≤ atQ s f) = (decide (0 ≤ atQ s f) && decide (atQ s f ≤ i)) := by
  by_cases h0 : 0 ≤ atQ s f
  · obtain ⟨y, _, hy, hyp, hlt⟩ := idxI_find h0
    have hy1 : y.kind = 1 := by simp [atP] at hyp; exact hyp.1
    have : atQ s f ≤ i := by
      refine Classical.byContradiction fun hc => ?_
      have := hs.sorted ((idxI (atP f) s 0).toNat - i) i x y hx (by rw [show i + ((idxI (atP f) s 0).toNat - i) = (idxI (atP f) s 0).toNat by unfold atQ at hc; omega]; exact hy)
      omega
    simp [h0, this]
  · simp [h0]

theorem give_kind (f : Flat) (b : Bool) (q : Param) : giveP f (kindP b q) = kindP b (giveP f q) := by
  unfold giveP kindP namedQ
  obtain ⟨n, k, h, d⟩ := q
  by_cases h1 : k = 1
  · subst h1
    cases b <;> simp <;> split <;> simp
  · by_cases h3 : k = 3
    · subst h3
      simp; split <;> simp
    · simp [h1, h3]

def psQ (s : Sig) (f : Flat) : Sig := psL (atQ s f) f s

def PsF (s : Sig) (f : Flat) : Sig × Bool := if partQ s f && okSig (psQ s f) then (psQ s f, true) else ([], false)

theorem ipartialSig_ct (s : Sig) (f : Flat) (hp : LenPa ⟨s, f⟩) : ACalls pk 12 [.agg (ePa ⟨s, f⟩)] [] (fun r o => r = .tup [rG (PsF s f).1, .one (.bool (PsF s f).2)] ∧ o = oG (PsF s f).1) := by
  obtain ⟨s1, s2⟩ := hp.sig
  have f1 := hp.flat.places
  have f2 := hp.flat.named
  have hv : ACalls pk 58 [.agg (ePa ⟨s, f⟩)] [] (fun r o => r = .one (.bool (partQ s f)) ∧ o = []) := ivalidPartial_ct s f hp.sig hp.flat
  simp only at s1 f1 f2 s2
  refine acalls_of_body Try.func12 rfl (by kernel_rfl) rfl ?_
  refine rn rfl ?_
  refine goal_step (step_call [] rfl rfl rfl rfl rfl rfl (hv)) ?_
  rintro σ2 ⟨r, o', ⟨rfl, rfl⟩, hσ⟩
  obtain rfl := Option.some.inj hσ
  clear hσ
  refine rn rfl ?_
  refine goal_cond rfl (fun h => ?_) (fun h => ?_) <;> (try simp only [gt_iff_lt, ge_iff_le, bne_iff_ne, ne_eq, bne_eq_false_iff_eq, beq_iff_eq, beq_eq_false_iff_ne, Bool.not_eq_true', Bool.not_eq_false', decide_eq_true_eq, decide_eq_false_iff_not, List.length_map] at h)
  · refine rn rfl ?_
    refine fin_weak (Weak.adoptO 1 0 4) (fin_is [2] rfl ⟨?_, ?_⟩)
    · simp [PsF, h]; rfl
    · simp [PsF, h]; rfl
  have hq := h
  have hpart := h
  simp only [partQ, Bool.and_eq_true, decide_eq_true_eq] at hq
  obtain ⟨hs, hf⟩ := fitQ_iff.1 hq.1
  have hlen := hs.len
  refine rn rfl ?_
  refine goal_weakCod (Weak.adoptO 2 0 4) ?_
  refine goal_loop_keep (fun m σ => ∃ (q left L : Int) (i l : Nat) (acc : List Param) (tb : Bool), q = i ∧ L = s.length ∧ i ≤ s.length ∧ m = s.length - i ∧ l = acc.length ∧ acc = psL (atQ s f) f (s.take i) ∧ left = ((f.places.length - min i (placesQ s) : Nat) : Int) ∧
      tb = (decide (0 ≤ atQ s f) && decide (atQ s f < i)) ∧
      σ = ⟨[(22, .one (.int .i64 q)), (21, .one (.int .i64 L)), (20, .one (.fs (s.map eQ))), (6, .one (.bool tb)), (5, .one (.int .i64 left)), (4, .one (.op 2 0 0)), (2, .one (.op 1 0 0)), (1, .one (.op 0 0 0))],
        [some ⟨3, [ePa ⟨s, f⟩], false, false, true⟩, some ⟨1, [[.fs []]], false, false, true⟩, some ⟨1, [[.os 3 0 l l]], false, false, true⟩, ownQ acc], []⟩) s.length [22, 21, 20, 6, 5, 4, 2, 1] [0, 1, 2, 3] rfl
    ⟨_, _, _, 0, 0, [], _, rfl, ?_, by omega, by omega, rfl, rfl, ?_, ?_, rfl⟩ ?_
  · simp
  · simp
  · simp
  rintro m σ ⟨q, left, L, i, l, acc, tb, rfl, rfl, hi, rfl, rfl, hacc, rfl, htb, rfl⟩
  have hal := psL_len (atQ s f) f (s.take i)
  rw [← hacc, List.length_take] at hal
  have hP := placesQ_le s
  refine rn rfl ?_
  refine goal_cond rfl (fun h => ?_) (fun h => ?_) <;> (try simp only [gt_iff_lt, ge_iff_le, bne_iff_ne, ne_eq, bne_eq_false_iff_eq, beq_iff_eq, beq_eq_false_iff_ne, Bool.not_eq_true', Bool.not_eq_false', decide_eq_true_eq, decide_eq_false_iff_not, List.length_map] at h)
  · obtain ⟨x, hx⟩ := at_some (xs := s) (i := i) (by omega)
    have hst := psL_succ (at' := atQ s f) (f := f) hx
    rw [← hacc] at hst
    have hskip : skipP (atQ s f) f i x = true → psL (atQ s f) f (s.take (i + 1)) = acc := fun h0 => by rw [hst]; simp [partParam, h0]
    have hpi := hs.placed_iff hx
    have hstep := at_step (f := f) hx
    rw [← htb] at hstep
    have hlt : (decide (atQ s f < ((i + 1 : Nat) : Int))) = decide (atQ s f ≤ i) := by congr 1; simp; omega
    have hrest := fun hk => rest_at (f := f) hs hx hk
    have hnp := fun h1 h2 => np_at hpart hx h1 h2
    refine rn rfl ?_
    refine goal_did rfl rfl (dA_index (eQ x) rfl rfl rfl rfl rfl rfl rfl (by omega) (by (try simp); omega) (map_at (by simpa using hx)) rfl) ?_
    refine rt 9 rfl ?_
    refine goal_cutR (fun σ' => (placedQ x && decide (i < f.places.length)) = false ∧ σ' = ⟨[(22, .one (.int .i64 i)), (21, .one (.int .i64 s.length)), (20, .one (.fs (s.map eQ))), (8, .one (.op 4 0 0)), (6, .one (.bool tb)), (5, .one (.int .i64 (((f.places.length - min i (placesQ s) : Nat) : Int)))), (4, .one (.op 2 0 0)), (2, .one (.op 1 0 0)), (1, .one (.op 0 0 0))],
        [some ⟨3, [ePa ⟨s, f⟩], false, false, true⟩, some ⟨1, [[.fs []]], false, false, true⟩, some ⟨1, [[.os 3 0 acc.length acc.length]], false, false, true⟩, ownQ acc, some ⟨4, [eQ x], false, false, true⟩], []⟩) ?_ ?_
    · refine rn rfl ?_
      refine goal_step (step_call [] rfl rfl rfl rfl rfl rfl (iplaced_ct x)) ?_
      rintro σ2 ⟨r, o', ⟨rfl, rfl⟩, hσ⟩
      obtain rfl := Option.some.inj hσ
      clear hσ
      refine rn rfl ?_
      refine goal_guard rfl rfl rfl (fun h1 => ?_) (fun h1 => ?_) <;> (try simp only [gt_iff_lt, ge_iff_le, bne_iff_ne, ne_eq, bne_eq_false_iff_eq, beq_iff_eq, beq_eq_false_iff_ne, Bool.not_eq_true', Bool.not_eq_false', decide_eq_true_eq, decide_eq_false_iff_not, List.length_map] at h1)
      · have hip := hpi.1 h1
        refine rn rfl ?_
        refine goal_cond rfl (fun h2 => ?_) (fun h2 => ?_) <;> (try simp only [gt_iff_lt, ge_iff_le, bne_iff_ne, ne_eq, bne_eq_false_iff_eq, beq_iff_eq, beq_eq_false_iff_ne, Bool.not_eq_true', Bool.not_eq_false', decide_eq_true_eq, decide_eq_false_iff_not, List.length_map] at h2)
        · refine rn rfl ?_
          refine cut_ext ?_
          refine rn rfl ?_
          refine round_keep (s.length - (i + 1)) [22, 21, 20, 6, 5, 4, 2, 1] [0, 1, 2, 3] (by omega) rfl ⟨_, _, _, i + 1, acc.length, acc, tb, wrap64 (by omega) (by omega), rfl, by omega, rfl, rfl, (hskip (by simp [skipP, h1]; left; omega)).symm, ?_, ?_, rfl⟩
          · rw [wrap64 (by omega) (by omega)]; omega
          · rw [hlt, hstep, hnp h1 (by omega), Bool.or_false]
        · refine rn rfl ?_
          exact cut_nrm [22, 21, 20, 8, 6, 5, 4, 2, 1] [0, 1, 2, 3, 4] rfl ⟨by simp [h1]; omega, rfl⟩
      · refine rn rfl ?_
        exact cut_nrm [22, 21, 20, 8, 6, 5, 4, 2, 1] [0, 1, 2, 3, 4] rfl ⟨by simp [h1], rfl⟩
    rintro _ ⟨hns, rfl⟩
    have hmin : min (i + 1) (placesQ s) = min i (placesQ s) ∨ f.places.length ≤ min i (placesQ s) := by
      by_cases hip : i < placesQ s
      · right
        have := hpi.2 hip
        rw [this] at hns
        simp at hns
        omega
      · left; omega
    have hmin' : f.places.length - min (i + 1) (placesQ s) = f.places.length - min i (placesQ s) := by omega
    refine rn rfl ?_
    refine goal_step (step_call [] rfl rfl rfl rfl rfl rfl (ipairAt_ct f.named x.name (by omega))) ?_
    rintro σ2 ⟨r, o', ⟨rfl, rfl⟩, hσ⟩
    obtain rfl := Option.some.inj hσ
    clear hσ
    refine rt 12 rfl ?_
    refine goal_cutR (fun σ' => σ' = ⟨[(22, .one (.int .i64 i)), (21, .one (.int .i64 s.length)), (20, .one (.fs (s.map eQ))), (8, .one (.op 4 0 0)), (6, .one (.bool (tb || atP f x))), (5, .one (.int .i64 (((f.places.length - min i (placesQ s) : Nat) : Int)))), (4, .one (.op 2 0 0)), (2, .one (.op 1 0 0)), (1, .one (.op 0 0 0))],
        [some ⟨3, [ePa ⟨s, f⟩], false, false, true⟩, some ⟨1, [[.fs []]], false, false, true⟩, some ⟨1, [[.os 3 0 acc.length acc.length]], false, false, true⟩, ownQ acc, some ⟨4, [eQ (giveP f x)], false, false, true⟩], []⟩) ?_ ?_
    · refine rn rfl ?_
      refine goal_guard rfl rfl rfl (fun h1 => ?_) (fun h1 => ?_) <;> (try simp only [gt_iff_lt, ge_iff_le, bne_iff_ne, ne_eq, bne_eq_false_iff_eq, beq_iff_eq, beq_eq_false_iff_ne, Bool.not_eq_true', Bool.not_eq_false', decide_eq_true_eq, decide_eq_false_iff_not, List.length_map] at h1)
      · obtain ⟨r, hr1, hr2, hr3⟩ := pair_at h1
        have hany : f.named.any (nameIs x.name) = true := by rw [pair_any]; simpa using h1
        refine rn rfl ?_
        refine goal_step (step_call [] rfl rfl rfl rfl rfl rfl (inamed_ct x)) ?_
        rintro σ2 ⟨r, o', ⟨rfl, rfl⟩, hσ⟩
        obtain rfl := Option.some.inj hσ
        clear hσ
        refine rn rfl ?_
        refine goal_cond rfl (fun h2 => ?_) (fun h2 => ?_) <;> (try simp only [gt_iff_lt, ge_iff_le, bne_iff_ne, ne_eq, bne_eq_false_iff_eq, beq_iff_eq, beq_eq_false_iff_ne, Bool.not_eq_true', Bool.not_eq_false', decide_eq_true_eq, decide_eq_false_iff_not, List.length_map] at h2)
        · have hg : giveP f x = ⟨x.name, x.kind, true, r.value⟩ := by unfold giveP; rw [if_pos h2, hr1]
          rw [hg]
          refine rn rfl ?_
          refine goal_draw' [0] 11 rfl ?_
          refine drn [0, 1, 2, 3, 7] (by kernel_rfl) (by kernel_rfl) rfl rfl ?_
          refine AH_did 4 rfl (by kernel_rfl) (by kernel_rfl) (by kernel_rfl) rfl rfl (dA_index (eP r) rfl rfl rfl rfl rfl rfl rfl (by omega) (by (try simp); omega) (map_at (by simpa using hr2)) rfl) ?_
          refine drn [5, 6] (by kernel_rfl) (by kernel_rfl) rfl rfl ?_
          refine AH_oneDid 8 rfl (by kernel_rfl) rfl (dA_step rfl) (mdOk rfl) ?_
          refine drn [9] (by kernel_rfl) (by kernel_rfl) rfl rfl ?_
          refine AH_oneDid 10 rfl (by kernel_rfl) rfl (dA_step rfl) (mdOk rfl) ?_
          refine AH_end (by kernel_rfl) ?_
          refine rn rfl ?_
          refine rn rfl ?_
          refine goal_guard rfl rfl rfl (fun h5 => ?_) (fun h5 => ?_)
          · have ht : (tb || atP f x) = true := by rw [h5]; rfl
            rw [ht]
            refine rn rfl ?_
            exact cut_nrm [22, 21, 20, 8, 6, 5, 4, 2, 1] [0, 1, 2, 3, 4] rfl rfl
          · have ht : (tb || atP f x) = (x.kind == 1) := by rw [h5]; simp [atP, hany]
            rw [ht]
            refine rn rfl ?_
            exact cut_nrm [22, 21, 20, 8, 6, 5, 4, 2, 1] [0, 1, 2, 3, 4] rfl rfl
        · have hg : giveP f x = x := by unfold giveP; rw [if_neg (by simp [h2])]
          have ht : (tb || atP f x) = tb := by
            have : (x.kind == 1) = false := by simp [namedQ] at h2; simp [h2]
            simp [atP, this]
          rw [hg, ht]
          refine rn rfl ?_
          exact cut_nrm [22, 21, 20, 8, 6, 5, 4, 2, 1] [0, 1, 2, 3, 4] rfl rfl
      · have hg : giveP f x = x := by unfold giveP; rw [pair_none (by omega)]; split <;> rfl
        have hany : f.named.any (nameIs x.name) = false := by rw [pair_any]; simpa using h1
        have ht : (tb || atP f x) = tb := by simp [atP, hany]
        rw [hg, ht]
        refine rn rfl ?_
        exact cut_nrm [22, 21, 20, 8, 6, 5, 4, 2, 1] [0, 1, 2, 3, 4] rfl rfl
    rintro _ rfl
    rw [← hstep]
    have hyk : (giveP f x).kind = x.kind := by unfold giveP; split <;> (try split) <;> rfl
    have hpp : skipP (atQ s f) f i x = false → partParam (atQ s f) f i x = some (kindP (decide (0 ≤ atQ s f) && decide (atQ s f ≤ i)) (giveP f x)) := fun h0 => by simp [partParam, h0, give_kind]
    generalize htc : (decide (0 ≤ atQ s f) && decide (atQ s f ≤ (i : Int))) = tc at hpp hrest ⊢
    generalize giveP f x = y at hyk hpp ⊢
    refine rt 15 rfl ?_
    refine goal_cutR (fun σ' => skipP (atQ s f) f i x = false ∧ σ' = ⟨[(22, .one (.int .i64 i)), (21, .one (.int .i64 s.length)), (20, .one (.fs (s.map eQ))), (8, .one (.op 4 0 0)), (6, .one (.bool tc)), (5, .one (.int .i64 (((f.places.length - min i (placesQ s) : Nat) : Int)))), (4, .one (.op 2 0 0)), (2, .one (.op 1 0 0)), (1, .one (.op 0 0 0))],
        [some ⟨3, [ePa ⟨s, f⟩], false, false, true⟩, some ⟨1, [[.fs []]], false, false, true⟩, some ⟨1, [[.os 3 0 acc.length acc.length]], false, false, true⟩, ownQ acc, some ⟨4, [eQ y], false, false, true⟩], []⟩) ?_ ?_
    · refine rn rfl ?_
      refine goal_guard rfl rfl rfl (fun h1 => ?_) (fun h1 => ?_)
      · refine rn rfl ?_
        refine goal_cond rfl (fun h2 => ?_) (fun h2 => ?_) <;> (try simp only [gt_iff_lt, ge_iff_le, bne_iff_ne, ne_eq, bne_eq_false_iff_eq, beq_iff_eq, beq_eq_false_iff_ne, Bool.not_eq_true', Bool.not_eq_false', decide_eq_true_eq, decide_eq_false_iff_not, List.length_map] at h2)
        · refine rn rfl ?_
          refine cut_ext ?_
          refine rn rfl ?_
          rw [hyk] at h2
          have hA := hrest h2
          rw [h1] at hA
          refine round_keep (s.length - (i + 1)) [22, 21, 20, 6, 5, 4, 2, 1] [0, 1, 2, 3] (by omega) rfl ⟨_, _, _, i + 1, acc.length, acc, tc, wrap64 (by omega) (by omega), rfl, by omega, rfl, rfl, (hskip (by simp [skipP, h2]; right; simpa using hA)).symm, by rw [hmin'], by rw [hlt, htc], rfl⟩
        · refine rn rfl ?_
          rw [hyk] at h2
          exact cut_nrm [22, 21, 20, 8, 6, 5, 4, 2, 1] [0, 1, 2, 3, 4] rfl ⟨by simp only [skipP, hns]; simp [h2], rfl⟩
      · refine rn rfl ?_
        have hk2 : (x.kind == 2 && decide (0 ≤ atQ s f)) = false := by
          cases hk : x.kind == 2 with
          | false => rfl
          | true => rw [hrest (by simpa using hk), h1]; rfl
        exact cut_nrm [22, 21, 20, 8, 6, 5, 4, 2, 1] [0, 1, 2, 3, 4] rfl ⟨by simp only [skipP, hns, hk2]; rfl, rfl⟩
    rintro _ ⟨hnsk, rfl⟩
    rw [hpp hnsk] at hst
    refine rt 16 rfl ?_
    refine goal_cutR (fun σ' => σ' = ⟨[(22, .one (.int .i64 i)), (21, .one (.int .i64 s.length)), (20, .one (.fs (s.map eQ))), (8, .one (.op 4 0 0)), (6, .one (.bool tc)), (5, .one (.int .i64 (((f.places.length - min i (placesQ s) : Nat) : Int)))), (4, .one (.op 2 0 0)), (2, .one (.op 1 0 0)), (1, .one (.op 0 0 0))],
        [some ⟨3, [ePa ⟨s, f⟩], false, false, true⟩, some ⟨1, [[.fs []]], false, false, true⟩, some ⟨1, [[.os 3 0 acc.length acc.length]], false, false, true⟩, ownQ acc, some ⟨4, [eQ (kindP tc y)], false, false, true⟩], []⟩) ?_ ?_
    · refine rn rfl ?_
      refine goal_guard rfl rfl rfl (fun h1 => ?_) (fun h1 => ?_)
      · refine rn rfl ?_
        refine goal_cond rfl (fun h2 => ?_) (fun h2 => ?_) <;> (try simp only [gt_iff_lt, ge_iff_le, bne_iff_ne, ne_eq, bne_eq_false_iff_eq, beq_iff_eq, beq_eq_false_iff_ne, Bool.not_eq_true', Bool.not_eq_false', decide_eq_true_eq, decide_eq_false_iff_not, List.length_map] at h2)
        · have hk : kindP tc y = ⟨y.name, 3, y.hasD, y.dflt⟩ := by unfold kindP; rw [if_pos]; simp [h1, h2]
          rw [hk]
          refine rn rfl ?_
          exact cut_nrm [22, 21, 20, 8, 6, 5, 4, 2, 1] [0, 1, 2, 3, 4] rfl rfl
        · have hk : kindP tc y = y := by unfold kindP; rw [if_neg]; simp [h2]
          rw [hk]
          refine rn rfl ?_
          exact cut_nrm [22, 21, 20, 8, 6, 5, 4, 2, 1] [0, 1, 2, 3, 4] rfl rfl
      · have hk : kindP tc y = y := by unfold kindP; rw [if_neg]; simp [h1]
        rw [hk]
        refine rn rfl ?_
        exact cut_nrm [22, 21, 20, 8, 6, 5, 4, 2, 1] [0, 1, 2, 3, 4] rfl rfl
    rintro _ rfl
    generalize kindP tc y = z at hst ⊢
    refine rn rfl ?_
    refine goal_did rfl rfl (dA_append (old := (acc).map eQ) (rows := ([z] : List Param).map eQ) (((acc) ++ ([z] : List Param)).map eQ) (acc.length + 1) true (Dst.own rfl rfl rfl rfl rfl (by first | (simp; done) | (simp; omega)) (whole (by first | (simp; done) | (simp; omega)))) (Src.os rfl rfl (Nat.le_refl 1) rfl) rfl rfl rfl rfl rfl rfl rfl rfl (rows_len eQ_len _) (rows_len eQ_len _) (by (try simp only [List.length_map, List.length_append, List.length_cons, List.length_nil, List.length_take, List.length_drop]); show _ * 40 ≤ _; omega) (by first | (simp; done) | (simp; omega)) (by simp) (by first | (simp; done) | (simp; omega)) (fun _ => noOwnR_map _ eQ_noOwn _)) ?_
    refine rn rfl ?_
    refine round_keep (s.length - (i + 1)) [22, 21, 20, 6, 5, 4, 2, 1] [0, 1, 2, 6] (by omega) rfl ⟨_, _, _, i + 1, acc.length + 1, acc ++ [z], tc, wrap64 (by omega) (by omega), rfl, by omega, rfl, by simp, by rw [hst]; rfl, by rw [hmin'], by rw [hlt, htc], rfl⟩
  · refine rn rfl (round_ext ?_)
    have hfin : acc = psQ s f := by rw [hacc, show i = s.length by omega, List.take_length]; rfl
    have han : ∀ p ∈ acc, p.name.length ≤ 9223372036854775807 := by rw [hfin]; exact psL_names s2
    refine rn rfl ?_
    refine goal_step (step_lendE [] rfl rfl rfl rfl rfl rfl rfl (cons_eq (asG acc) rfl) (ivalidSig_ct acc (by omega) han) (by rintro r o ⟨rfl, rfl⟩; exact ⟨rfl, rfl⟩)) ?_
    rintro σ2 ⟨r, o', ⟨rfl, rfl⟩, hσ⟩
    obtain rfl := Option.some.inj hσ
    clear hσ
    refine rn rfl ?_
    refine goal_cond rfl (fun h2 => ?_) (fun h2 => ?_) <;> (try simp only [gt_iff_lt, ge_iff_le, bne_iff_ne, ne_eq, bne_eq_false_iff_eq, beq_iff_eq, beq_eq_false_iff_ne, Bool.not_eq_true', Bool.not_eq_false', decide_eq_true_eq, decide_eq_false_iff_not, List.length_map] at h2)
    · refine rn rfl ?_
      refine fin_weak (Weak.adoptO 1 0 4) (fin_is [4] rfl ⟨?_, ?_⟩)
      · simp [PsF, hpart, ← hfin, h2]; rfl
      · simp [PsF, hpart, ← hfin, h2]; rfl
    · refine rn rfl ?_
      refine goal_step (step_callE [] rfl rfl rfl rfl rfl rfl (cons_eq (asG acc) rfl) (icopySig_ct acc (by omega))) ?_
      rintro σ2 ⟨r, o', ⟨rfl, rfl⟩, hσ⟩
      obtain rfl := Option.some.inj hσ
      clear hσ
      refine rn rfl ?_
      refine rn rfl (fin_is [4] rfl ⟨?_, ?_⟩)
      · simp [PsF, hpart, ← hfin, h2]; rfl
      · simp [PsF, hpart, ← hfin, h2]; rfl

theorem spartialSig_ct (s : Sig) (f : Flat) (hp : LenPa ⟨s, f⟩) : ACalls pk 13 [.agg (ePa ⟨s, f⟩)] [] (fun r o => r = .tup [.agg (eG (PsF s f).1), .one (.bool (PsF s f).2)] ∧ o = []) := by
  obtain ⟨s1, s2⟩ := hp.sig
  have hv : ACalls pk 64 [.agg (ePa ⟨s, f⟩)] [] (fun r o => r = .one (.bool (partQ s f)) ∧ o = []) := svalidPartial_ct s f hp.sig hp.flat
  simp only at s1 s2
  refine acalls_of_body Try.func13 rfl (by kernel_rfl) rfl ?_
  refine rn rfl ?_
  refine goal_step (step_call [] rfl rfl rfl rfl rfl rfl (hv)) ?_
  rintro σ2 ⟨r, o', ⟨rfl, rfl⟩, hσ⟩
  obtain rfl := Option.some.inj hσ
  clear hσ
  refine rn rfl ?_
  refine goal_cond rfl (fun h => ?_) (fun h => ?_) <;> (try simp only [gt_iff_lt, ge_iff_le, bne_iff_ne, ne_eq, bne_eq_false_iff_eq, beq_iff_eq, beq_eq_false_iff_ne, Bool.not_eq_true', Bool.not_eq_false', decide_eq_true_eq, decide_eq_false_iff_not, List.length_map] at h)
  · refine rn rfl (fin_is [] rfl ⟨?_, rfl⟩)
    simp [PsF, h]; rfl
  have hq := h
  simp only [partQ, Bool.and_eq_true, decide_eq_true_eq] at hq
  obtain ⟨hs, hf⟩ := fitQ_iff.1 hq.1
  have hlen := hs.len
  have hl := psL_len (atQ s f) f s
  refine rn rfl ?_
  refine goal_step (step_call [] rfl rfl rfl rfl rfl rfl (partialParams_ct s f hp (by omega))) ?_
  rintro σ2 ⟨r, o', ⟨rfl, rfl⟩, hσ⟩
  obtain rfl := Option.some.inj hσ
  clear hσ
  refine rn rfl ?_
  refine goal_step (step_call [] rfl rfl rfl rfl rfl rfl (checkedSig_ct (psQ s f) (by show (psL _ _ _).length ≤ _; omega) (psL_names s2))) ?_
  rintro σ2 ⟨r, o', ⟨rfl, rfl⟩, hσ⟩
  obtain rfl := Option.some.inj hσ
  clear hσ
  refine rn rfl ?_
  refine rn rfl (fin_is [] rfl ⟨?_, rfl⟩)
  have e : PsF s f = checkG (psQ s f) := by unfold PsF checkG; simp [h]
  rw [e]; rfl

theorem psF_len (s : Sig) (f : Flat) : (PsF s f).1.length ≤ 8 := by
  unfold PsF
  split
  · rename_i h
    simp only [Bool.and_eq_true] at h
    exact (okSig_iff.1 h.2).len
  · simp

theorem oG_noFz (s : Sig) : noFzO (oG s) = true := by simp [oG, ownQ, noFzO, noFzR_map eQ (fun _ => rfl)]

theorem rG_no (s : Sig) (b : Bool) : ∀ r o, (r = .tup [rG s, .one (.bool b)] ∧ o = oG s) → noFzT r = true ∧ noFzO o = true := by
  rintro r o ⟨rfl, rfl⟩; exact ⟨rfl, oG_noFz s⟩

theorem fnExactPartialSignature_ct (p : Part) (hp : FitsP p) : ACalls pk 5 [.agg (ePa p)] [] (fun r o => r = .one (.bool true) ∧ o = []) := by
  refine acalls_of_body Try.func5 rfl (by kernel_rfl) rfl ?_
  refine rn rfl ?_
  refine goal_step (step_call [] rfl rfl rfl rfl rfl rfl (szPart_ct p 1048576 (by omega) (by omega) hp)) ?_
  rintro σ2 ⟨r, o', ⟨rfl, rfl⟩, hσ⟩
  obtain rfl := Option.some.inj hσ
  clear hσ
  refine rn rfl ?_
  refine goal_cond rfl (fun h => ?_) (fun h => ?_) <;> (try simp only [gt_iff_lt, ge_iff_le, bne_iff_ne, ne_eq, bne_eq_false_iff_eq, beq_iff_eq, beq_eq_false_iff_ne, Bool.not_eq_true', Bool.not_eq_false', decide_eq_true_eq, decide_eq_false_iff_not, List.length_map] at h)
  · exact rn rfl (fin_is [] rfl ⟨rfl, rfl⟩)
  obtain ⟨p0, p1, p2, p3⟩ := szPart_ok (by omega) (by omega) h
  have lp : LenPa p := ⟨⟨by omega, hp.sig.names⟩, ⟨by omega, by omega, hp.flat.names⟩⟩
  have g1 := psF_len p.sig p.flat
  have hi : ACalls pk 12 [.agg (ePa p)] [] _ := ipartialSig_ct p.sig p.flat lp
  have hs : ACalls pk 13 [.agg (ePa p)] [] _ := spartialSig_ct p.sig p.flat lp
  generalize (PsF p.sig p.flat).1 = R at *
  generalize (PsF p.sig p.flat).2 = b at *
  refine rn rfl ?_
  refine goal_step (step_call [] rfl rfl rfl rfl rfl rfl (toPartD_ct p (by omega) (by omega) (by omega))) ?_
  rintro σ2 ⟨r, o', ⟨rfl, rfl⟩, hσ⟩
  obtain rfl := Option.some.inj hσ
  clear hσ
  refine rn rfl ?_
  refine goal_step (step_call [] rfl rfl rfl rfl rfl rfl (hs)) ?_
  rintro σ2 ⟨r, o', ⟨rfl, rfl⟩, hσ⟩
  obtain rfl := Option.some.inj hσ
  clear hσ
  refine rn rfl ?_
  refine rn rfl ?_
  refine goal_step (step_call [] rfl rfl rfl rfl rfl rfl (toPart_ct p (by omega) (by omega) (by omega))) ?_
  rintro σ2 ⟨r, o', ⟨rfl, rfl⟩, hσ⟩
  obtain rfl := Option.some.inj hσ
  clear hσ
  refine rn rfl ?_
  refine rn rfl ?_
  refine goal_step (step_lendE [] rfl rfl rfl rfl rfl rfl rfl (cons_eq (asPa p) rfl) (hi) (rG_no R b)) ?_
  rintro σ2 ⟨r, o', ⟨rfl, rfl⟩, hσ⟩
  obtain rfl := Option.some.inj hσ
  clear hσ
  refine rn rfl ?_
  refine goal_step (step_lendE [] rfl rfl rfl rfl rfl rfl rfl (cons_eq (asG R) rfl) (eqSig_ct R (by omega)) (by rintro r o ⟨rfl, rfl⟩; exact ⟨rfl, rfl⟩)) ?_
  rintro σ2 ⟨r, o', ⟨rfl, rfl⟩, hσ⟩
  obtain rfl := Option.some.inj hσ
  clear hσ
  refine rn rfl ?_
  refine goal_guard rfl rfl rfl (fun h1 => by cases h1) (fun _ => ?_)
  refine rn rfl ?_
  refine goal_cond rfl (fun h => by simp at h) (fun _ => ?_)
  refine rn rfl ?_
  refine goal_draw' [0, 5] 5 rfl ?_
  refine drn [0, 1] (by kernel_rfl) (by kernel_rfl) rfl rfl ?_
  refine AH_one (i := 2) (by kernel_rfl) (step_call [] rfl rfl rfl rfl rfl rfl (toPartD_ct p (by omega) (by omega) (by omega))) (by simp) ?_
  rintro σ2 ⟨r, o', ⟨rfl, rfl⟩, hσ⟩
  obtain rfl := Option.some.inj hσ
  clear hσ
  refine AH_one (i := 3) (by kernel_rfl) (step_lendE [] rfl rfl rfl rfl rfl rfl rfl (cons_eq (asPa p) rfl) (eqPart_ct p (by omega) (by omega) (by omega)) (by rintro r o ⟨rfl, rfl⟩; exact ⟨rfl, rfl⟩)) (by simp) ?_
  rintro σ2 ⟨r, o', ⟨rfl, rfl⟩, hσ⟩
  obtain rfl := Option.some.inj hσ
  clear hσ
  refine drn [4] (by kernel_rfl) (by kernel_rfl) rfl rfl ?_
  refine AH_end (by kernel_rfl) ?_
  refine rn rfl ?_
  refine goal_cond rfl (fun h => by simp at h) (fun _ => ?_)
  refine rn rfl ?_
  refine goal_step (step_call [2, 3, 4] rfl rfl rfl rfl rfl rfl (markPart_ct p 1 (by omega) (by omega) (by omega) (by omega) (by omega))) ?_
  rintro σ2 ⟨r, o', ⟨rfl, rfl⟩, hσ⟩
  obtain rfl := Option.some.inj hσ
  clear hσ
  refine rn rfl ?_
  refine rn rfl ?_
  refine goal_guard rfl rfl rfl (fun h => ?_) (fun h => ?_) <;> (try simp only [gt_iff_lt, ge_iff_le, bne_iff_ne, ne_eq, bne_eq_false_iff_eq, beq_iff_eq, beq_eq_false_iff_ne, Bool.not_eq_true', Bool.not_eq_false', decide_eq_true_eq, decide_eq_false_iff_not, List.length_map] at h)
  · omega
  refine rn rfl ?_
  refine goal_step (step_lendE [] rfl rfl rfl rfl rfl rfl rfl (cons_eq (asG R) rfl) (eqSig_ct R (by omega)) (by rintro r o ⟨rfl, rfl⟩; exact ⟨rfl, rfl⟩)) ?_
  rintro σ2 ⟨r, o', ⟨rfl, rfl⟩, hσ⟩
  obtain rfl := Option.some.inj hσ
  clear hσ
  refine rn rfl ?_
  refine goal_guard rfl rfl rfl (fun h1 => by cases h1) (fun _ => ?_)
  refine rn rfl ?_
  refine goal_cond rfl (fun h => by simp at h) (fun _ => ?_)
  refine rn rfl ?_
  refine goal_step (step_call [6] rfl rfl rfl rfl rfl rfl (markSig_ct R 1 _ (by omega) (by omega) (by omega))) ?_
  rintro σ2 ⟨r, o', ⟨rfl, rfl⟩, hσ⟩
  obtain rfl := Option.some.inj hσ
  clear hσ
  refine rn rfl ?_
  refine rn rfl ?_
  refine goal_step (step_lendE [] rfl rfl rfl rfl rfl rfl rfl (congrArg (fun t => [T.agg [C.fs t], T.one (.int .i64 1)]) (takeAll eQ _ _ (seqQ_length _ _))) (heldSig_ct R.length 1 (by omega) (by omega) (by omega)) (by rintro r o ⟨rfl, rfl⟩; exact ⟨rfl, rfl⟩)) ?_
  rintro σ2 ⟨r, o', ⟨rfl, rfl⟩, hσ⟩
  obtain rfl := Option.some.inj hσ
  clear hσ
  refine rn rfl ?_
  refine goal_cond rfl (fun h => ?_) (fun h => ?_) <;> simp only [decide_eq_true_eq, decide_eq_false_iff_not] at h
  · omega
  refine rn rfl ?_
  refine goal_cond rfl (fun h => by simp at h) (fun _ => ?_)
  refine rn rfl ?_
  refine goal_step (step_call [] rfl rfl rfl rfl rfl rfl (toPartD_ct p (by omega) (by omega) (by omega))) ?_
  rintro σ2 ⟨r, o', ⟨rfl, rfl⟩, hσ⟩
  obtain rfl := Option.some.inj hσ
  clear hσ
  refine rn rfl ?_
  refine goal_step (step_callE [] rfl rfl rfl rfl rfl rfl (rfl) (hi)) ?_
  rintro σ2 ⟨r, o', ⟨rfl, rfl⟩, hσ⟩
  obtain rfl := Option.some.inj hσ
  clear hσ
  refine rn rfl ?_
  refine goal_step (step_lendE [] rfl rfl rfl rfl rfl rfl rfl (cons_eq (asG R) rfl) (eqSig_ct R (by omega)) (by rintro r o ⟨rfl, rfl⟩; exact ⟨rfl, rfl⟩)) ?_
  rintro σ2 ⟨r, o', ⟨rfl, rfl⟩, hσ⟩
  obtain rfl := Option.some.inj hσ
  clear hσ
  refine rn rfl ?_
  refine goal_guard rfl rfl rfl (fun h1 => by cases h1) (fun _ => ?_)
  refine rn rfl ?_
  refine goal_cond rfl (fun h => by simp at h) (fun _ => ?_)
  refine rn rfl ?_
  refine goal_step (step_lendE [] rfl rfl rfl rfl rfl rfl rfl (congrArg (fun t => [T.agg [C.fs t], T.one (.int .i64 1)]) (takeAll eQ _ _ (seqQ_length _ _))) (heldSig_ct R.length 1 (by omega) (by omega) (by omega)) (by rintro r o ⟨rfl, rfl⟩; exact ⟨rfl, rfl⟩)) ?_
  rintro σ2 ⟨r, o', ⟨rfl, rfl⟩, hσ⟩
  obtain rfl := Option.some.inj hσ
  clear hσ
  refine rn rfl ?_
  refine goal_cond rfl (fun h => ?_) (fun h => ?_) <;> simp only [decide_eq_true_eq, decide_eq_false_iff_not] at h
  · omega
  refine rn rfl ?_
  refine goal_cond rfl (fun h => by simp at h) (fun _ => ?_)
  exact rn rfl (fin_is [] rfl ⟨rfl, rfl⟩)

end Go.Proofs.Ytodggffbepfemaa
