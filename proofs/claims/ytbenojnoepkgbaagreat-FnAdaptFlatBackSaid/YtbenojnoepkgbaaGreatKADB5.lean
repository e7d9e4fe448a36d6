/- Part 5 of the proof: an abstract machine over the model; contracts of the functions that the law reaches. -/
import Derived.Test.YtbenojnoepkgbaaGreatKADB4
set_option linter.unusedVariables false
set_option linter.unusedSimpArgs false
namespace Go.Proofs.YtbenojnoepkgbaaGreat
open Go
set_option maxRecDepth 100000
set_option maxHeartbeats 1000000

theorem perm_of_sub {α : Type} [DecidableEq α] : ∀ (xs ys : List α), xs.Nodup → (∀ x ∈ xs, x ∈ ys) → ys.length ≤ xs.length → xs.Perm ys
  | [], ys, _, _, hl => by
    have : ys = [] := List.eq_nil_of_length_eq_zero (by simpa using hl)
    subst this; exact List.Perm.refl _
  | x :: xs, ys, hd, hm, hl => by
    rw [List.nodup_cons] at hd
    have hx := hm x (by simp)
    have h2 := List.length_erase_of_mem hx
    have h3 : 0 < ys.length := List.length_pos_of_mem hx
    simp only [List.length_cons] at hl
    have ih := perm_of_sub xs (ys.erase x) hd.2 (fun y hy => by
      have hne : y ≠ x := fun h0 => hd.1 (h0 ▸ hy)
      exact (List.mem_erase_of_ne hne).2 (hm y (by simp [hy]))) (by omega)
    exact (List.Perm.cons x ih).trans (List.perm_cons_erase hx).symm

theorem pairs_nodup {qs : List Pair} (h : (namesOf qs).Nodup) : qs.Nodup := by
  unfold namesOf at h
  exact (List.pairwise_map.1 h).imp (fun hne he => hne (by rw [he]))

theorem same_iff {a b : List Pair} (ha : (namesOf a).Nodup) (hb : (namesOf b).Nodup) (hl : a.length = b.length) : isortL ltN a = isortL ltN b ↔ ∀ q ∈ a, q ∈ b := by
  rw [sort_iff ha hb]
  constructor
  · intro h q hq; exact h.mem_iff.1 hq
  · intro h; exact perm_of_sub a b (pairs_nodup ha) h (by omega)

theorem isort_len {a b : List Pair} (h : isortL ltN a = isortL ltN b) : a.length = b.length := by
  have := congrArg List.length h
  rwa [isortL_length, isortL_length] at this

theorem ssameFlat_ct (f g : Flat) (hf : (namesOf f.named).Nodup) (hg : (namesOf g.named).Nodup) (h1 : f.places.length ≤ 1048576) (h2 : f.named.length ≤ 1048576) (h3 : g.named.length ≤ 1048576) :
    ACalls pk 182 [.agg (eF f), .agg (eF g)] [] (fun r o => r = .one (.bool (decide (f.places = g.places) && decide (isortL ltN f.named = isortL ltN g.named))) ∧ o = []) := by
  refine acalls_of_body Tryz.func182 rfl (by kernel_rfl) rfl ?_
  refine rn rfl ?_
  refine goal_guard rfl rfl rfl (fun h0 => ?_) (fun h0 => ?_) <;> simp only [List.length_map, bne_iff_ne, ne_eq, bne_eq_false_iff_eq] at h0
  · refine rn rfl (fin_is [] rfl ⟨?_, rfl⟩)
    have : f.places ≠ g.places := fun h => h0 (by rw [h])
    simp [this]
  have hpl : f.places.length = g.places.length := by omega
  refine rn rfl ?_
  refine goal_cond rfl (fun h0 => ?_) (fun h0 => ?_) <;> simp only [List.length_map, bne_iff_ne, ne_eq, bne_eq_false_iff_eq] at h0
  · refine rn rfl (fin_is [] rfl ⟨?_, rfl⟩)
    have : isortL ltN f.named ≠ isortL ltN g.named := fun h => h0 (by rw [isort_len h])
    simp [this]
  have hnl : f.named.length = g.named.length := by omega
  refine rn rfl ?_
  refine goal_loop_keep (fun m σ => ∃ (n : Int) (i : Nat), n = i ∧ i ≤ f.places.length ∧ m = f.places.length - i ∧ f.places.take i = g.places.take i ∧
      σ = ⟨[(5, .one (.int .i64 n)), (3, .one (.op 1 0 0)), (2, .one (.op 0 0 0))], [some ⟨2, [eF f], false, false, true⟩, some ⟨2, [eF g], false, false, true⟩], []⟩) f.places.length [5, 3, 2] [0, 1] rfl
    ⟨_, 0, rfl, by omega, by omega, rfl, rfl⟩ ?_
  rintro m σ ⟨n, i, rfl, hi, rfl, hpre, rfl⟩
  refine rn rfl ?_
  refine goal_cond rfl (fun h4 => ?_) (fun h4 => ?_) <;> (try simp only [gt_iff_lt, ge_iff_le, bne_iff_ne, ne_eq, bne_eq_false_iff_eq, beq_iff_eq, beq_eq_false_iff_ne, Bool.not_eq_true', Bool.not_eq_false', decide_eq_true_eq, decide_eq_false_iff_not, List.length_map] at h4)
  · obtain ⟨x, hxi⟩ := at_some (xs := f.places) (i := i) (by omega)
    obtain ⟨y, hyi⟩ := at_some (xs := g.places) (i := i) (by omega)
    have hstep := take_eq_step hpre hxi hyi
    refine rn rfl ?_
    refine goal_draw' [0, 1] 11 rfl ?_
    refine drn [0, 1, 2, 5, 6, 7] (by kernel_rfl) (by kernel_rfl) rfl rfl ?_
    refine AH_did 3 rfl (by kernel_rfl) (by kernel_rfl) (by kernel_rfl) rfl rfl (dA_index (eI x) rfl rfl rfl rfl rfl rfl rfl (by omega) (by (try simp); omega) (map_at (by simpa using hxi)) rfl) ?_
    refine drn [4] (by kernel_rfl) (by kernel_rfl) rfl rfl ?_
    refine AH_did 8 rfl (by kernel_rfl) (by kernel_rfl) (by kernel_rfl) rfl rfl (dA_index (eI y) rfl rfl rfl rfl rfl rfl rfl (by omega) (by (try simp); omega) (map_at (by simpa using hyi)) rfl) ?_
    refine drn [9, 10] (by kernel_rfl) (by kernel_rfl) rfl rfl ?_
    refine AH_end (by kernel_rfl) ?_
    refine rn rfl ?_
    refine goal_cond rfl (fun h5 => ?_) (fun h5 => ?_) <;> simp only [bne_iff_ne, ne_eq, bne_eq_false_iff_eq] at h5
    · refine rn rfl (round_ret (fin_is [] rfl ⟨?_, rfl⟩))
      have : f.places ≠ g.places := fun h0 => h5 (hstep.1 (by rw [h0]))
      simp [this]
    · refine rn rfl ?_
      refine round_keep (f.places.length - (i + 1)) [5, 3, 2] [0, 1] (by omega) rfl ⟨_, i + 1, wrap64 (by omega) (by omega), by omega, rfl, hstep.2 h5, rfl⟩
  · refine rn rfl (round_ext ?_)
    have hpe : f.places = g.places := by
      rw [show i = f.places.length by omega, List.take_length, hpl, List.take_length] at hpre
      exact hpre
    rw [decide_eq_true hpe, Bool.true_and]
    refine rn rfl ?_
    refine goal_loop_keep (fun m σ => ∃ (n : Int) (i : Nat), n = i ∧ i ≤ f.named.length ∧ m = f.named.length - i ∧ (∀ q ∈ f.named.take i, q ∈ g.named) ∧
        σ = ⟨[(6, .one (.int .i64 n)), (3, .one (.op 1 0 0)), (2, .one (.op 0 0 0))], [some ⟨2, [eF f], false, false, true⟩, some ⟨2, [eF g], false, false, true⟩], []⟩) f.named.length [6, 3, 2] [0, 1] rfl
      ⟨_, 0, rfl, by omega, by omega, by simp, rfl⟩ ?_
    rintro m σ ⟨n, k, rfl, hk, rfl, hall, rfl⟩
    refine rn rfl ?_
    refine goal_cond rfl (fun h5 => ?_) (fun h5 => ?_) <;> (try simp only [gt_iff_lt, ge_iff_le, bne_iff_ne, ne_eq, bne_eq_false_iff_eq, beq_iff_eq, beq_eq_false_iff_ne, Bool.not_eq_true', Bool.not_eq_false', decide_eq_true_eq, decide_eq_false_iff_not, List.length_map] at h5)
    · obtain ⟨q, hq⟩ := at_some (xs := f.named) (i := k) (by omega)
      have hmem : q ∈ g.named → pairIx g.named q.name = pairIx g.named q.name ∧ 0 ≤ pairIx g.named q.name := fun h => ⟨rfl, idxI_ge.2 (List.any_eq_true.2 ⟨q, h, by simp [nameIs]⟩)⟩
      have hno : q ∉ g.named → decide (isortL ltN f.named = isortL ltN g.named) = false := fun h => by
        rw [decide_eq_false_iff_not, same_iff hf hg hnl]
        exact fun h0 => h (h0 q (List.mem_of_getElem? hq))
      refine rn rfl ?_
      refine goal_draw' [0, 1] 10 rfl ?_
      refine drn [0, 1, 2, 3, 4] (by kernel_rfl) (by kernel_rfl) rfl rfl ?_
      refine AH_did 5 rfl (by kernel_rfl) (by kernel_rfl) (by kernel_rfl) rfl rfl (dA_index (eP q) rfl rfl rfl rfl rfl rfl rfl (by omega) (by (try simp); omega) (map_at (by simpa using hq)) rfl) ?_
      refine drn [6, 7] (by kernel_rfl) (by kernel_rfl) rfl rfl ?_
      refine AH_one (i := 8) (by kernel_rfl) (step_call [] rfl rfl rfl rfl rfl rfl (spairAt_ct g.named q.name (by omega))) (by simp) ?_
      rintro σ2 ⟨r, o', ⟨rfl, rfl⟩, hσ⟩
      obtain rfl := Option.some.inj hσ
      clear hσ
      refine drn [9] (by kernel_rfl) (by kernel_rfl) rfl rfl ?_
      refine AH_end (by kernel_rfl) ?_
      refine rn rfl ?_
      by_cases hneg : pairIx g.named q.name < 0
      · refine goal_draw' [0, 1] 15 rfl ?_
        refine drn [0, 1, 2] (by kernel_rfl) (by kernel_rfl) rfl rfl ?_
        refine AH_guard (i := 3) rfl rfl rfl (fun h6 => ?_) (fun h6 => ?_) <;> (try simp only [gt_iff_lt, ge_iff_le, bne_iff_ne, ne_eq, bne_eq_false_iff_eq, beq_iff_eq, beq_eq_false_iff_ne, Bool.not_eq_true', Bool.not_eq_false', decide_eq_true_eq, decide_eq_false_iff_not, List.length_map] at h6)
        · refine drn [3, 4, 5, 6, 7, 8, 9, 10, 11, 12, 13, 14] (by kernel_rfl) (by kernel_rfl) rfl rfl ?_
          refine AH_end (by kernel_rfl) ?_
          refine rn rfl ?_
          refine rn rfl (round_ret (fin_is [] rfl ⟨?_, rfl⟩))
          rw [hno fun h => by have := (hmem h).2; omega]
        · exact absurd hneg (by simpa using h6)
      · obtain ⟨r, hr1, hr2, hr3⟩ := pair_at (f := g) (n := q.name) (by omega)
        have hrn : r.name = q.name := by
          have := List.find?_some hr1
          simpa [nameIs] using this
        refine goal_draw' [0, 1] 15 rfl ?_
        refine drn [0, 1, 2] (by kernel_rfl) (by kernel_rfl) rfl rfl ?_
        refine AH_guard (i := 3) rfl rfl rfl (fun h6 => ?_) (fun h6 => ?_) <;> (try simp only [gt_iff_lt, ge_iff_le, bne_iff_ne, ne_eq, bne_eq_false_iff_eq, beq_iff_eq, beq_eq_false_iff_ne, Bool.not_eq_true', Bool.not_eq_false', decide_eq_true_eq, decide_eq_false_iff_not, List.length_map] at h6)
        · exact absurd h6 (by simpa using hneg)
        · refine drn [3, 4, 5, 8, 9, 10] (by kernel_rfl) (by kernel_rfl) rfl rfl ?_
          refine AH_did 6 rfl (by kernel_rfl) (by kernel_rfl) (by kernel_rfl) rfl rfl (dA_index (eP r) rfl rfl rfl rfl rfl rfl rfl (by omega) (by (try simp); omega) (map_at (by simpa using hr2)) rfl) ?_
          refine drn [7] (by kernel_rfl) (by kernel_rfl) rfl rfl ?_
          refine AH_did 11 rfl (by kernel_rfl) (by kernel_rfl) (by kernel_rfl) rfl rfl (dA_index (eP q) rfl rfl rfl rfl rfl rfl rfl (by omega) (by (try simp); omega) (map_at (by simpa using hq)) rfl) ?_
          refine drn [12] (by kernel_rfl) (by kernel_rfl) rfl rfl ?_
          refine AH_did 13 rfl (by kernel_rfl) (by kernel_rfl) (by kernel_rfl) rfl rfl (dA_eqStruct (b := decide (r = q)) (!decide (r = q)) (.inr ⟨rfl, rfl⟩) rfl rfl rfl rfl rfl rfl (eqPair_b r q) (by kernel_rfl) (by kernel_rfl) (by kernel_rfl) rfl) ?_
          refine drn [14] (by kernel_rfl) (by kernel_rfl) rfl rfl ?_
          refine AH_end (by kernel_rfl) ?_
          refine rn rfl ?_
          refine goal_cond rfl (fun h7 => ?_) (fun h7 => ?_) <;> simp only [Bool.not_eq_true', Bool.not_eq_false', decide_eq_true_eq, decide_eq_false_iff_not] at h7
          · refine rn rfl (round_ret (fin_is [] rfl ⟨?_, rfl⟩))
            rw [hno fun h => ?_]
            have := find_uniq hg h
            rw [hr1] at this
            exact h7 (Option.some.inj this)
          · refine rn rfl ?_
            refine round_keep (f.named.length - (k + 1)) [6, 3, 2] [0, 1] (by omega) rfl ⟨_, k + 1, wrap64 (by omega) (by omega), by omega, rfl, fun z hz => ?_, rfl⟩
            rw [← take_snoc hq] at hz
            rcases List.mem_append.1 hz with hz | hz
            · exact hall z hz
            · simp only [List.mem_singleton] at hz
              rw [hz, ← h7]; exact List.mem_of_getElem? hr2
    · refine rn rfl (round_ext ?_)
      refine rn rfl (fin_is [] rfl ⟨?_, rfl⟩)
      rw [List.take_of_length_le (by omega)] at hall
      rw [decide_eq_true ((same_iff hf hg hnl).2 hall)]

structure NdB (b : Bnds) : Prop where
  len : b.length ≤ 1048576
  size : ∀ x ∈ b, x.list.length ≤ 1048576 ∧ x.pairs.length ≤ 1048576
  nodup : ∀ x ∈ b, (namesOf x.pairs).Nodup

theorem ssameSlot_ct (x y : Slot) (hx : (namesOf x.pairs).Nodup) (hy : (namesOf y.pairs).Nodup) (h1 : x.list.length ≤ 1048576) (h2 : x.pairs.length ≤ 1048576) (h3 : y.pairs.length ≤ 1048576) :
    ACalls pk 164 [.agg (eL x), .agg (eL y)] [] (fun r o => r = .one (.bool (sameL x y)) ∧ o = []) := by
  refine acalls_of_body Tryz.func164 rfl (by kernel_rfl) rfl ?_
  refine rn rfl ?_
  refine goal_guard rfl rfl rfl (fun h4 => ?_) (fun h4 => ?_) <;> (try simp only [gt_iff_lt, ge_iff_le, bne_iff_ne, ne_eq, bne_eq_false_iff_eq, beq_iff_eq, beq_eq_false_iff_ne, Bool.not_eq_true', Bool.not_eq_false', decide_eq_true_eq, decide_eq_false_iff_not, List.length_map] at h4)
  · refine rn rfl ?_
    refine goal_step (step_call [] rfl rfl rfl rfl rfl rfl (ssameFlat_ct ⟨x.list, x.pairs⟩ ⟨y.list, y.pairs⟩ hx hy h1 h2 h3)) ?_
    rintro σ2 ⟨r, o', ⟨rfl, rfl⟩, hσ⟩
    obtain rfl := Option.some.inj hσ
    clear hσ
    refine rn rfl ?_
    refine rn rfl (fin_is [] rfl ⟨?_, rfl⟩)
    simp [sameL, h4]
  · refine rn rfl (fin_is [] rfl ⟨?_, rfl⟩)
    simp [sameL, h4]

theorem ssameB_ct (a b : Bnds) (ha : NdB a) (hb : NdB b) : ACalls pk 127 [.agg (eBi a), .agg (eBi b)] [] (fun r o => r = .one (.bool (sameB a b)) ∧ o = []) := by
  have hal := ha.len
  refine acalls_of_body Tryz.func127 rfl (by kernel_rfl) rfl ?_
  refine rn rfl ?_
  refine goal_cond rfl (fun h0 => ?_) (fun h0 => ?_) <;> simp only [List.length_map, bne_iff_ne, ne_eq, bne_eq_false_iff_eq] at h0
  · refine rn rfl (fin_is [] rfl ⟨?_, rfl⟩)
    have : a.length ≠ b.length := by omega
    simp [sameB, this]
  have hlen : a.length = b.length := by omega
  refine rn rfl ?_
  refine goal_loop_keep (fun m σ => ∃ (q : Int) (i : Nat), q = i ∧ i ≤ a.length ∧ m = a.length - i ∧ (∀ (j : Nat) (x y : Slot), a[j]? = some x → b[j]? = some y → j < i → sameL x y = true) ∧
      σ = ⟨[(5, .one (.int .i64 q)), (3, .one (.op 1 0 0)), (2, .one (.op 0 0 0))], [some ⟨1, [eBi a], false, false, true⟩, some ⟨1, [eBi b], false, false, true⟩], []⟩) a.length [5, 3, 2] [0, 1] rfl
    ⟨_, 0, rfl, by omega, by omega, fun j x y _ _ hj => by omega, rfl⟩ ?_
  rintro m σ ⟨q, i, rfl, hi, rfl, hall, rfl⟩
  refine rn rfl ?_
  refine goal_cond rfl (fun h1 => ?_) (fun h1 => ?_) <;> (try simp only [gt_iff_lt, ge_iff_le, bne_iff_ne, ne_eq, bne_eq_false_iff_eq, beq_iff_eq, beq_eq_false_iff_ne, Bool.not_eq_true', Bool.not_eq_false', decide_eq_true_eq, decide_eq_false_iff_not, List.length_map] at h1)
  · obtain ⟨x, hx⟩ := at_some (xs := a) (i := i) (by omega)
    obtain ⟨y, hy⟩ := at_some (xs := b) (i := i) (by omega)
    have mx := List.mem_of_getElem? hx
    have my := List.mem_of_getElem? hy
    refine rn rfl ?_
    refine goal_draw' [0, 1] 12 rfl ?_
    refine drn [0, 1, 2, 5, 6, 7] (by kernel_rfl) (by kernel_rfl) rfl rfl ?_
    refine AH_did 3 rfl (by kernel_rfl) (by kernel_rfl) (by kernel_rfl) rfl rfl (dA_index (eL x) rfl rfl rfl rfl rfl rfl rfl (by omega) (by (try simp); omega) (map_at (by simpa using hx)) rfl) ?_
    refine drn [4] (by kernel_rfl) (by kernel_rfl) rfl rfl ?_
    refine AH_did 8 rfl (by kernel_rfl) (by kernel_rfl) (by kernel_rfl) rfl rfl (dA_index (eL y) rfl rfl rfl rfl rfl rfl rfl (by omega) (by (try simp); omega) (map_at (by simpa using hy)) rfl) ?_
    refine drn [9] (by kernel_rfl) (by kernel_rfl) rfl rfl ?_
    refine AH_one (i := 10) (by kernel_rfl) (step_call [] rfl rfl rfl rfl rfl rfl (ssameSlot_ct x y (ha.nodup x mx) (hb.nodup y my) (ha.size x mx).1 (ha.size x mx).2 (hb.size y my).2)) (by simp) ?_
    rintro σ2 ⟨r, o', ⟨rfl, rfl⟩, hσ⟩
    obtain rfl := Option.some.inj hσ
    clear hσ
    refine drn [11] (by kernel_rfl) (by kernel_rfl) rfl rfl ?_
    refine AH_end (by kernel_rfl) ?_
    refine rn rfl ?_
    refine goal_cond rfl (fun h2 => ?_) (fun h2 => ?_) <;> simp only [Bool.not_eq_true', Bool.not_eq_false'] at h2
    · refine rn rfl (round_ret (fin_is [] rfl ⟨?_, rfl⟩))
      cases hs : sameB a b with
      | false => rfl
      | true => rw [(sameB_iff.1 hs).2 i x y hx hy] at h2; cases h2
    · refine rn rfl ?_
      refine round_keep (a.length - (i + 1)) [5, 3, 2] [0, 1] (by omega) rfl ⟨_, i + 1, wrap64 (by omega) (by omega), by omega, rfl, fun j x' y' hx' hy' hj => ?_, rfl⟩
      by_cases hji : j = i
      · subst hji
        rw [hx] at hx'; rw [hy] at hy'
        cases hx'; cases hy'
        exact h2
      · exact hall j x' y' hx' hy' (by omega)
  · refine rn rfl (round_ext ?_)
    refine rn rfl (fin_is [] rfl ⟨?_, rfl⟩)
    rw [sameB_iff.2 ⟨hlen, fun j x y hx hy => hall j x y hx hy (by have := lt_of_some hx; omega)⟩]

theorem Given.nd {s : Sig} {f : Flat} {b : Bnds} (h : Given s f b) : NdB b := by
  obtain ⟨c1, c2⟩ := bound_small h.sig h.flat
  rw [← h.eq] at c1 c2
  refine ⟨by omega, fun x hx => ⟨by have := (c2 x hx).1; omega, by have := (c2 x hx).2; omega⟩, fun x hx => ?_⟩
  obtain ⟨i, hi⟩ := List.getElem?_of_mem hx
  obtain ⟨p, hp⟩ := at_some (xs := s) (i := i) (by rw [← h.len]; exact lt_of_some hi)
  rw [h.at hp hi]
  unfold giveQ
  split
  · exact h.flat.nodup.sublist (List.filter_sublist.map _)
  · split
    · split <;> simp [zL, namesOf]
    · unfold place1
      split
      · simp [namesOf]
      · split <;> simp [zL, namesOf]

def sslotOk (p : Param) (x : Slot) : Bool :=
  if p.kind = 2 then !x.given && (x.list.all okVal && (decide (x.list.length ≤ 8) && decide (x.pairs = [])))
  else if p.kind = 4 then !x.given && (decide (x.list = []) && okFlat ⟨[], x.pairs⟩)
  else decide (x.pairs = []) && ((x.given && (decide (x.list.length = 1) && x.list.all okVal)) || (!x.given && decide (x.list = [])))

def sslotAt (s : Sig) (b : Bnds) (i : Nat) : Bool := match s[i]?, b[i]? with
  | some p, some x => sslotOk p x
  | _, _ => true

def VBs (s : Sig) (b : Bnds) : Bool := okSig s && (decide (b.length = s.length) && ((List.range b.length).all (sslotAt s b) && (okFlat (unbQ s b) && (accQ s (unbQ s b) && sameB (boundQ s (unbQ s b)).1 b))))

theorem isort_nil {l : List Pair} (h : isortL ltN [] = isortL ltN l) : l = [] := by
  have := isort_len h
  cases l with
  | nil => rfl
  | cons a l => simp at this

theorem sinkG_perm {α : Type} (lt : α → α → Bool) (p : α) : ∀ (ra acc : List α), (sinkR lt p ra acc).Perm (p :: (ra.reverse ++ acc))
  | [], acc => by simp [sinkR]
  | x :: ra, acc => by
    unfold sinkR
    split
    · refine (sinkG_perm lt p ra (x :: acc)).trans ?_
      simp
    · exact List.perm_middle

theorem isortL_perm {α : Type} (lt : α → α → Bool) (xs : List α) : (isortL lt xs).Perm xs := by
  have key : ∀ (xs S : List α), (xs.foldl (fun S x => insR lt x S) S).Perm (xs ++ S) := by
    intro xs
    induction xs with
    | nil => intro S; exact List.Perm.refl _
    | cons x xs ih =>
      intro S
      have h2 : (insR lt x S).Perm (x :: S) := by simpa [insR] using sinkG_perm lt x S.reverse []
      refine (ih _).trans ?_
      exact (List.Perm.append_left xs h2).trans (by simp [List.perm_middle])
  have := key xs []
  rw [List.append_nil] at this
  exact this

theorem isort_perm {a b : List Pair} (h : isortL ltN a = isortL ltN b) : a.Perm b := by
  have h1 := isortL_perm ltN a
  have h2 := isortL_perm ltN b
  rw [h] at h1
  exact h1.symm.trans h2

theorem given_same {s : Sig} {b : Bnds} (hs : OkS s) (hU : OkF (unbQ s b)) (hacc : accQ s (unbQ s b) = true) (hsame : sameB (boundQ s (unbQ s b)).1 b = true) : Given s (unbQ s b) b := by
  refine ⟨hs, hU, hacc, ?_⟩
  obtain ⟨hl, hat⟩ := sameB_iff.1 hsame
  refine List.ext_getElem? fun i => ?_
  cases hx : b[i]? with
  | none =>
    rw [List.getElem?_eq_none_iff] at hx
    exact (List.getElem?_eq_none (by omega)).symm
  | some y =>
    obtain ⟨x, hxb⟩ := at_some (xs := (boundQ s (unbQ s b)).1) (i := i) (by rw [hl]; exact lt_of_some hx)
    obtain ⟨p, hp⟩ := at_some (xs := s) (i := i) (by rw [← boundQ_len s (unbQ s b)]; exact lt_of_some hxb)
    have hgx := bound_at hs hU hp hxb
    have hss := hat i x y hxb hx
    simp only [sameL, Bool.and_eq_true, beq_iff_eq, decide_eq_true_eq] at hss
    obtain ⟨h1, h2, h3⟩ := hss
    have h4 : x.pairs = y.pairs := by
      by_cases hk : p.kind = 4
      · have hxp : x.pairs = (unbQ s b).named.filter fun q => takesQ s q.name == (i : Int) := by rw [hgx]; unfold giveQ; rw [if_pos hk]
        obtain ⟨A, B, hAB⟩ := unb_at0 hp hx hk
        have hperm := isort_perm h3
        have hall : y.pairs.filter (fun q => takesQ s q.name == (i : Int)) = y.pairs := by
          rw [List.filter_eq_self]
          intro q hq
          have := (hperm.mem_iff (a := q)).2 hq
          rw [hxp] at this
          exact (List.mem_filter.1 this).2
        rw [hAB, List.filter_append, List.filter_append, hall] at hxp
        have hlen := hperm.length_eq
        rw [hxp] at hlen
        simp only [List.length_append] at hlen
        have e1 : A.filter (fun q => takesQ s q.name == (i : Int)) = [] := List.length_eq_zero_iff.1 (by omega)
        have e2 : B.filter (fun q => takesQ s q.name == (i : Int)) = [] := List.length_eq_zero_iff.1 (by omega)
        rw [hxp, e1, e2]; simp
      · have hxp : x.pairs = [] := by
          rw [hgx]; unfold giveQ; rw [if_neg hk]
          split
          · split <;> simp [zL]
          · unfold place1
            split
            · rfl
            · split <;> simp [zL]
        rw [hxp] at h3 ⊢
        exact (isort_nil h3).symm
    rw [hxb]
    obtain ⟨g, l, q⟩ := x
    obtain ⟨g', l', q'⟩ := y
    simp only at h1 h2 h4
    rw [h1, h2, h4]

theorem VBi_given {s : Sig} {b : Bnds} (h : VBi s b = true) : Given s (unbQ s b) b := by
  unfold VBi at h
  simp only [Bool.and_eq_true, decide_eq_true_eq] at h
  obtain ⟨h1, h2, h3, h4, h5⟩ := h
  obtain ⟨o1, o2, o3, o4⟩ := bindQ_ok h4
  rw [o4] at h5
  exact given_same o1 o2 o3 h5

theorem VBs_given {s : Sig} {b : Bnds} (h : VBs s b = true) : Given s (unbQ s b) b := by
  unfold VBs at h
  simp only [Bool.and_eq_true, decide_eq_true_eq] at h
  obtain ⟨h1, h2, h3, h4, h5, h6⟩ := h
  exact given_same (okSig_iff.1 h1) (okFlat_iff.1 h4) h5 h6

theorem Given.validS {s : Sig} {f : Flat} {b : Bnds} (h : Given s f b) : VBs s b = true := by
  have hag := h.again
  have hr : (List.range b.length).all (sslotAt s b) = true := by
    rw [List.all_eq_true]
    intro i hi
    have hi' := List.mem_range.1 hi
    obtain ⟨p, hp⟩ := at_some (xs := s) (i := i) (by rw [← h.len]; exact hi')
    have hx := h.get hp
    unfold sslotAt
    rw [hp, hx]
    simp only
    have hkr := h.sig.kindRange (List.mem_of_getElem? hp)
    have hv := give_vals (s := s) h.flat (i := i) (p := p)
    have hpl := h.flat.places
    have hnl := h.flat.named
    unfold sslotOk
    by_cases hk2 : p.kind = 2
    · rw [if_pos hk2]
      have hall : (giveQ s f.places f.named i p).list.all okVal = true := List.all_eq_true.2 hv
      rw [give_rest hk2] at hall ⊢
      simp only at hall ⊢
      rw [hall]
      simp; omega
    rw [if_neg hk2]
    by_cases hk4 : p.kind = 4
    · rw [if_pos hk4]
      unfold giveQ
      rw [if_pos hk4]
      have : okFlat ⟨[], f.named.filter fun q => takesQ s q.name == (i : Int)⟩ = true := okFlat_iff.2
        ⟨fun q hq => h.flat.pairs q (List.mem_filter.1 hq).1, h.flat.nodup.sublist (List.filter_sublist.map _), by simp, by simp, by have := (List.filter_sublist (p := fun q => takesQ s q.name == (i : Int)) (l := f.named)).length_le; simp only; omega⟩
      simp [this]
    rw [if_neg hk4]
    have hsg : singleQ p = true := single_kind.2 (by omega)
    have hsh := give_shape (s := s) (pl := f.places) (qs := f.named) (i := i) (p := p) hsg
    have hall : (giveQ s f.places f.named i p).list.all okVal = true := List.all_eq_true.2 hv
    cases hg : (giveQ s f.places f.named i p).given with
    | true => rw [hsh.1 hg] at hall ⊢; simpa using hall
    | false => rw [hsh.2 hg]; simp [zL]
  unfold VBs
  rw [hr, okSig_iff.2 h.sig, okFlat_iff.2 hag.flat, hag.acc, ← hag.eq, sameB_self]
  simp [h.len]

theorem VB_eq (s : Sig) (b : Bnds) : VBs s b = VBi s b := by
  cases h : VBi s b with
  | true => exact (VBi_given h).validS
  | false =>
    cases h' : VBs s b with
    | false => rfl
    | true => rw [(VBs_given h').valid] at h; cases h

structure WfB (s : Sig) (b : Bnds) : Prop where
  sig : OkS s
  len : b.length = s.length
  single : ∀ (i : Nat) (p : Param) (x : Slot), s[i]? = some p → b[i]? = some x → singleQ p = true → (x.given = true → x = ⟨true, [hd0 x.list], []⟩ ∧ okVal (hd0 x.list) = true) ∧ (x.given = false → x = zL ∧ p.hasD = true)
  rest : ∀ (i : Nat) (p : Param) (x : Slot), s[i]? = some p → b[i]? = some x → p.kind = 2 → x.given = false ∧ x.pairs = [] ∧ ∀ v ∈ x.list, okVal v = true
  full : ∀ (i : Nat) (p : Param) (x : Slot), s[i]? = some p → b[i]? = some x → p.kind = 2 → x.list ≠ [] → ∀ (j : Nat) (q : Param) (y : Slot), s[j]? = some q → b[j]? = some y → placedQ q = true → y.given = true
  map : ∀ (i : Nat) (p : Param) (x : Slot), s[i]? = some p → b[i]? = some x → p.kind = 4 → x.given = false ∧ x.list = [] ∧ (namesOf x.pairs).Nodup ∧ ∀ q ∈ x.pairs, takesQ s q.name = (i : Int) ∧ okPair q = true
  first : ∀ (j i : Nat) (q p : Param) (y x : Slot), j < i → s[j]? = some q → s[i]? = some p → b[j]? = some y → b[i]? = some x → p.kind = 0 → x.given = true → y.given = true

section

variable {s : Sig} {b : Bnds}

theorem WfB.get (h : WfB s b) {i : Nat} {p : Param} (hp : s[i]? = some p) : ∃ x, b[i]? = some x := at_some (by rw [h.len]; exact lt_of_some hp)

theorem WfB.unbAt (h : WfB s b) : ∀ i, i ≤ s.length → ∃ F op V R X Y, ((s.zip b).take i).foldl stU (zF, true) = (F, op) ∧ UnbAt s b i F op V R X Y
  | 0, _ => ⟨zF, true, [], [], [], [], by simp, ⟨rfl, rfl, by simp, fun j x hj => by simp at hj, fun _ => by simp, (fun h0 => by cases h0), fun j p x hj => by omega, fun _ => rfl, fun j p x hj => by omega, fun _ => rfl, fun q => by
      constructor
      · intro h0; simp at h0
      · rintro ⟨j, p, x, hj, _⟩; omega, by simp [namesOf]⟩⟩
  | i + 1, hi => by
    obtain ⟨F, op, V, R, X, Y, hfold, I⟩ := WfB.unbAt h i (by omega)
    obtain ⟨p, hp⟩ := at_some (xs := s) (i := i) (by omega)
    obtain ⟨x, hx⟩ := h.get hp
    have hz : (s.zip b)[i]? = some (p, x) := List.getElem?_zip_eq_some.2 ⟨hp, hx⟩
    have hst : ((s.zip b).take (i + 1)).foldl stU (zF, true) = stU (F, op) (p, x) := by rw [foldl_take_succ _ _ hz, hfold]
    rw [hst]
    have hP := h.sig.placed_iff hp
    have hkr := h.sig.kindRange (List.mem_of_getElem? hp)
    have upto : ∀ (j : Nat) (q : Param), j < i + 1 → s[j]? = some q → j < i ∨ (j = i ∧ q = p) := fun j q hj hq => by
      by_cases hji : j = i
      · subst hji; rw [hp] at hq; cases hq; exact .inr ⟨rfl, rfl⟩
      · exact .inl (by omega)
    have xat : ∀ (j : Nat) (y : Slot), j = i → b[j]? = some y → y = x := fun j y hj hy => by subst hj; rw [hx] at hy; cases hy; rfl
    have before : ∀ (j : Nat) (q : Param), j < i → s[j]? = some q → q.kind ≤ p.kind := fun j q hj hq => h.sig.sorted (i - j) j q p hq (by rw [show j + (i - j) = i by omega]; exact hp)
    have notin : ∀ q ∈ X, q.name ≠ p.name := fun q hq he => by
      obtain ⟨j, r, y, hj, hr, _, _, _, rfl⟩ := (I.mem q).1 hq
      have := name_inj h.sig hr hp he
      omega
    have memStay : (x.given = true → ¬ (p.kind = 3 ∨ (p.kind = 1 ∧ V.length < i))) → ∀ (V' : List Int), V.length ≤ V'.length → (∀ j q, j < i → s[j]? = some q → q.kind = 1 → V.length < j → V'.length < j) → ∀ q : Pair, q ∈ X ↔ ∃ (j : Nat) (p : Param) (x : Slot), j < i + 1 ∧ s[j]? = some p ∧ b[j]? = some x ∧ x.given = true ∧ (p.kind = 3 ∨ (p.kind = 1 ∧ V'.length < j)) ∧ q = ⟨p.name, hd0 x.list⟩ := fun hno V' hV hV' q => by
      rw [I.mem q]
      constructor
      · rintro ⟨j, r, y, hj, hr, hy, hg, hk, rfl⟩
        refine ⟨j, r, y, by omega, hr, hy, hg, ?_, rfl⟩
        rcases hk with hk | ⟨hk, hl⟩
        · exact .inl hk
        · exact .inr ⟨hk, hV' j r hj hr hk hl⟩
      · rintro ⟨j, r, y, hj, hr, hy, hg, hk, rfl⟩
        rcases upto j r hj hr with hji | ⟨rfl, rfl⟩
        · refine ⟨j, r, y, hji, hr, hy, hg, ?_, rfl⟩
          rcases hk with hk | ⟨hk, hl⟩
          · exact .inl hk
          · exact .inr ⟨hk, by omega⟩
        · exfalso
          have := xat j y rfl hy
          subst this
          refine hno hg ?_
          rcases hk with hk | ⟨hk, hl⟩
          · exact .inl hk
          · exact .inr ⟨hk, by omega⟩
    by_cases hk2 : p.kind = 2
    · have hR : R = [] := I.rest0 fun j q hj hq hk => by
        have := h.sig.one hq hp (by omega) (by simp [singleQ, placedQ, hk2]); omega
      have hnp : ¬ i < placesQ s := fun h0 => by have := hP.2 h0; rw [placed_kind] at this; omega
      have hs' : stU (F, op) (p, x) = (⟨F.places ++ x.list, F.named⟩, op) := by simp [stU, hk2]
      rw [hs']
      refine ⟨_, op, V, x.list, X, Y, rfl, ⟨by rw [I.places, hR, List.append_nil], I.named, by have := I.vlen; omega, I.vals, fun h0 => by rw [I.opn h0]; omega, fun h0 => ?_, fun j q y hj hq hy hk => ?_, fun h0 => absurd hk2 (h0 i p (by omega) hp), fun j q y hj hq hy hk => ?_, fun h0 => I.map0 fun j q hj hq => h0 j q (by omega) hq, memStay (fun _ h0 => by omega) V (Nat.le_refl _) (fun j q _ _ _ hl => hl), I.nodup⟩⟩
      · obtain ⟨a1, a2, a3⟩ := I.shut h0
        exact ⟨a1, by omega, a3⟩
      · rcases upto j q hj hq with hji | ⟨rfl, rfl⟩
        · have := h.sig.one hq hp (by omega) (by simp [singleQ, placedQ, hk2]); omega
        · rw [xat j y rfl hy]
      · rcases upto j q hj hq with hji | ⟨rfl, rfl⟩
        · exact I.map j q y hji hq hy hk
        · omega
    by_cases hk4 : p.kind = 4
    · have hY : Y = [] := I.map0 fun j q hj hq hk => by
        have := h.sig.one hq hp (by omega) (by simp [singleQ, placedQ, hk4]); omega
      have hnp : ¬ i < placesQ s := fun h0 => by have := hP.2 h0; rw [placed_kind] at this; omega
      have hs' : stU (F, op) (p, x) = (⟨F.places, F.named ++ x.pairs⟩, op) := by simp [stU, hk4]
      rw [hs']
      refine ⟨_, op, V, R, X, x.pairs, rfl, ⟨I.places, by rw [I.named, hY, List.append_nil], by have := I.vlen; omega, I.vals, fun h0 => by rw [I.opn h0]; omega, fun h0 => ?_, fun j q y hj hq hy hk => ?_, fun h0 => I.rest0 fun j q hj hq => h0 j q (by omega) hq, fun j q y hj hq hy hk => ?_, fun h0 => absurd hk4 (h0 i p (by omega) hp), memStay (fun _ h0 => by omega) V (Nat.le_refl _) (fun j q _ _ _ hl => hl), I.nodup⟩⟩
      · obtain ⟨a1, a2, a3⟩ := I.shut h0
        exact ⟨a1, by omega, a3⟩
      · rcases upto j q hj hq with hji | ⟨rfl, rfl⟩
        · exact I.rest j q y hji hq hy hk
        · omega
      · rcases upto j q hj hq with hji | ⟨rfl, rfl⟩
        · have := h.sig.one hq hp (by omega) (by simp [singleQ, placedQ, hk4]); omega
        · rw [xat j y rfl hy]
    have restStay : ∀ (j : Nat) (q : Param) (y : Slot), j < i + 1 → s[j]? = some q → b[j]? = some y → q.kind = 2 → R = y.list := fun j q y hj hq hy hk => by
      rcases upto j q hj hq with hji | ⟨rfl, rfl⟩
      · exact I.rest j q y hji hq hy hk
      · exact absurd hk hk2
    have rest0Stay : (∀ (j : Nat) (q : Param), j < i + 1 → s[j]? = some q → q.kind ≠ 2) → R = [] := fun h0 => I.rest0 fun j q hj hq => h0 j q (by omega) hq
    have mapStay : ∀ (j : Nat) (q : Param) (y : Slot), j < i + 1 → s[j]? = some q → b[j]? = some y → q.kind = 4 → Y = y.pairs := fun j q y hj hq hy hk => by
      rcases upto j q hj hq with hji | ⟨rfl, rfl⟩
      · exact I.map j q y hji hq hy hk
      · exact absurd hk hk4
    have map0Stay : (∀ (j : Nat) (q : Param), j < i + 1 → s[j]? = some q → q.kind ≠ 4) → Y = [] := fun h0 => I.map0 fun j q hj hq => h0 j q (by omega) hq
    have hsg : singleQ p = true := single_kind.2 (by omega)
    cases hg : x.given with
    | false =>
      have hs' : stU (F, op) (p, x) = (F, op && !placedQ p) := by simp [stU, hk2, hk4, hg]
      rw [hs']
      refine ⟨_, _, V, R, X, Y, rfl, ⟨I.places, I.named, by have := I.vlen; omega, I.vals, fun h0 => ?_, fun h0 => ?_, restStay, rest0Stay, mapStay, map0Stay, memStay (fun h0 => by rw [hg] at h0; cases h0) V (Nat.le_refl _) (fun j q _ _ _ hl => hl), I.nodup⟩⟩
      · simp only [Bool.and_eq_true, Bool.not_eq_true'] at h0
        have hnp : ¬ i < placesQ s := fun h1 => by rw [hP.2 h1] at h0; cases h0.2
        rw [I.opn h0.1]; omega
      · cases ho : op with
        | false =>
          obtain ⟨a1, a2, a3⟩ := I.shut ho
          exact ⟨a1, by omega, a3⟩
        | true =>
          rw [ho] at h0
          simp only [Bool.true_and, Bool.not_eq_false'] at h0
          have hip := hP.1 h0
          have hv := I.opn ho
          have hv' : V.length = i := by omega
          refine ⟨by omega, by omega, fun y hy => ?_⟩
          rw [hv'] at hy
          rw [xat i y rfl hy]; exact hg
    | true =>
      by_cases hpo : (placedQ p && op) = true
      · have hs' : stU (F, op) (p, x) = (⟨F.places ++ [hd0 x.list], F.named⟩, op) := by simp [stU, hk2, hk4, hg, hpo]
        rw [hs']
        simp only [Bool.and_eq_true] at hpo
        have hip := hP.1 hpo.1
        have hv := I.opn hpo.2
        have hv' : V.length = i := by omega
        have hR : R = [] := I.rest0 fun j q hj hq hk => by
          have := before j q hj hq
          have h9 := hpo.1
          rw [placed_kind] at h9; omega
        refine ⟨_, op, V ++ [hd0 x.list], R, X, Y, rfl, ⟨by rw [I.places, hR]; simp, I.named, by simp; omega, fun j y hj hy => ?_, fun _ => by simp; omega, fun h0 => (by rw [hpo.2] at h0; cases h0), restStay, rest0Stay, mapStay, map0Stay, ?_, I.nodup⟩⟩
        · simp only [List.length_append, List.length_cons, List.length_nil] at hj
          by_cases hjv : j < V.length
          · obtain ⟨a1, a2⟩ := I.vals j y hjv hy
            exact ⟨a1, by rw [List.getElem?_append_left hjv]; exact a2⟩
          · have hji : j = i := by omega
            have := xat j y hji hy
            subst this
            exact ⟨hg, by rw [List.getElem?_append_right (by omega)]; simp [hji, hv']⟩
        · refine memStay (fun _ h0 => ?_) (V ++ [hd0 x.list]) (by simp) (fun j q hj _ _ hl => by omega)
          have h9 := hpo.1
          rw [placed_kind] at h9
          omega
      · have hs' : stU (F, op) (p, x) = (⟨F.places, F.named ++ [⟨p.name, hd0 x.list⟩]⟩, op) := by simp [stU, hk2, hk4, hg, hpo]
        rw [hs']
        have hY : Y = [] := I.map0 fun j q hj hq hk => by
          have := before j q hj hq; omega
        have hkk : p.kind = 3 ∨ (p.kind = 1 ∧ V.length < i) := by
          by_cases hk3 : p.kind = 3
          · exact .inl hk3
          · have hpl : placedQ p = true := by rw [placed_kind]; rw [single_kind] at hsg; omega
            have ho : op = false := by
              cases ho : op with
              | false => rfl
              | true => rw [hpl, ho] at hpo; exact absurd rfl hpo
            obtain ⟨a1, a2, a3⟩ := I.shut ho
            refine .inr ⟨?_, a2⟩
            refine Classical.byContradiction fun hk1 => ?_
            have hk0 : p.kind = 0 := by rw [placed_kind] at hpl; omega
            obtain ⟨q, hq⟩ := at_some (xs := s) (i := V.length) (by omega)
            obtain ⟨y, hy⟩ := h.get hq
            have hgq := h.first V.length i q p y x a2 hq hp hy hx hk0 hg
            have := a3 _ hy
            rw [hgq] at this; cases this
        refine ⟨_, op, V, R, X ++ [⟨p.name, hd0 x.list⟩], Y, rfl, ⟨I.places, by rw [I.named, hY]; simp, by have := I.vlen; omega, I.vals, fun h0 => ?_, fun h0 => ?_, restStay, rest0Stay, mapStay, map0Stay, fun q => ?_, ?_⟩⟩
        · have hnp : ¬ i < placesQ s := fun h1 => by rw [hP.2 h1, h0] at hpo; exact hpo rfl
          rw [I.opn h0]; omega
        · obtain ⟨a1, a2, a3⟩ := I.shut h0
          exact ⟨a1, by omega, a3⟩
        · rw [List.mem_append, List.mem_singleton, I.mem q]
          constructor
          · rintro (⟨j, r, y, hj, hr, hy, hgy, hk, rfl⟩ | rfl)
            · exact ⟨j, r, y, by omega, hr, hy, hgy, hk, rfl⟩
            · exact ⟨i, p, x, by omega, hp, hx, hg, hkk, rfl⟩
          · rintro ⟨j, r, y, hj, hr, hy, hgy, hk, rfl⟩
            rcases upto j r hj hr with hji | ⟨rfl, rfl⟩
            · exact .inl ⟨j, r, y, hji, hr, hy, hgy, hk, rfl⟩
            · right; rw [xat j y rfl hy]
        · unfold namesOf
          rw [List.map_append, List.map_cons, List.map_nil]
          refine List.nodup_append.2 ⟨I.nodup, by simp, fun a ha c hc => ?_⟩
          simp only [List.mem_singleton] at hc
          obtain ⟨q, hq, rfl⟩ := List.mem_map.1 ha
          rw [hc]
          exact notin q hq

theorem WfB.unb (h : WfB s b) : ∃ op V R X Y, UnbAt s b s.length (unbQ s b) op V R X Y := by
  obtain ⟨F, op, V, R, X, Y, hfold, I⟩ := h.unbAt s.length (Nat.le_refl _)
  refine ⟨op, V, R, X, Y, ?_⟩
  have : unbQ s b = F := by
    unfold unbQ
    rw [List.take_of_length_le (by simp [h.len])] at hfold
    rw [hfold]
  rw [this]; exact I

theorem WfB.gap (h : WfB s b) {op : Bool} {V R : List Int} {X Y : List Pair} {F : Flat} (I : UnbAt s b s.length F op V R X Y) (hlt : V.length < placesQ s) :
    R = [] ∧ ∀ x, b[V.length]? = some x → x.given = false := by
  have hPl := placesQ_le s
  have ho : op = false := by
    cases ho : op with
    | false => rfl
    | true => have := I.opn ho; omega
  obtain ⟨a1, a2, a3⟩ := I.shut ho
  obtain ⟨q, hq⟩ := at_some (xs := s) (i := V.length) (by omega)
  have hpl := (h.sig.placed_iff hq).2 hlt
  obtain ⟨y, hy⟩ := h.get hq
  refine ⟨?_, a3⟩
  by_cases h2 : ∃ (j : Nat) (p : Param), s[j]? = some p ∧ p.kind = 2
  · obtain ⟨j, p, hp, hk⟩ := h2
    obtain ⟨x, hx⟩ := h.get hp
    rw [I.rest j p x (lt_of_some hp) hp hx hk]
    refine Classical.byContradiction fun hne => ?_
    have := h.full j p x hp hx hk hne V.length q y hq hy hpl
    rw [a3 y hy] at this; cases this
  · exact I.rest0 fun j p _ hp hk => h2 ⟨j, p, hp, hk⟩

theorem WfB.mapOf (h : WfB s b) {op : Bool} {V R : List Int} {X Y : List Pair} {F : Flat} (I : UnbAt s b s.length F op V R X Y) {q : Pair} (hq : q ∈ Y) :
    ∃ (j : Nat) (p : Param), s[j]? = some p ∧ p.kind = 4 ∧ takesQ s q.name = (j : Int) ∧ okPair q = true := by
  by_cases h4 : ∃ (j : Nat) (p : Param), s[j]? = some p ∧ p.kind = 4
  · obtain ⟨j, p, hp, hk⟩ := h4
    obtain ⟨x, hx⟩ := h.get hp
    have hY := I.map j p x (lt_of_some hp) hp hx hk
    rw [hY] at hq
    obtain ⟨_, _, _, hall⟩ := h.map j p x hp hx hk
    obtain ⟨h1, h2⟩ := hall q hq
    exact ⟨j, p, hp, hk, h1, h2⟩
  · have := I.map0 fun j p _ hp hk => h4 ⟨j, p, hp, hk⟩
    rw [this] at hq; cases hq

theorem WfB.valid (h : WfB s b) (hp8 : (unbQ s b).places.length ≤ 8) (hn8 : (unbQ s b).named.length ≤ 8) : Given s (unbQ s b) b := by
  obtain ⟨op, V, R, X, Y, I⟩ := h.unb
  have hPl := placesQ_le s
  have hsl := h.sig.len
  have hV : V.length ≤ placesQ s := by have := I.vlen; omega
  have gap := fun hlt => h.gap I hlt
  have xmem : ∀ q ∈ X, ∃ (j : Nat) (p : Param) (x : Slot), s[j]? = some p ∧ b[j]? = some x ∧ namedQ p = true ∧ q.name = p.name ∧ x.given = true ∧ (p.kind = 3 ∨ (p.kind = 1 ∧ V.length < j)) ∧ q.value = hd0 x.list := fun q hq => by
    obtain ⟨j, p, x, _, hp, hx, hg, hk, rfl⟩ := (I.mem q).1 hq
    exact ⟨j, p, x, hp, hx, named_kind.2 (by omega), rfl, hg, hk, rfl⟩
  have hRsub : ∀ v ∈ R, okVal v = true := fun v hv => by
    by_cases h2 : ∃ (j : Nat) (p : Param), s[j]? = some p ∧ p.kind = 2
    · obtain ⟨j, p, hp, hk⟩ := h2
      obtain ⟨x, hx⟩ := h.get hp
      rw [I.rest j p _ (lt_of_some hp) hp hx hk] at hv
      exact (h.rest j p x hp hx hk).2.2 v hv
    · rw [I.rest0 fun j p _ hp hk => h2 ⟨j, p, hp, hk⟩] at hv; cases hv
  have hdis : ∀ q ∈ X, ∀ r ∈ Y, q.name ≠ r.name := fun q hq r hr he => by
    obtain ⟨j, p, x, hp, hx, hn, hqn, _⟩ := xmem q hq
    obtain ⟨k, p', hp', hk', ht, _⟩ := h.mapOf I hr
    have := takes_named h.sig hp hn
    rw [← hqn, he, ht] at this
    have hjk : k = j := by omega
    subst hjk
    rw [hp] at hp'; cases hp'
    rw [named_kind] at hn; omega
  have hYnd : (namesOf Y).Nodup := by
    by_cases h4 : ∃ (j : Nat) (p : Param), s[j]? = some p ∧ p.kind = 4
    · obtain ⟨j, p, hp, hk⟩ := h4
      obtain ⟨x, hx⟩ := h.get hp
      rw [I.map j p _ (lt_of_some hp) hp hx hk]
      exact (h.map j p x hp hx hk).2.2.1
    · rw [I.map0 fun j p _ hp hk => h4 ⟨j, p, hp, hk⟩]; simp [namesOf]
  have hnd : (namesOf (X ++ Y)).Nodup := by
    unfold namesOf
    rw [List.map_append]
    refine List.nodup_append.2 ⟨I.nodup, hYnd, fun a ha c hc he => ?_⟩
    obtain ⟨q, hq, rfl⟩ := List.mem_map.1 ha
    obtain ⟨r, hr, rfl⟩ := List.mem_map.1 hc
    exact hdis q hq r hr he
  have hU : OkF (unbQ s b) := by
    refine ⟨fun q hq => ?_, by rw [I.named]; exact hnd, fun v hv => ?_, hp8, hn8⟩
    · rw [I.named] at hq
      rcases List.mem_append.1 hq with hq | hq
      · obtain ⟨j, p, x, hp, hx, hn, hqn, hg, hk, hv⟩ := xmem q hq
        have h1 := h.sig.okName (List.mem_of_getElem? hp)
        have h2 := ((h.single j p x hp hx (single_kind.2 (by omega))).1 hg).2
        simp [okPair, hqn, h1, hv, h2]
      · obtain ⟨_, _, _, _, _, hm⟩ := h.mapOf I hq
        exact hm
    · rw [I.places] at hv
      rcases List.mem_append.1 hv with hv | hv
      · obtain ⟨j, hj⟩ := List.getElem?_of_mem hv
        have hjl := lt_of_some hj
        obtain ⟨p, hp⟩ := at_some (xs := s) (i := j) (by omega)
        obtain ⟨x, hx⟩ := h.get hp
        obtain ⟨a1, a2⟩ := I.vals j _ hjl hx
        have hpl := (h.sig.placed_iff hp).2 (by omega)
        have hsg : singleQ p = true := by rw [single_kind]; rw [placed_kind] at hpl; omega
        have h2 := ((h.single j p x hp hx hsg).1 a1).2
        rw [hj] at a2
        cases a2
        exact h2
      · exact hRsub v hv
  have hplU : ∀ (i : Nat) (p : Param), s[i]? = some p → placedQ p = true → (i < (unbQ s b).places.length ↔ i < V.length) := fun i p hp hpl => by
    have hiP := (h.sig.placed_iff hp).1 hpl
    rw [I.places, List.length_append]
    constructor
    · intro hi
      refine Classical.byContradiction fun hc => ?_
      have := (gap (by omega)).1
      rw [this] at hi
      simp at hi; omega
    · omega
  have hB : ∀ (i : Nat) (p : Param) (g : Slot), s[i]? = some p → b[i]? = some g → giveQ s (unbQ s b).places (unbQ s b).named i p = g := fun i p g hp hget => by
    have hkr := h.sig.kindRange (List.mem_of_getElem? hp)
    by_cases hk4 : p.kind = 4
    · have hY := I.map i p _ (lt_of_some hp) hp hget hk4
      obtain ⟨m1, m2, _, m3⟩ := h.map i p g hp hget hk4
      have e1 : ∀ qs pl, giveQ s pl qs i p = ⟨false, [], qs.filter fun q => takesQ s q.name == (i : Int)⟩ := fun qs pl => by unfold giveQ; rw [if_pos hk4]
      rw [e1, I.named, List.filter_append]
      have hX : X.filter (fun q => takesQ s q.name == (i : Int)) = [] := by
        rw [List.filter_eq_nil_iff]
        intro q hq ht
        obtain ⟨j, r, x, hr, hx, hn, hqn, _⟩ := xmem q hq
        have := takes_named h.sig hr hn
        rw [← hqn] at this
        simp only [beq_iff_eq] at ht
        have hij : i = j := by omega
        subst hij
        rw [hp] at hr; cases hr
        rw [named_kind] at hn; omega
      have hall : g.pairs.filter (fun q => takesQ s q.name == (i : Int)) = g.pairs := by
        rw [List.filter_eq_self]
        intro q hq
        simp [(m3 q hq).1]
      rw [hX, List.nil_append, hY, hall]
      obtain ⟨gg, gl, gp⟩ := g
      simp only at m1 m2
      rw [m1, m2]
    by_cases hk2 : p.kind = 2
    · have hR := I.rest i p _ (lt_of_some hp) hp hget hk2
      obtain ⟨m1, m2, _⟩ := h.rest i p g hp hget hk2
      have e : (V ++ R).drop (placesQ s) = R := by
        by_cases hlt : V.length < placesQ s
        · rw [(gap hlt).1, List.append_nil]; exact List.drop_eq_nil_of_le (by omega)
        · rw [show placesQ s = V.length by omega, List.drop_left]
      rw [give_rest hk2, I.places, e, hR]
      obtain ⟨gg, gl, gp⟩ := g
      simp only at m1 m2
      rw [m1, m2]
    have hsg : singleQ p = true := single_kind.2 (by omega)
    have hsh : (g.given = true → g = ⟨true, [hd0 g.list], []⟩) ∧ (g.given = false → g = zL) := ⟨fun h0 => ((h.single i p g hp hget hsg).1 h0).1, fun h0 => ((h.single i p g hp hget hsg).2 h0).1⟩
    rw [give_single hsg]
    by_cases hb : byPl (unbQ s b).places i p = true
    · rw [if_pos hb]
      simp only [byPl, Bool.and_eq_true, decide_eq_true_eq] at hb
      have hiV := (hplU i p hp hb.1).1 hb.2
      obtain ⟨a1, a2⟩ := I.vals i g hiV hget
      rw [hsh.1 a1]
      have : (unbQ s b).places.getD i 0 = hd0 g.list := by
        rw [List.getD_eq_getElem?_getD, I.places, List.getElem?_append_left hiV, a2]; rfl
      rw [this]
    · rw [if_neg hb]
      have hnV : placedQ p = true → V.length ≤ i := fun hpl => Nat.le_of_not_lt fun h0 => hb (by
        simp only [byPl, Bool.and_eq_true, decide_eq_true_eq]; exact ⟨hpl, (hplU i p hp hpl).2 h0⟩)
      have hgap : placedQ p = true → g.given = true → V.length < i := fun hpl hg => by
        have h1 := hnV hpl
        have hiP := (h.sig.placed_iff hp).1 hpl
        have h2 := (gap (by omega)).2
        refine Classical.byContradiction fun hc => ?_
        have : i = V.length := by omega
        have := h2 g (by rw [← this]; exact hget)
        rw [hg] at this; cases this
      cases hg : g.given with
      | true =>
        have hk : p.kind = 3 ∨ (p.kind = 1 ∧ V.length < i) := by
          by_cases hk3 : p.kind = 3
          · exact .inl hk3
          · have hpl : placedQ p = true := by rw [placed_kind]; rw [single_kind] at hsg; omega
            have hVi := hgap hpl hg
            refine .inr ⟨?_, hVi⟩
            refine Classical.byContradiction fun hk1 => ?_
            have hk0 : p.kind = 0 := by rw [placed_kind] at hpl; omega
            have hiP := (h.sig.placed_iff hp).1 hpl
            obtain ⟨q, hq⟩ := at_some (xs := s) (i := V.length) (by omega)
            obtain ⟨y, hy⟩ := h.get hq
            have hgq := h.first V.length i q p y g hVi hq hp hy hget hk0 hg
            have := (gap (by omega)).2 _ hy
            rw [hgq] at this; cases this
        have hn : namedQ p = true := named_kind.2 (by omega)
        rw [if_pos hn]
        have hm : (⟨p.name, hd0 g.list⟩ : Pair) ∈ X := (I.mem _).2 ⟨i, p, g, lt_of_some hp, hp, hget, hg, hk, rfl⟩
        have hf := find_uniq (qs := (unbQ s b).named) (q := ⟨p.name, hd0 g.list⟩) hU.nodup (by rw [I.named]; exact List.mem_append_left _ hm)
        simp only at hf
        rw [hf]
        exact (hsh.1 hg).symm
      | false =>
        rw [hsh.2 hg]
        split
        · rename_i hn
          have : (unbQ s b).named.find? (nameIs p.name) = none := by
            rw [List.find?_eq_none]
            intro q hq hqn
            simp only [nameIs, beq_iff_eq] at hqn
            rw [I.named] at hq
            rcases List.mem_append.1 hq with hq | hq
            · obtain ⟨j, r, x, _, hr, hx, hgx, _, rfl⟩ := (I.mem q).1 hq
              have hji := name_inj h.sig hr hp hqn
              subst hji
              rw [hget] at hx; cases hx
              rw [hg] at hgx; cases hgx
            · obtain ⟨j, r, hr, hk, ht, _⟩ := h.mapOf I hq
              have := takes_named h.sig hp hn
              rw [← hqn, ht] at this
              have hji : j = i := by omega
              subst hji
              rw [hp] at hr; cases hr
              exact hk4 hk
          rw [this]
        · rfl
  have hacc : accQ s (unbQ s b) = true := by
    refine (acc_iff h.sig hU).2 ⟨fun hlt => ?_, fun q hq => ?_, ?_⟩
    · by_cases h2 : ∃ (j : Nat) (p : Param), s[j]? = some p ∧ p.kind = 2
      · obtain ⟨j, p, hp, hk⟩ := h2
        exact List.any_eq_true.2 ⟨p, List.mem_of_getElem? hp, by simp [kIs, hk]⟩
      · have hR := I.rest0 fun j p _ hp hk => h2 ⟨j, p, hp, hk⟩
        rw [I.places, hR] at hlt
        simp at hlt; omega
    · rw [wrong_iff2 h.sig]
      rw [I.named] at hq
      rcases List.mem_append.1 hq with hq | hq
      · obtain ⟨j, p, x, hp, hx, hn, hqn, hg, hk, hv⟩ := xmem q hq
        refine ⟨.inl ⟨j, p, hp, hn, hqn.symm⟩, fun i r hr hrn hre => ?_⟩
        have hij := name_inj h.sig hr hp (by rw [hre, hqn])
        subst hij
        rw [hp] at hr; cases hr
        unfold byPl
        cases hpl : placedQ p with
        | false => rfl
        | true =>
          simp only [Bool.true_and, decide_eq_false_iff_not]
          rw [hplU i p hp hpl]
          rcases hk with hk | ⟨hk, hl⟩
          · rw [placed_kind] at hpl; omega
          · omega
      · obtain ⟨j, r, hr, hk, ht, _⟩ := h.mapOf I hq
        refine ⟨.inr ⟨r, List.mem_of_getElem? hr, hk⟩, fun i p hp hn he => ?_⟩
        have := takes_named h.sig hp hn
        rw [he, ht] at this
        have hji : j = i := by omega
        subst hji
        rw [hp] at hr; cases hr
        rw [named_kind] at hn; omega
    · rw [lack_iff]
      intro i p hp hsg
      obtain ⟨x, hx⟩ := h.get hp
      cases hg : x.given with
      | false => exact .inl ((h.single i p x hp hx hsg).2 hg).2
      | true =>
        right
        have h1 := hB i p x hp hx
        have h2 := give_given (s := s) (pl := (unbQ s b).places) (qs := (unbQ s b).named) (i := i) (p := p) hsg
        rw [h1, hg] at h2
        have h3 := h2.symm
        simp only [Bool.or_eq_true, Bool.and_eq_true] at h3
        exact h3
  refine ⟨h.sig, hU, hacc, ?_⟩
  rw [bound_closed h.sig hU.nodup]
  apply List.ext_getElem?
  intro i
  simp only [closedQ, List.getElem?_mapIdx]
  cases hp : s[i]? with
  | none =>
    have : s.length ≤ i := by rw [List.getElem?_eq_none_iff] at hp; exact hp
    rw [List.getElem?_eq_none (by rw [h.len]; exact this)]; rfl
  | some p =>
    obtain ⟨x, hx⟩ := h.get hp
    simp only [Option.map_some, hB i p x hp hx, hx]

end

theorem Given.wf {s : Sig} {f : Flat} {b : Bnds} (h : Given s f b) : WfB s b := by
  refine ⟨h.sig, h.len, fun i p x hp hx hsg => ?_, fun i p x hp hx hk => ?_, fun i p x hp hx hk hne j q y hq hy hpl => ?_, fun i p x hp hx hk => ?_, fun j i q p y x hji hq hp hy hx hk hg => ?_⟩
  · obtain rfl := h.at hp hx
    have hsh := give_shape (s := s) (pl := f.places) (qs := f.named) (i := i) (p := p) hsg
    refine ⟨fun hg => ⟨hsh.1 hg, give_vals (s := s) h.flat (i := i) (p := p) _ (by rw [hsh.1 hg]; simp [hd0])⟩, fun hg => ⟨hsh.2 hg, ?_⟩⟩
    have h3 := ((acc_iff h.sig h.flat).1 h.acc).2.2
    have h4 := lack_iff.1 h3 i p hp hsg
    rw [give_given hsg] at hg
    simp only [Bool.or_eq_false_iff, Bool.and_eq_false_iff] at hg
    rcases h4 with h4 | h4 | ⟨h4, h5⟩
    · exact h4
    · rw [hg.1] at h4; cases h4
    · rcases hg.2 with h6 | h6
      · rw [h4] at h6; cases h6
      · rw [h5] at h6; cases h6
  · obtain rfl := h.at hp hx
    have hv := give_vals (s := s) h.flat (i := i) (p := p)
    rw [give_rest hk] at hv ⊢
    exact ⟨rfl, rfl, hv⟩
  · obtain rfl := h.at hp hx
    obtain rfl := h.at hq hy
    rw [give_rest hk] at hne
    have hP := (h.sig.placed_iff hq).1 hpl
    rw [give_given (by rw [single_kind]; rw [placed_kind] at hpl; omega)]
    have hlt : placesQ s < f.places.length := Nat.lt_of_not_le fun h0 => hne (List.drop_eq_nil_of_le h0)
    have : byPl f.places j q = true := by simp [byPl, hpl]; omega
    rw [this]; rfl
  · obtain rfl := h.at hp hx
    unfold giveQ
    rw [if_pos hk]
    refine ⟨rfl, rfl, h.flat.nodup.sublist (List.filter_sublist.map _), fun q hq => ?_⟩
    obtain ⟨h1, h2⟩ := List.mem_filter.1 hq
    exact ⟨by simpa using h2, h.flat.pairs q h1⟩
  · obtain rfl := h.at hp hx
    obtain rfl := h.at hq hy
    exact h.before hp hq hk hji hg

theorem WfB.iff {s : Sig} {b : Bnds} : VBi s b = true ↔ WfB s b ∧ (unbQ s b).places.length ≤ 8 ∧ (unbQ s b).named.length ≤ 8 := by
  constructor
  · intro h
    have G := VBi_given h
    exact ⟨G.wf, G.flat.places, G.flat.named⟩
  · rintro ⟨h1, h2, h3⟩
    exact (h1.valid h2 h3).valid

def plainQ (p : Param) (x : Slot) : Bool := p.hasD && (hd0 x.list == p.dflt)

def isDefQ (p : Param) (x : Slot) : Bool := singleQ p && x.given && plainQ p x

def keepQ (p : Param) (fx nd : Bool) : Bool := (placedQ p && fx) || (p.kind == 0 && nd)

def clrQ (p : Param) (x : Slot) (fx nd : Bool) : Bool := isDefQ p x && !keepQ p fx nd

def leanS (fx : Bool) (i : Nat) (p : Param) (x : Slot) (st : Bnds × Bool) : Bnds × Bool :=
  (if clrQ p x fx st.2 then st.1.set i zL else st.1, st.2 || (p.kind == 0 && (x.given && !clrQ p x fx st.2)))

def leanI (s : Sig) (b : Bnds) (fx : Bool) : Nat → Bnds × Bool → Bnds × Bool
  | 0, st => st
  | i + 1, st => leanI s b fx i (match s[i]?, b[i]? with
    | some p, some x => leanS fx i p x st
    | _, _ => st)

def leanQ (s : Sig) (b : Bnds) (fx : Bool) : Bnds := (leanI s b fx s.length (b, false)).1

theorem leanI_succ {s : Sig} {b : Bnds} {fx : Bool} {i : Nat} {p : Param} {x : Slot} (hp : s[i]? = some p) (hx : b[i]? = some x) (st : Bnds × Bool) : leanI s b fx (i + 1) st = leanI s b fx i (leanS fx i p x st) := by
  simp only [leanI, hp, hx]

def LeanF (s : Sig) (f : Flat) : Flat × Bool := if fitQ s f && accQ s f then checkF (unbQ s (leanQ s (boundQ s f).1 (decide (0 < (restB s (boundQ s f).1).length)))) true else (zF, false)

section

variable {s : Sig} {b : Bnds} {fx : Bool}

theorem leanI_len : ∀ (i : Nat) (st : Bnds × Bool), (leanI s b fx i st).1.length = st.1.length
  | 0, st => rfl
  | i + 1, st => by
    unfold leanI
    rw [leanI_len i]
    split
    · unfold leanS
      simp only
      split <;> simp
    · rfl

theorem leanI_at (hlen : b.length = s.length) : ∀ (i : Nat) (out : Bnds) (nd : Bool), i ≤ s.length → out.length = s.length → (∀ j, j < i → out[j]? = b[j]?) →
    (∀ j, i ≤ j → (leanI s b fx i (out, nd)).1[j]? = out[j]?) ∧
    ∀ (j : Nat) (p : Param) (x : Slot), j < i → s[j]? = some p → b[j]? = some x → ∃ nd' : Bool, (leanI s b fx i (out, nd)).1[j]? = some (if clrQ p x fx nd' then zL else x) ∧
      (nd' = true ↔ nd = true ∨ ∃ (k : Nat) (q : Param) (y : Slot), j < k ∧ k < i ∧ s[k]? = some q ∧ (leanI s b fx i (out, nd)).1[k]? = some y ∧ q.kind = 0 ∧ y.given = true)
  | 0, out, nd, _, _, _ => ⟨fun _ _ => rfl, fun j p x hj => by omega⟩
  | i + 1, out, nd, hi, hol, hag => by
    obtain ⟨p, hp⟩ := at_some (xs := s) (i := i) (by omega)
    obtain ⟨x, hx⟩ := at_some (xs := b) (i := i) (by omega)
    have hxo : out[i]? = some x := by rw [hag i (by omega)]; exact hx
    rw [leanI_succ hp hx]
    generalize hst : leanS fx i p x (out, nd) = st
    obtain ⟨O, N⟩ := st
    have hO : O = if clrQ p x fx nd then out.set i zL else out := by have := congrArg Prod.fst hst; exact this.symm
    have hN : N = (nd || (p.kind == 0 && (x.given && !clrQ p x fx nd))) := by have := congrArg Prod.snd hst; exact this.symm
    have hOl : O.length = s.length := by rw [hO]; split <;> simp [hol]
    have hOj : ∀ j, j ≠ i → O[j]? = out[j]? := fun j hj => by
      rw [hO]
      split
      · rw [List.getElem?_set, if_neg (fun h => hj h.symm)]
      · rfl
    have hOi : O[i]? = some (if clrQ p x fx nd then zL else x) := by
      rw [hO]
      split
      · rw [List.getElem?_set, if_pos rfl, if_pos (by omega)]
      · exact hxo
    obtain ⟨h1, h2⟩ := leanI_at hlen i O N (by omega) hOl (fun j hj => by rw [hOj j (by omega)]; exact hag j (by omega))
    generalize (leanI s b fx i (O, N)).1 = R at h1 h2 ⊢
    have hRi : R[i]? = some (if clrQ p x fx nd then zL else x) := by rw [h1 i (Nat.le_refl _)]; exact hOi
    refine ⟨fun j hj => by rw [h1 j (by omega)]; exact hOj j (by omega), fun j q y hj hq hy => ?_⟩
    by_cases hji : j = i
    · subst hji
      rw [hp] at hq; cases hq
      rw [hx] at hy; cases hy
      refine ⟨nd, hRi, ?_⟩
      constructor
      · exact .inl
      · rintro (h | ⟨k, _, _, hk1, hk2, _⟩)
        · exact h
        · omega
    · obtain ⟨nd', e1, e2⟩ := h2 j q y (by omega) hq hy
      refine ⟨nd', e1, ?_⟩
      rw [e2]
      constructor
      · rintro (h | ⟨k, r, z, a1, a2, a3⟩)
        · rw [hN] at h
          simp only [Bool.or_eq_true, Bool.and_eq_true, beq_iff_eq, Bool.not_eq_true'] at h
          rcases h with h | ⟨h3, h4, h5⟩
          · exact .inl h
          · refine .inr ⟨i, p, x, by omega, by omega, hp, ?_, h3, h4⟩
            rw [hRi, h5]; rfl
        · exact .inr ⟨k, r, z, a1, by omega, a3⟩
      · rintro (h | ⟨k, r, z, a1, a2, a3, a4, a5, a6⟩)
        · left; rw [hN, h]; rfl
        · by_cases hki : k = i
          · subst hki
            left
            rw [hp] at a3; cases a3
            rw [hRi] at a4
            rw [hN]
            cases hc : clrQ p x fx nd with
            | true => rw [hc] at a4; cases a4; cases a6
            | false =>
              rw [hc] at a4; cases a4
              simp only [Bool.false_eq_true, if_false] at a6
              simp [a5, a6]
          · exact .inr ⟨k, r, z, a1, by omega, a3, a4, a5, a6⟩

theorem lean_at (hlen : b.length = s.length) {j : Nat} {p : Param} {x : Slot} (hp : s[j]? = some p) (hx : b[j]? = some x) : ∃ nd : Bool, (leanQ s b fx)[j]? = some (if clrQ p x fx nd then zL else x) ∧
    (nd = true ↔ ∃ (k : Nat) (q : Param) (y : Slot), j < k ∧ s[k]? = some q ∧ (leanQ s b fx)[k]? = some y ∧ q.kind = 0 ∧ y.given = true) := by
  obtain ⟨_, h⟩ := leanI_at (fx := fx) hlen s.length b false (Nat.le_refl _) hlen (fun _ _ => rfl)
  obtain ⟨nd, h1, h2⟩ := h j p x (lt_of_some hp) hp hx
  refine ⟨nd, h1, ?_⟩
  rw [h2]
  constructor
  · rintro (h | ⟨k, q, y, a1, a2, a3⟩)
    · cases h
    · exact ⟨k, q, y, a1, a3⟩
  · rintro ⟨k, q, y, a1, a3, a4⟩
    exact .inr ⟨k, q, y, a1, lt_of_some a3, a3, a4⟩

theorem lean_len (hlen : b.length = s.length) : (leanQ s b fx).length = s.length := by unfold leanQ; rw [leanI_len]; exact hlen

theorem lean_was (hlen : b.length = s.length) {j : Nat} {p : Param} {y : Slot} (hp : s[j]? = some p) (hy : (leanQ s b fx)[j]? = some y) : ∃ x nd, b[j]? = some x ∧ y = (if clrQ p x fx nd then zL else x) ∧
    (nd = true ↔ ∃ (k : Nat) (q : Param) (y : Slot), j < k ∧ s[k]? = some q ∧ (leanQ s b fx)[k]? = some y ∧ q.kind = 0 ∧ y.given = true) := by
  obtain ⟨x, hx⟩ := at_some (xs := b) (i := j) (by rw [hlen]; exact lt_of_some hp)
  obtain ⟨nd, h1, h2⟩ := lean_at (fx := fx) hlen hp hx
  rw [hy] at h1
  cases h1
  exact ⟨x, nd, hx, rfl, h2⟩

theorem clr_iff {p : Param} {x : Slot} {nd : Bool} : clrQ p x fx nd = true ↔ singleQ p = true ∧ x.given = true ∧ p.hasD = true ∧ hd0 x.list = p.dflt ∧ ¬ (placedQ p = true ∧ fx = true) ∧ ¬ (p.kind = 0 ∧ nd = true) := by
  unfold clrQ isDefQ plainQ keepQ
  simp only [Bool.and_eq_true, Bool.not_eq_true', Bool.or_eq_false_iff, beq_iff_eq, Bool.and_eq_false_iff, beq_eq_false_iff_ne, not_and, Bool.not_eq_true]
  constructor
  · rintro ⟨⟨⟨h1, h2⟩, h3, h4⟩, h5, h6⟩
    refine ⟨h1, h2, h3, h4, fun h => ?_, fun h => ?_⟩
    · rcases h5 with h5 | h5
      · rw [h] at h5; cases h5
      · exact h5
    · rcases h6 with h6 | h6
      · exact absurd h h6
      · exact h6
  · rintro ⟨h1, h2, h3, h4, h5, h6⟩
    refine ⟨⟨⟨h1, h2⟩, h3, h4⟩, ?_, ?_⟩
    · cases h : placedQ p with
      | false => exact .inl rfl
      | true => exact .inr (h5 h)
    · by_cases h : p.kind = 0
      · exact .inr (h6 h)
      · exact .inl h

theorem lean_other (hlen : b.length = s.length) {j : Nat} {p : Param} {y : Slot} (hp : s[j]? = some p) (hs : singleQ p = false) (hy : (leanQ s b fx)[j]? = some y) : b[j]? = some y := by
  obtain ⟨x, nd, hx, rfl, _⟩ := lean_was hlen hp hy
  have : clrQ p x fx nd = false := by
    cases h : clrQ p x fx nd with
    | false => rfl
    | true => rw [(clr_iff.1 h).1] at hs; cases hs
  rw [this]; exact hx

theorem lean_given (hlen : b.length = s.length) {j : Nat} {p : Param} {y : Slot} (hp : s[j]? = some p) (hy : (leanQ s b fx)[j]? = some y) (hg : y.given = true) : b[j]? = some y ∧ ∃ nd : Bool, clrQ p y fx nd = false ∧
    (nd = true ↔ ∃ (k : Nat) (q : Param) (y : Slot), j < k ∧ s[k]? = some q ∧ (leanQ s b fx)[k]? = some y ∧ q.kind = 0 ∧ y.given = true) := by
  obtain ⟨x, nd, hx, rfl, h2⟩ := lean_was hlen hp hy
  cases h : clrQ p x fx nd with
  | true => rw [h] at hg; cases hg
  | false => exact ⟨hx, nd, h, h2⟩

end

/-- Whether all places are fixed. -/
abbrev fixQ (s : Sig) (b : Bnds) : Bool := decide (0 < (restB s b).length)

abbrev leanB (s : Sig) (b : Bnds) : Bnds := leanQ s b (fixQ s b)

theorem kIs_at {s : Sig} (h : 0 ≤ idxI (kIs 2) s 0) : ∃ p, s[(idxI (kIs 2) s 0).toNat]? = some p ∧ p.kind = 2 := by
  obtain ⟨p, _, hp, hk, _⟩ := idxI_find h
  exact ⟨p, hp, by simpa [kIs] using hk⟩

theorem not2 {p : Param} (h : p.kind = 2) : singleQ p = false := by simp [singleQ, placedQ, h]

theorem not4 {p : Param} (h : p.kind = 4) : singleQ p = false := by simp [singleQ, placedQ, h]

theorem restB_same {s : Sig} {b c : Bnds} (hb : b.length = s.length) (hc : c.length = s.length) (h : ∀ (j : Nat) (p : Param) (x y : Slot), s[j]? = some p → p.kind = 2 → b[j]? = some x → c[j]? = some y → x.list = y.list) : restB s b = restB s c := by
  by_cases h0 : 0 ≤ idxI (kIs 2) s 0
  · obtain ⟨x, hx, hx2, _⟩ := restB_at hb h0
    obtain ⟨y, hy, hy2, _⟩ := restB_at hc h0
    obtain ⟨p, hp, hk⟩ := kIs_at h0
    rw [hx2, hy2]
    exact h _ p x y hp hk hx hy
  · unfold restB
    rw [if_neg h0, if_neg h0]

theorem fix_full {s : Sig} {b : Bnds} (h : WfB s b) (hf : fixQ s b = true) {j : Nat} {q : Param} {y : Slot} (hq : s[j]? = some q) (hy : b[j]? = some y) (hpl : placedQ q = true) : y.given = true := by
  unfold fixQ at hf
  rw [decide_eq_true_eq] at hf
  by_cases h0 : 0 ≤ idxI (kIs 2) s 0
  · obtain ⟨x, hx, hx2, _⟩ := restB_at h.len h0
    obtain ⟨p, hp, hk⟩ := kIs_at h0
    rw [hx2] at hf
    exact h.full _ p x hp hx hk (fun h1 => by rw [h1] at hf; simp at hf) j q y hq hy hpl
  · unfold restB at hf
    rw [if_neg h0] at hf
    simp at hf

theorem rest_fix {s : Sig} {b : Bnds} (h : WfB s b) {i : Nat} {p : Param} {x : Slot} (hp : s[i]? = some p) (hx : b[i]? = some x) (hk : p.kind = 2) (hne : x.list ≠ []) : fixQ s b = true := by
  have h0 : 0 ≤ idxI (kIs 2) s 0 := (idxI_le (k := 0) (pred := kIs 2) hp (by simp [kIs, hk])).1
  obtain ⟨y, hy, hy2, _⟩ := restB_at h.len h0
  obtain ⟨q, hq, hqk⟩ := kIs_at h0
  have := h.sig.one hq hp (by omega) (not2 hk)
  rw [this, hx] at hy
  cases hy
  unfold fixQ
  rw [hy2, decide_eq_true_eq]
  exact List.length_pos_iff.2 hne

section

variable {s : Sig} {b : Bnds}

theorem WfB.lean (h : WfB s b) : WfB s (leanB s b) := by
  refine ⟨h.sig, lean_len h.len, fun i p y hp hy hsg => ?_, fun i p y hp hy hk => ?_, fun i p y hp hy hk hne j q z hq hz hpl => ?_, fun i p y hp hy hk => ?_, fun j i q p z y hji hq hp hz hy hk hg => ?_⟩
  · obtain ⟨x, nd, hx, rfl, h2⟩ := lean_was h.len hp hy
    obtain ⟨a1, a2⟩ := h.single i p x hp hx hsg
    cases hc : clrQ p x (fixQ s b) nd with
    | true => exact ⟨fun h0 => (by cases h0), fun _ => ⟨rfl, (clr_iff.1 hc).2.2.1⟩⟩
    | false => exact ⟨a1, a2⟩
  · exact h.rest i p y hp (lean_other h.len hp (not2 hk) hy) hk
  · have hx := lean_other h.len hp (not2 hk) hy
    have hf := rest_fix h hp hx hk hne
    obtain ⟨x, nd, hx', rfl, h2⟩ := lean_was h.len hq hz
    have hc : clrQ q x (fixQ s b) nd = false := by
      cases hc : clrQ q x (fixQ s b) nd with
      | false => rfl
      | true => exact absurd ⟨hpl, hf⟩ (clr_iff.1 hc).2.2.2.2.1
    rw [hc]
    exact fix_full h hf hq hx' hpl
  · exact h.map i p y hp (lean_other h.len hp (not4 hk) hy) hk
  · obtain ⟨hx, _⟩ := lean_given h.len hp hy hg
    obtain ⟨x', nd, hx', rfl, h2⟩ := lean_was h.len hq hz
    have hq0 : q.kind = 0 := by
      have h3 := h.sig.sorted (i - j) j q p hq (by rw [show j + (i - j) = i by omega]; exact hp)
      have h4 := h.sig.kindRange (List.mem_of_getElem? hq)
      omega
    have hnd : nd = true := h2.2 ⟨i, p, y, hji, hp, hy, hk, hg⟩
    have hc : clrQ q x' (fixQ s b) nd = false := by
      cases hc : clrQ q x' (fixQ s b) nd with
      | false => rfl
      | true => exact absurd ⟨hq0, hnd⟩ (clr_iff.1 hc).2.2.2.2.2
    rw [hc]
    exact h.first j i q p x' y hji hq hp hx' hx hk hg

theorem WfB.lean_fix (h : WfB s b) : restB s (leanB s b) = restB s b := by
  refine restB_same (lean_len h.len) h.len fun j p x y hp hk hx hy => ?_
  have := lean_other h.len hp (not2 hk) hx
  rw [hy] at this; cases this; rfl

theorem WfB.lean_again (h : WfB s b) : leanB s (leanB s b) = leanB s b := by
  have hL := h.lean
  have hfx : fixQ s (leanB s b) = fixQ s b := by unfold fixQ; rw [h.lean_fix]
  have key : ∀ (d j : Nat), s.length ≤ j + d → (leanB s (leanB s b))[j]? = (leanB s b)[j]? := by
    intro d
    induction d with
    | zero =>
      intro j hj
      rw [List.getElem?_eq_none (by rw [lean_len hL.len]; omega), List.getElem?_eq_none (by rw [hL.len]; omega)]
    | succ d ih =>
      intro j hj
      cases hp : s[j]? with
      | none =>
        have h1 : s.length ≤ j := by rw [List.getElem?_eq_none_iff] at hp; exact hp
        rw [List.getElem?_eq_none (by rw [lean_len hL.len]; omega), List.getElem?_eq_none (by rw [hL.len]; omega)]
      | some p =>
        obtain ⟨y, hy⟩ := hL.get hp
        obtain ⟨nd, h1, h2⟩ := lean_at (fx := fixQ s (leanB s b)) hL.len hp hy
        have hc : clrQ p y (fixQ s (leanB s b)) nd = false := by
          cases hc : clrQ p y (fixQ s (leanB s b)) nd with
          | false => rfl
          | true =>
            obtain ⟨c1, c2, c3, c4, c5, c6⟩ := clr_iff.1 hc
            obtain ⟨_, nd', e1, e2⟩ := lean_given h.len hp hy c2
            have : clrQ p y (fixQ s b) nd' = true := clr_iff.2 ⟨c1, c2, c3, c4, by rw [← hfx]; exact c5, fun ⟨k0, hn⟩ => c6 ⟨k0, ?_⟩⟩
            · rw [this] at e1; cases e1
            · obtain ⟨k, q, z, a1, a2, a3, a4, a5⟩ := e2.1 hn
              exact h2.2 ⟨k, q, z, a1, a2, by rw [ih k (by omega)]; exact a3, a4, a5⟩
        rw [hc] at h1
        show (leanQ s (leanB s b) (fixQ s (leanB s b)))[j]? = _
        rw [h1, hy]; rfl
  apply List.ext_getElem?
  intro j
  exact key s.length j (by omega)

theorem cnt_le {b c : Bnds} (hl : b.length = c.length) (h : ∀ (j : Nat) (x y : Slot), b[j]? = some x → c[j]? = some y → cntL x ≤ cntL y) : cntB b ≤ cntB c := by
  have key : ∀ i, i ≤ b.length → cntB (b.take i) ≤ cntB (c.take i) := by
    intro i
    induction i with
    | zero => intro _; simp [cntB]
    | succ i ih =>
      intro hi
      obtain ⟨x, hx⟩ := at_some (xs := b) (i := i) (by omega)
      obtain ⟨y, hy⟩ := at_some (xs := c) (i := i) (by omega)
      rw [cntB_take hx, cntB_take hy]
      have := ih (by omega)
      have := h i x y hx hy
      omega
  have := key b.length (Nat.le_refl _)
  rw [List.take_length, hl, List.take_length] at this
  exact this

theorem WfB.lean_cnt (h : WfB s b) : cntB (leanB s b) ≤ cntB b := by
  refine cnt_le (by rw [lean_len h.len, h.len]) fun j y x hy hx => ?_
  obtain ⟨p, hp⟩ := at_some (xs := s) (i := j) (by rw [← h.len]; exact lt_of_some hx)
  obtain ⟨x', nd, hx', rfl, _⟩ := lean_was h.len hp hy
  rw [hx] at hx'; cases hx'
  split
  · simp [cntL, zL]
  · exact Nat.le_refl _

end

section

variable {s : Sig} {b c : Bnds}

theorem fill_other {p : Param} {x : Slot} (h : singleQ p = false) : fill1 p x = x := by simp [fill1, h]

theorem fill_given {p : Param} {x : Slot} (h : x.given = true) : fill1 p x = x := by simp [fill1, h]

theorem fill_open {p : Param} {x : Slot} (h : singleQ p = true) (hg : x.given = false) : fill1 p x = ⟨true, [p.dflt], []⟩ := by simp [fill1, h, hg]

end

def sizeF (f : Flat) : Nat := f.places.length + f.named.length

structure LeanOf (s : Sig) (f g : Flat) (b : Bnds) : Prop where
  from_ : Given s f b
  to_ : Given s g (leanB s b)
  eq : g = unbQ s (leanB s b)

section

variable {s : Sig} {f g : Flat} {b : Bnds}

theorem LeanOf.again (h : LeanOf s f g b) : LeanF s g = (g, true) := by
  have hw := h.from_.wf
  unfold LeanF
  rw [if_pos (by rw [fitQ_iff.2 ⟨h.to_.sig, h.to_.flat⟩, h.to_.acc]; rfl)]
  rw [← h.to_.eq]
  have : leanQ s (leanB s b) (decide (0 < (restB s (leanB s b)).length)) = leanB s b := hw.lean_again
  rw [this, ← h.eq]
  unfold checkF
  rw [okFlat_iff.2 h.to_.flat]; rfl

theorem LeanOf.size (h : LeanOf s f g b) : sizeF g ≤ sizeF f := by
  have h1 := h.from_.count
  have h2 := h.to_.count
  have h3 := h.from_.wf.lean_cnt
  unfold sizeF; omega

theorem sEff_iff {s : Sig} {f g : Flat} : SEff s f g = true ↔ ∃ b c, Given s f b ∧ Given s g c ∧ sameB (fillQ s b) (fillQ s c) = true := by
  constructor
  · intro h
    unfold SEff at h
    simp only [Bool.and_eq_true] at h
    obtain ⟨⟨h1, h2⟩, h3⟩ := h
    obtain ⟨a1, a2, a3, a4⟩ := bindQ_ok h1
    obtain ⟨b1, b2, b3, b4⟩ := bindQ_ok h2
    rw [a4, b4] at h3
    exact ⟨_, _, ⟨a1, a2, a3, rfl⟩, ⟨b1, b2, b3, rfl⟩, h3⟩
  · rintro ⟨b, c, h1, h2, h3⟩
    unfold SEff
    rw [h1.bind, h2.bind]
    simpa using h3

theorem Given.inj {c : Bnds} (h : Given s f b) (g : Given s f c) : b = c := by rw [h.eq, g.eq]

end

def foldO {β α : Type} (f : β → α → Option β) : β → List α → Option β
  | b, [] => some b
  | b, a :: l => match f b a with
    | some b' => foldO f b' l
    | none => none

theorem foldO_snoc {β α : Type} {f : β → α → Option β} : ∀ {l : List α} {b : β} {a : α}, foldO f b (l ++ [a]) = (match foldO f b l with
    | some b' => f b' a
    | none => none)
  | [], b, a => by simp only [List.nil_append, foldO]; cases f b a <;> rfl
  | x :: l, b, a => by
    simp only [List.cons_append, foldO]
    cases f b x with
    | none => rfl
    | some b' => exact foldO_snoc

theorem foldO_take {β α : Type} {f : β → α → Option β} {l : List α} {b c : β} (h : foldO f b l = some c) (i : Nat) : ∃ b', foldO f b (l.take i) = some b' := by
  induction l generalizing b i with
  | nil => simp [foldO]
  | cons x l ih =>
    cases i with
    | zero => exact ⟨b, rfl⟩
    | succ i =>
      simp only [foldO, List.take_succ_cons] at h ⊢
      cases hx : f b x with
      | none => rw [hx] at h; cases h
      | some b' =>
        rw [hx] at h
        exact ih h i

theorem foldO_step {β α : Type} {f : β → α → Option β} {l : List α} {b c : β} {i : Nat} {a : α} (h : foldO f b (l.take (i + 1)) = some c) (ha : l[i]? = some a) : ∃ b', foldO f b (l.take i) = some b' ∧ f b' a = some c := by
  rw [← take_snoc ha, foldO_snoc] at h
  cases hx : foldO f b (l.take i) with
  | none => rw [hx] at h; cases h
  | some b' => rw [hx] at h; exact ⟨b', rfl, h⟩

abbrev sAt (s : Sig) (n : Str) : Int := idxI (qIs n) s 0

abbrev kAt (s : Sig) (k : Int) : Int := idxI (kIs k) s 0

def pAt (s : Sig) (n : Str) (f : Param → Bool) : Bool := decide (0 ≤ sAt s n) && (match s[(sAt s n).toNat]? with
  | some p => f p
  | none => false)

def givenAt (b : Bnds) (i : Nat) : Bool := match b[i]? with
  | some y => y.given
  | none => false

def setList (b : Bnds) (i : Nat) (l : List Int) : Bnds := match b[i]? with
  | some y => b.set i ⟨y.given, l, y.pairs⟩
  | none => b

def addPair (b : Bnds) (i : Nat) (q : Pair) : Bnds := match b[i]? with
  | some y => b.set i ⟨y.given, y.list, y.pairs ++ [q]⟩
  | none => b

def giveI (s : Sig) (b : Bnds) (q : Pair) : Option Bnds :=
  if pAt s q.name namedQ && !givenAt b (sAt s q.name).toNat then some (b.set (sAt s q.name).toNat ⟨true, [q.value], []⟩)
  else if kAt s 4 < 0 then none else some (addPair b (kAt s 4).toNat q)

def passS (s : Sig) (b : Bnds) (q : Pair) : Option Bnds :=
  if takesQ s q.name < 0 then none else if pAt s q.name namedQ then (if givenAt b (sAt s q.name).toNat then none else some (b.set (sAt s q.name).toNat ⟨true, [q.value], []⟩))
  else some (addPair b (kAt s 4).toNat q)

def ad1 (g : Bnds → Pair → Option Bnds) (s : Sig) (b : Bnds) (px : Param × Slot) : Option Bnds :=
  if px.1.kind = 2 then (if 0 ≤ kAt s 2 then some (setList b (kAt s 2).toNat px.2.list) else if px.2.list = [] then some b else none)
  else if px.1.kind = 4 then foldO g b px.2.pairs
  else if pAt s px.1.name singleQ then some (b.set (sAt s px.1.name).toNat px.2) else none

def adL (g : Bnds → Pair → Option Bnds) (s old : Sig) (A : Bnds) : Option Bnds := foldO (ad1 g s) (List.replicate s.length zL) (old.zip A)

def AdF (old s : Sig) (f : Flat) : Flat × Bool :=
  if (BindQ old f).2 && okSig s then (match adL (giveI s) s old (fillQ old (BindQ old f).1) with
    | some b => if VBi s b then (unbQ s b, true) else (zF, false)
    | none => (zF, false)) else (zF, false)

theorem sAt_self {s : Sig} (hs : OkS s) {i : Nat} {p : Param} (hp : s[i]? = some p) : sAt s p.name = (i : Int) := by
  have h1 := (idxI_le (k := 0) (pred := qIs p.name) hp (by simp [qIs])).1
  obtain ⟨q, _, hq, hqn, hlt⟩ := idxI_find h1
  have := name_inj hs hq hp (by simpa [qIs] using hqn)
  show idxI (qIs p.name) s 0 = _
  omega

theorem kAt_some {s : Sig} {k : Int} (h : 0 ≤ kAt s k) : ∃ p, s[(kAt s k).toNat]? = some p ∧ p.kind = k := by
  obtain ⟨p, _, hp, hk, _⟩ := idxI_find h
  exact ⟨p, hp, by simpa [kIs] using hk⟩

theorem kAt_none {s : Sig} {k : Int} (h : ¬ 0 ≤ kAt s k) : ∀ (i : Nat) (p : Param), s[i]? = some p → p.kind ≠ k := fun i p hp hk => h (idxI_le (k := 0) (pred := kIs k) hp (by simp [kIs, hk])).1

theorem pAt_some {s : Sig} {n : Str} {f : Param → Bool} (h : pAt s n f = true) : ∃ p, sAt s n = ((sAt s n).toNat : Int) ∧ s[(sAt s n).toNat]? = some p ∧ f p = true ∧ p.name = n := by
  unfold pAt at h
  simp only [Bool.and_eq_true, decide_eq_true_eq] at h
  obtain ⟨p, _, hp, hqn, _⟩ := idxI_find h.1
  rw [hp] at h
  exact ⟨p, by omega, hp, h.2, by simpa [qIs] using hqn⟩

theorem pAt_of {s : Sig} (hs : OkS s) {i : Nat} {p : Param} {f : Param → Bool} (hp : s[i]? = some p) : pAt s p.name f = f p := by
  unfold pAt
  rw [sAt_self hs hp]
  simp [hp]

theorem takes_pAt {s : Sig} (hs : OkS s) {n : Str} : takesQ s n = if pAt s n namedQ then sAt s n else kAt s 4 := by
  cases h : pAt s n namedQ with
  | true =>
    obtain ⟨p, h1, hp, hn, he⟩ := pAt_some h
    have := takes_named hs hp hn
    rw [he] at this
    rw [this, if_pos rfl, h1]
    simp
  | false =>
    unfold takesQ
    rw [if_neg]
    · rfl
    · intro h0
      cases hf : s.find? (qIs n) with
      | none => rw [hf] at h0; cases h0
      | some p =>
        rw [hf] at h0
        have hm := List.mem_of_find?_eq_some hf
        obtain ⟨i, hi⟩ := List.getElem?_of_mem hm
        have hq : p.name = n := by have := List.find?_some hf; simpa [qIs] using this
        have := pAt_of hs (f := namedQ) hi
        rw [hq, h] at this
        simp only at h0
        rw [h0] at this; cases this

theorem named_single {p : Param} (h : namedQ p = true) : singleQ p = true := by rw [named_kind] at h; rw [single_kind]; omega

def Bad (s : Sig) (b : Bnds) : Prop := ∃ (i : Nat) (p : Param) (y : Slot) (q : Pair), s[i]? = some p ∧ p.kind = 4 ∧ b[i]? = some y ∧ q ∈ y.pairs ∧ takesQ s q.name ≠ (i : Int)

theorem bad_valid {s : Sig} {b : Bnds} (h : VBi s b = true) : ¬ Bad s b := by
  rintro ⟨i, p, y, q, hp, hk, hy, hq, ht⟩
  exact ht (((WfB.iff.1 h).1.map i p y hp hy hk).2.2.2 q hq).1

theorem bad_set {s : Sig} {b : Bnds} {k : Nat} {x : Slot} {r : Param} (h : Bad s b) (hr : s[k]? = some r) (hk : r.kind ≠ 4) : Bad s (b.set k x) := by
  obtain ⟨i, p, y, q, hp, hk4, hy, hq, ht⟩ := h
  refine ⟨i, p, y, q, hp, hk4, ?_, hq, ht⟩
  rw [List.getElem?_set, if_neg]
  · exact hy
  · rintro rfl; rw [hp] at hr; cases hr; exact hk hk4

theorem bad_add {s : Sig} {b : Bnds} {k : Nat} {r : Pair} (h : Bad s b) : Bad s (addPair b k r) := by
  obtain ⟨i, p, y, q, hp, hk4, hy, hq, ht⟩ := h
  unfold addPair
  split
  · rename_i z hz
    by_cases hki : k = i
    · subst hki
      rw [hy] at hz; cases hz
      exact ⟨k, p, _, q, hp, hk4, by rw [List.getElem?_set, if_pos rfl, if_pos (lt_of_some hy)], by simp [hq], ht⟩
    · exact ⟨i, p, y, q, hp, hk4, by rw [List.getElem?_set, if_neg hki]; exact hy, hq, ht⟩
  · exact ⟨i, p, y, q, hp, hk4, hy, hq, ht⟩

theorem bad_give {s : Sig} {b b' : Bnds} {q : Pair} (h : Bad s b) (hg : giveI s b q = some b') : Bad s b' := by
  unfold giveI at hg
  split at hg
  · rename_i hc
    simp only [Bool.and_eq_true] at hc
    obtain ⟨p, _, hp, hn, _⟩ := pAt_some hc.1
    cases hg
    exact bad_set h hp (by rw [named_kind] at hn; omega)
  · split at hg
    · cases hg
    · cases hg; exact bad_add h

theorem bad_gives {s : Sig} : ∀ {l : List Pair} {b b' : Bnds}, Bad s b → foldO (giveI s) b l = some b' → Bad s b'
  | [], b, b', h, hg => by simp only [foldO, Option.some.injEq] at hg; subst hg; exact h
  | q :: l, b, b', h, hg => by
    simp only [foldO] at hg
    cases hx : giveI s b q with
    | none => rw [hx] at hg; cases hg
    | some b1 => rw [hx] at hg; exact bad_gives (bad_give h hx) hg

theorem bad_ad1 {s : Sig} {b b' : Bnds} {px : Param × Slot} (h : Bad s b) (hg : ad1 (giveI s) s b px = some b') : Bad s b' := by
  unfold ad1 at hg
  split at hg
  · split at hg
    · rename_i h2
      obtain ⟨p, hp, hk⟩ := kAt_some h2
      cases hg
      unfold setList
      split
      · exact bad_set h hp (by omega)
      · exact h
    · split at hg
      · cases hg; exact h
      · cases hg
  · split at hg
    · exact bad_gives h hg
    · split at hg
      · rename_i hc
        obtain ⟨p, _, hp, hn, _⟩ := pAt_some hc
        cases hg
        exact bad_set h hp (by rw [single_kind] at hn; omega)
      · cases hg

theorem bad_ads {s : Sig} : ∀ {l : List (Param × Slot)} {b b' : Bnds}, Bad s b → foldO (ad1 (giveI s) s) b l = some b' → Bad s b'
  | [], b, b', h, hg => by simp only [foldO, Option.some.injEq] at hg; subst hg; exact h
  | q :: l, b, b', h, hg => by
    simp only [foldO] at hg
    cases hx : ad1 (giveI s) s b q with
    | none => rw [hx] at hg; cases hg
    | some b1 => rw [hx] at hg; exact bad_ads (bad_ad1 h hx) hg

theorem pass_give {s : Sig} (hs : OkS s) {b b' : Bnds} {q : Pair} (h : passS s b q = some b') : giveI s b q = some b' := by
  unfold passS at h
  unfold giveI
  rw [takes_pAt hs] at h
  cases hp : pAt s q.name namedQ with
  | true =>
    rw [hp] at h
    simp only [if_true] at h
    split at h
    · cases h
    · split at h
      · cases h
      · rename_i hg
        rw [show givenAt b (sAt s q.name).toNat = false by simpa using hg]
        exact h
  | false =>
    rw [hp] at h
    simp only [Bool.false_eq_true, if_false] at h
    split at h
    · cases h
    · rename_i h4
      simp only [Bool.false_and, Bool.false_eq_true, if_false]
      rw [if_neg h4]; exact h

theorem give_pass {s : Sig} (hs : OkS s) {b b' : Bnds} {q : Pair} (hl : b.length = s.length) (h : giveI s b q = some b') (hb : ¬ Bad s b') : passS s b q = some b' := by
  unfold giveI at h
  unfold passS
  rw [takes_pAt hs]
  cases hp : pAt s q.name namedQ with
  | true =>
    obtain ⟨p, h1, hp1, hn, he⟩ := pAt_some hp
    rw [hp] at h
    simp only [if_true]
    rw [if_neg (by omega)]
    cases hg : givenAt b (sAt s q.name).toNat with
    | false =>
      rw [hg] at h
      simp only [Bool.not_false, Bool.and_self, if_true] at h
      simp only [Bool.false_eq_true, if_false]
      exact h
    | true =>
      exfalso
      rw [hg] at h
      simp only [Bool.not_true, Bool.and_false, Bool.false_eq_true, if_false] at h
      split at h
      · cases h
      · rename_i h4
        obtain ⟨m, hm, hmk⟩ := kAt_some (s := s) (k := 4) (by omega)
        cases h
        refine hb ?_
        obtain ⟨y, hy⟩ := at_some (xs := b) (i := (kAt s 4).toNat) (by rw [hl]; exact lt_of_some hm)
        refine ⟨(kAt s 4).toNat, m, ⟨y.given, y.list, y.pairs ++ [q]⟩, q, hm, hmk, ?_, by simp, ?_⟩
        · unfold addPair
          rw [hy]
          simp only
          rw [List.getElem?_set, if_pos rfl, if_pos (lt_of_some hy)]
        · rw [takes_pAt hs, hp, if_pos rfl]
          intro h0
          have : (sAt s q.name).toNat = (kAt s 4).toNat := by omega
          rw [this, hm] at hp1
          cases hp1
          rw [named_kind] at hn; omega
  | false =>
    rw [hp] at h
    simp only [Bool.false_and, Bool.false_eq_true, if_false] at h ⊢
    exact h

theorem giveI_len {s : Sig} {b b' : Bnds} {q : Pair} (h : giveI s b q = some b') : b'.length = b.length := by
  unfold giveI at h
  split at h
  · cases h; simp
  · split at h
    · cases h
    · cases h; unfold addPair; split <;> simp

theorem gives_len {s : Sig} : ∀ {l : List Pair} {b b' : Bnds}, foldO (giveI s) b l = some b' → b'.length = b.length
  | [], b, b', h => by simp only [foldO, Option.some.injEq] at h; rw [h]
  | q :: l, b, b', h => by
    simp only [foldO] at h
    cases hx : giveI s b q with
    | none => rw [hx] at h; cases h
    | some b1 => rw [hx] at h; rw [gives_len h, giveI_len hx]

theorem setList_len (b : Bnds) (i : Nat) (l : List Int) : (setList b i l).length = b.length := by unfold setList; split <;> simp

theorem ad1_len {s : Sig} {b b' : Bnds} {px : Param × Slot} (h : ad1 (giveI s) s b px = some b') : b'.length = b.length := by
  unfold ad1 at h
  split at h
  · split at h
    · cases h; exact setList_len _ _ _
    · split at h
      · cases h; rfl
      · cases h
  · split at h
    · exact gives_len h
    · split at h
      · cases h; simp
      · cases h

theorem ads_len {s : Sig} : ∀ {l : List (Param × Slot)} {b b' : Bnds}, foldO (ad1 (giveI s) s) b l = some b' → b'.length = b.length
  | [], b, b', h => by simp only [foldO, Option.some.injEq] at h; rw [h]
  | q :: l, b, b', h => by
    simp only [foldO] at h
    cases hx : ad1 (giveI s) s b q with
    | none => rw [hx] at h; cases h
    | some b1 => rw [hx] at h; rw [ads_len h, ad1_len hx]

theorem gives_pass {s : Sig} (hs : OkS s) : ∀ {l : List Pair} {b b' : Bnds}, b.length = s.length → foldO (giveI s) b l = some b' → ¬ Bad s b' → foldO (passS s) b l = some b'
  | [], b, b', _, h, _ => h
  | q :: l, b, b', hl, h, hb => by
    simp only [foldO] at h ⊢
    cases hx : giveI s b q with
    | none => rw [hx] at h; cases h
    | some b1 =>
      rw [hx] at h
      rw [give_pass hs hl hx (fun h0 => hb (bad_gives h0 h))]
      exact gives_pass hs (by rw [giveI_len hx]; exact hl) h hb

theorem pass_gives {s : Sig} (hs : OkS s) : ∀ {l : List Pair} {b b' : Bnds}, foldO (passS s) b l = some b' → foldO (giveI s) b l = some b'
  | [], b, b', h => h
  | q :: l, b, b', h => by
    simp only [foldO] at h ⊢
    cases hx : passS s b q with
    | none => rw [hx] at h; cases h
    | some b1 =>
      rw [hx] at h
      rw [pass_give hs hx]
      exact pass_gives hs h

theorem ads_pass {s : Sig} (hs : OkS s) : ∀ {l : List (Param × Slot)} {b b' : Bnds}, b.length = s.length → foldO (ad1 (giveI s) s) b l = some b' → ¬ Bad s b' → foldO (ad1 (passS s) s) b l = some b'
  | [], b, b', _, h, _ => h
  | px :: l, b, b', hl, h, hb => by
    simp only [foldO] at h ⊢
    cases hx : ad1 (giveI s) s b px with
    | none => rw [hx] at h; cases h
    | some b1 =>
      rw [hx] at h
      have hb1 : ¬ Bad s b1 := fun h0 => hb (bad_ads h0 h)
      have : ad1 (passS s) s b px = some b1 := by
        unfold ad1 at hx ⊢
        split
        · rename_i h2; rw [if_pos h2] at hx; exact hx
        · rename_i h2
          rw [if_neg h2] at hx
          split
          · rename_i h4
            rw [if_pos h4] at hx
            exact gives_pass hs hl hx hb1
          · rename_i h4
            rw [if_neg h4] at hx
            exact hx
      rw [this]
      exact ads_pass hs (by rw [ad1_len hx]; exact hl) h hb

theorem pass_ads {s : Sig} (hs : OkS s) : ∀ {l : List (Param × Slot)} {b b' : Bnds}, foldO (ad1 (passS s) s) b l = some b' → foldO (ad1 (giveI s) s) b l = some b'
  | [], b, b', h => h
  | px :: l, b, b', h => by
    simp only [foldO] at h ⊢
    cases hx : ad1 (passS s) s b px with
    | none => rw [hx] at h; cases h
    | some b1 =>
      rw [hx] at h
      have : ad1 (giveI s) s b px = some b1 := by
        unfold ad1 at hx ⊢
        split
        · rename_i h2; rw [if_pos h2] at hx; exact hx
        · rename_i h2
          rw [if_neg h2] at hx
          split
          · rename_i h4
            rw [if_pos h4] at hx
            exact pass_gives hs hx
          · rename_i h4
            rw [if_neg h4] at hx
            exact hx
      rw [this]
      exact pass_ads hs h

/-- The reference's way says the same. -/
theorem AdF_spec {old s : Sig} {f : Flat} : AdF old s f = if (BindQ old f).2 && okSig s then (match adL (passS s) s old (fillQ old (BindQ old f).1) with
    | some b => if VBi s b then (unbQ s b, true) else (zF, false)
    | none => (zF, false)) else (zF, false) := by
  unfold AdF
  split
  · rename_i hc
    simp only [Bool.and_eq_true] at hc
    have hs := okSig_iff.1 hc.2
    cases hp : adL (passS s) s old (fillQ old (BindQ old f).1) with
    | some b =>
      have : adL (giveI s) s old (fillQ old (BindQ old f).1) = some b := pass_ads hs hp
      rw [this]
    | none =>
      cases hg : adL (giveI s) s old (fillQ old (BindQ old f).1) with
      | none => rfl
      | some b =>
        have : VBi s b = false := by
          cases hv : VBi s b with
          | false => rfl
          | true =>
            have := ads_pass hs (by simp) hg (bad_valid hv)
            unfold adL at hp
            rw [this] at hp; cases hp
        simp [this]
  · rfl

structure Filled (s : Sig) (A : Bnds) : Prop where
  sig : OkS s
  len : A.length = s.length
  single : ∀ (i : Nat) (p : Param) (x : Slot), s[i]? = some p → A[i]? = some x → singleQ p = true → x.given = true ∧ x.pairs = []
  rest : ∀ (i : Nat) (p : Param) (x : Slot), s[i]? = some p → A[i]? = some x → p.kind = 2 → x.given = false ∧ x.pairs = []
  map : ∀ (i : Nat) (p : Param) (x : Slot), s[i]? = some p → A[i]? = some x → p.kind = 4 → x.given = false ∧ x.list = [] ∧ ∀ q ∈ x.pairs, takesQ s q.name = (i : Int)

theorem WfB.filled {s : Sig} {b : Bnds} (h : WfB s b) : Filled s (fillQ s b) := by
  have key : ∀ (i : Nat) (p : Param) (x : Slot), s[i]? = some p → (fillQ s b)[i]? = some x → ∃ y, b[i]? = some y ∧ x = fill1 p y := fun i p x hp hx => by
    obtain ⟨y, hy⟩ := h.get hp
    rw [fillQ_at hp hy] at hx
    cases hx
    exact ⟨y, hy, rfl⟩
  refine ⟨h.sig, fillQ_len h.len, fun i p x hp hx hs => ?_, fun i p x hp hx hk => ?_, fun i p x hp hx hk => ?_⟩
  · obtain ⟨y, hy, rfl⟩ := key i p x hp hx
    cases hg : y.given with
    | false => rw [fill_open hs hg]; exact ⟨rfl, rfl⟩
    | true => rw [fill_given hg]; exact ⟨hg, by rw [((h.single i p y hp hy hs).1 hg).1]⟩
  · obtain ⟨y, hy, rfl⟩ := key i p x hp hx
    rw [fill_other (not2 hk)]
    exact ⟨(h.rest i p y hp hy hk).1, (h.rest i p y hp hy hk).2.1⟩
  · obtain ⟨y, hy, rfl⟩ := key i p x hp hx
    rw [fill_other (not4 hk)]
    obtain ⟨a, b', _, c⟩ := h.map i p y hp hy hk
    exact ⟨a, b', fun q hq => (c q hq).1⟩

/-- Behind the first 'i' parameters, none of them of the kind that takes all names. -/
structure Front (s old : Sig) (A : Bnds) (i : Nat) (b : Bnds) : Prop where
  len : b.length = s.length
  single : ∀ (k : Nat) (q : Param) (y : Slot), s[k]? = some q → b[k]? = some y → singleQ q = true →
    (y = zL ∧ ∀ (j : Nat) (p : Param), j < i → old[j]? = some p → singleQ p = true → p.name ≠ q.name) ∨ ∃ (j : Nat) (p : Param), j < i ∧ old[j]? = some p ∧ singleQ p = true ∧ p.name = q.name ∧ A[j]? = some y
  rest : ∀ (k : Nat) (q : Param) (y : Slot), s[k]? = some q → b[k]? = some y → q.kind = 2 →
    (y = zL ∧ ∀ (j : Nat) (p : Param), j < i → old[j]? = some p → p.kind ≠ 2) ∨ ∃ (j : Nat) (p : Param) (x : Slot), j < i ∧ old[j]? = some p ∧ p.kind = 2 ∧ A[j]? = some x ∧ y = ⟨false, x.list, []⟩
  map : ∀ (k : Nat) (q : Param) (y : Slot), s[k]? = some q → b[k]? = some y → q.kind = 4 → y = zL
  has : ∀ (j : Nat) (p : Param), j < i → old[j]? = some p → singleQ p = true → pAt s p.name singleQ = true
  left : ∀ (j : Nat) (p : Param) (x : Slot), j < i → old[j]? = some p → p.kind = 2 → A[j]? = some x → 0 ≤ kAt s 2 ∨ x.list = []

theorem front {s old : Sig} {A : Bnds} (hs : OkS s) (hF : Filled old A) : ∀ (i : Nat) (b : Bnds), i ≤ old.length → (∀ (j : Nat) (p : Param), j < i → old[j]? = some p → p.kind ≠ 4) → foldO (ad1 (giveI s) s) (List.replicate s.length zL) ((old.zip A).take i) = some b → Front s old A i b
  | 0, b, _, _, h => by
    simp only [List.take_zero, foldO, Option.some.injEq] at h
    subst h
    have hz : ∀ (k : Nat) (y : Slot), (List.replicate s.length zL)[k]? = some y → y = zL := fun k y hy => by
      have := List.mem_of_getElem? hy
      exact (List.mem_replicate.1 this).2
    exact ⟨by simp, fun k q y _ hy _ => .inl ⟨hz k y hy, fun j p hj => by omega⟩, fun k q y _ hy _ => .inl ⟨hz k y hy, fun j p hj => by omega⟩, fun k q y _ hy _ => hz k y hy, fun j p hj => by omega, fun j p x hj => by omega⟩
  | i + 1, b, hi, h4, h => by
    obtain ⟨p, hp⟩ := at_some (xs := old) (i := i) (by omega)
    obtain ⟨x, hx⟩ := at_some (xs := A) (i := i) (by rw [hF.len]; omega)
    have hzip : (old.zip A)[i]? = some (p, x) := List.getElem?_zip_eq_some.2 ⟨hp, hx⟩
    obtain ⟨b0, h0, h1⟩ := foldO_step h hzip
    have F := front hs hF i b0 (by omega) (fun j q hj hq => h4 j q (by omega) hq) h0
    have hk4 : p.kind ≠ 4 := h4 i p (by omega) hp
    have hkr := hF.sig.kindRange (List.mem_of_getElem? hp)
    have upto : ∀ (j : Nat) (q : Param), j < i + 1 → old[j]? = some q → j < i ∨ (j = i ∧ q = p) := fun j q hj hq => by
      by_cases hji : j = i
      · subst hji; rw [hp] at hq; cases hq; exact .inr ⟨rfl, rfl⟩
      · exact .inl (by omega)
    unfold ad1 at h1
    simp only at h1
    by_cases hk2 : p.kind = 2
    · rw [if_pos hk2] at h1
      by_cases hr : 0 ≤ kAt s 2
      · rw [if_pos hr] at h1
        obtain ⟨r, hrp, hrk⟩ := kAt_some hr
        obtain ⟨y0, hy0⟩ := at_some (xs := b0) (i := (kAt s 2).toNat) (by rw [F.len]; exact lt_of_some hrp)
        have hb : b = b0.set (kAt s 2).toNat ⟨y0.given, x.list, y0.pairs⟩ := by
          simp only [Option.some.injEq] at h1
          rw [← h1]; unfold setList; rw [hy0]
        have hy0z : y0 = zL := by
          rcases F.rest _ r y0 hrp hy0 hrk with h5 | ⟨j, q, _, hj, hq, hqk, _⟩
          · exact h5.1
          · have := hF.sig.one hq hp (by omega) (not2 hk2); omega
        have other : ∀ (k : Nat) (y : Slot), b[k]? = some y → k ≠ (kAt s 2).toNat → b0[k]? = some y := fun k y hy hne => by
          rw [hb, List.getElem?_set, if_neg (fun h => hne h.symm)] at hy; exact hy
        refine ⟨by rw [hb, List.length_set]; exact F.len, fun k q y hq hy hsg => ?_, fun k q y hq hy hqk => ?_, fun k q y hq hy hqk => ?_, fun j q hj hq hsg => ?_, fun j q z hj hq hqk hz => ?_⟩
        · have hne : k ≠ (kAt s 2).toNat := fun h5 => by rw [h5, hrp] at hq; cases hq; rw [not2 hrk] at hsg; cases hsg
          rcases F.single k q y hq (other k y hy hne) hsg with ⟨a1, a2⟩ | ⟨j, q', a1, a2⟩
          · refine .inl ⟨a1, fun j q' hj hq' hs' => ?_⟩
            rcases upto j q' hj hq' with h6 | ⟨rfl, rfl⟩
            · exact a2 j q' h6 hq' hs'
            · rw [not2 hk2] at hs'; cases hs'
          · exact .inr ⟨j, q', by omega, a2⟩
        · have hke : k = (kAt s 2).toNat := hs.one hq hrp (by omega) (not2 hrk)
          subst hke
          rw [hb, List.getElem?_set, if_pos rfl, if_pos (lt_of_some hy0)] at hy
          cases hy
          exact .inr ⟨i, p, x, by omega, hp, hk2, hx, by rw [hy0z]; rfl⟩
        · have hne : k ≠ (kAt s 2).toNat := fun h5 => by rw [h5, hrp] at hq; cases hq; omega
          exact F.map k q y hq (other k y hy hne) hqk
        · rcases upto j q hj hq with h6 | ⟨rfl, rfl⟩
          · exact F.has j q h6 hq hsg
          · rw [not2 hk2] at hsg; cases hsg
        · exact .inl hr
      · rw [if_neg hr] at h1
        split at h1
        · rename_i hxl
          simp only [Option.some.injEq] at h1
          subst h1
          refine ⟨F.len, fun k q y hq hy hsg => ?_, fun k q y hq hy hqk => ?_, F.map, fun j q hj hq hsg => ?_, fun j q z hj hq hqk hz => ?_⟩
          · rcases F.single k q y hq hy hsg with ⟨a1, a2⟩ | ⟨j, q', a1, a2⟩
            · refine .inl ⟨a1, fun j q' hj hq' hs' => ?_⟩
              rcases upto j q' hj hq' with h6 | ⟨rfl, rfl⟩
              · exact a2 j q' h6 hq' hs'
              · rw [not2 hk2] at hs'; cases hs'
            · exact .inr ⟨j, q', by omega, a2⟩
          · exact absurd hqk (kAt_none hr k q hq)
          · rcases upto j q hj hq with h6 | ⟨rfl, rfl⟩
            · exact F.has j q h6 hq hsg
            · rw [not2 hk2] at hsg; cases hsg
          · rcases upto j q hj hq with h6 | ⟨rfl, rfl⟩
            · exact F.left j q z h6 hq hqk hz
            · rw [hx] at hz; cases hz; exact .inr hxl
        · cases h1
    · rw [if_neg hk2, if_neg hk4] at h1
      have hsg : singleQ p = true := single_kind.2 (by omega)
      split at h1
      · rename_i hpa
        simp only [Option.some.injEq] at h1
        obtain ⟨r, hr1, hrp, hrs, hrn⟩ := pAt_some hpa
        have other : ∀ (k : Nat) (y : Slot), b[k]? = some y → k ≠ (sAt s p.name).toNat → b0[k]? = some y := fun k y hy hne => by
          rw [← h1, List.getElem?_set, if_neg (fun h => hne h.symm)] at hy; exact hy
        refine ⟨by rw [← h1, List.length_set]; exact F.len, fun k q y hq hy hqs => ?_, fun k q y hq hy hqk => ?_, fun k q y hq hy hqk => ?_, fun j q hj hq hqs => ?_, fun j q z hj hq hqk hz => ?_⟩
        · by_cases hke : k = (sAt s p.name).toNat
          · subst hke
            rw [hrp] at hq; cases hq
            rw [← h1, List.getElem?_set, if_pos rfl, if_pos (by rw [F.len]; exact lt_of_some hrp)] at hy
            cases hy
            exact .inr ⟨i, p, by omega, hp, hsg, hrn.symm, hx⟩
          · rcases F.single k q y hq (other k y hy hke) hqs with ⟨a1, a2⟩ | ⟨j, q', a1, a2⟩
            · refine .inl ⟨a1, fun j q' hj hq' hs' => ?_⟩
              rcases upto j q' hj hq' with h6 | ⟨rfl, rfl⟩
              · exact a2 j q' h6 hq' hs'
              · intro h7
                have := sAt_self hs hq
                rw [← h7] at this
                omega
            · exact .inr ⟨j, q', by omega, a2⟩
        · have hke : k ≠ (sAt s p.name).toNat := fun h5 => by rw [h5, hrp] at hq; cases hq; rw [not2 hqk] at hrs; cases hrs
          rcases F.rest k q y hq (other k y hy hke) hqk with ⟨a1, a2⟩ | ⟨j, q', z, a1, a2⟩
          · refine .inl ⟨a1, fun j q' hj hq' => ?_⟩
            rcases upto j q' hj hq' with h6 | ⟨rfl, rfl⟩
            · exact a2 j q' h6 hq'
            · exact hk2
          · exact .inr ⟨j, q', z, by omega, a2⟩
        · have hke : k ≠ (sAt s p.name).toNat := fun h5 => by rw [h5, hrp] at hq; cases hq; rw [not4 hqk] at hrs; cases hrs
          exact F.map k q y hq (other k y hy hke) hqk
        · rcases upto j q hj hq with h6 | ⟨rfl, rfl⟩
          · exact F.has j q h6 hq hqs
          · exact hpa
        · rcases upto j q hj hq with h6 | ⟨rfl, rfl⟩
          · exact F.left j q z h6 hq hqk hz
          · exact absurd hqk hk2
      · cases h1

/-- What pairs given one after the other do. -/
structure Gave (s : Sig) (b : Bnds) (l : List Pair) (b' : Bnds) : Prop where
  len : b'.length = b.length
  single : ∀ (k : Nat) (q : Param) (y y' : Slot), s[k]? = some q → singleQ q = true → b[k]? = some y → b'[k]? = some y' → y' = y ∨ (y.given = false ∧ y'.given = true)
  rest : ∀ (k : Nat) (q : Param), s[k]? = some q → q.kind = 2 → b'[k]? = b[k]?
  map : (∀ (k : Nat) (q : Param), s[k]? = some q → singleQ q = true → b'[k]? = b[k]?) → ∀ (k : Nat) (q : Param) (y : Slot), s[k]? = some q → q.kind = 4 → b[k]? = some y → b'[k]? = some ⟨y.given, y.list, y.pairs ++ l⟩
  none_ : (∀ (k : Nat) (q : Param), s[k]? = some q → singleQ q = true → b'[k]? = b[k]?) → kAt s 4 < 0 → l = []

theorem gave {s : Sig} (hs : OkS s) : ∀ (l : List Pair) (b b' : Bnds), b.length = s.length → foldO (giveI s) b l = some b' → Gave s b l b'
  | [], b, b', hl, h => by
    simp only [foldO, Option.some.injEq] at h
    subst h
    exact ⟨rfl, fun k q y y' _ _ h1 h2 => .inl (by rw [h1] at h2; cases h2; rfl), fun _ _ _ _ => rfl, fun _ k q y _ _ h1 => by rw [h1, List.append_nil], fun _ _ => rfl⟩
  | r :: l, b, b', hl, h => by
    simp only [foldO] at h
    cases hx : giveI s b r with
    | none => rw [hx] at h; cases h
    | some b1 =>
      rw [hx] at h
      have hl1 := giveI_len hx
      have I := gave hs l b1 b' (by rw [hl1]; exact hl) h
      unfold giveI at hx
      split at hx
      · rename_i hc
        simp only [Bool.and_eq_true, Bool.not_eq_true'] at hc
        obtain ⟨t, ht1, htp, htn, hte⟩ := pAt_some hc.1
        obtain ⟨y0, hy0⟩ := at_some (xs := b) (i := (sAt s r.name).toNat) (by rw [hl]; exact lt_of_some htp)
        have hg0 : y0.given = false := by have := hc.2; unfold givenAt at this; rw [hy0] at this; exact this
        simp only [Option.some.injEq] at hx
        have h1 : b1[(sAt s r.name).toNat]? = some ⟨true, [r.value], []⟩ := by rw [← hx, List.getElem?_set, if_pos rfl, if_pos (lt_of_some hy0)]
        have other : ∀ k, k ≠ (sAt s r.name).toNat → b1[k]? = b[k]? := fun k hk => by rw [← hx, List.getElem?_set, if_neg (fun h => hk h.symm)]
        obtain ⟨y', hy'⟩ := at_some (xs := b') (i := (sAt s r.name).toNat) (by rw [I.len, hl1]; exact lt_of_some hy0)
        have hg' : y'.given = true := by
          rcases I.single _ t _ y' htp (named_single htn) h1 hy' with h5 | h5
          · rw [h5]
          · cases h5.1
        have turned : ¬ ∀ (k : Nat) (q : Param), s[k]? = some q → singleQ q = true → b'[k]? = b[k]? := fun h5 => by
          have := h5 _ t htp (named_single htn)
          rw [hy', hy0] at this
          cases this
          rw [hg0] at hg'; cases hg'
        refine ⟨by rw [I.len, hl1], fun k q y z hq hsg hy hz => ?_, fun k q hq hk => ?_, fun h5 => absurd h5 turned, fun h5 => absurd h5 turned⟩
        · by_cases hke : k = (sAt s r.name).toNat
          · subst hke
            rw [hy0] at hy; cases hy
            rw [hy'] at hz; cases hz
            exact .inr ⟨hg0, hg'⟩
          · exact I.single k q y z hq hsg (by rw [other k hke]; exact hy) hz
        · have hke : k ≠ (sAt s r.name).toNat := fun h5 => by rw [h5, htp] at hq; cases hq; rw [named_kind] at htn; omega
          rw [I.rest k q hq hk, other k hke]
      · split at hx
        · cases hx
        · rename_i hm4
          obtain ⟨t, htp, htk⟩ := kAt_some (s := s) (k := 4) (by omega)
          obtain ⟨y0, hy0⟩ := at_some (xs := b) (i := (kAt s 4).toNat) (by rw [hl]; exact lt_of_some htp)
          simp only [Option.some.injEq] at hx
          have hb1 : b1 = b.set (kAt s 4).toNat ⟨y0.given, y0.list, y0.pairs ++ [r]⟩ := by rw [← hx]; unfold addPair; rw [hy0]
          have other : ∀ k, k ≠ (kAt s 4).toNat → b1[k]? = b[k]? := fun k hk => by rw [hb1, List.getElem?_set, if_neg (fun h => hk h.symm)]
          have hne : ∀ (k : Nat) (q : Param), s[k]? = some q → q.kind ≠ 4 → k ≠ (kAt s 4).toNat := fun k q hq hk h5 => by rw [h5, htp] at hq; cases hq; exact hk htk
          have same : (∀ (k : Nat) (q : Param), s[k]? = some q → singleQ q = true → b'[k]? = b[k]?) → ∀ (k : Nat) (q : Param), s[k]? = some q → singleQ q = true → b'[k]? = b1[k]? := fun h5 k q hq hsg => by
            rw [h5 k q hq hsg, other k (hne k q hq (by rw [single_kind] at hsg; omega))]
          refine ⟨by rw [I.len, hl1], fun k q y z hq hsg hy hz => ?_, fun k q hq hk => ?_, fun h5 k q y hq hk hy => ?_, fun h5 h6 => absurd h6 hm4⟩
          · exact I.single k q y z hq hsg (by rw [other k (hne k q hq (by rw [single_kind] at hsg; omega))]; exact hy) hz
          · rw [I.rest k q hq hk, other k (hne k q hq (by omega))]
          · have hke : k = (kAt s 4).toNat := hs.one hq htp (by omega) (not4 htk)
            subst hke
            rw [hy0] at hy; cases hy
            have := I.map (same h5) _ q ⟨y0.given, y0.list, y0.pairs ++ [r]⟩ hq hk (by rw [hb1, List.getElem?_set, if_pos rfl, if_pos (lt_of_some hy0)])
            rw [this]; simp

theorem zip_full {s : Sig} {A : Bnds} (h : A.length = s.length) : (s.zip A).take s.length = s.zip A := List.take_of_length_le (by simp [h])

theorem adapted {s old : Sig} {A b : Bnds} (hs : OkS s) (hF : Filled old A) (h : adL (giveI s) s old A = some b) : ∃ (i : Nat) (b0 : Bnds) (l : List Pair), Front s old A i b0 ∧ Gave s b0 l b ∧
    (∀ (j : Nat) (p : Param), old[j]? = some p → j < i ∨ p.kind = 4) ∧ (∀ (j : Nat) (p : Param) (x : Slot), old[j]? = some p → p.kind = 4 → A[j]? = some x → l = x.pairs) ∧ ((∀ (j : Nat) (p : Param), old[j]? = some p → p.kind ≠ 4) → l = []) := by
  unfold adL at h
  rw [← zip_full hF.len] at h
  by_cases h4 : 0 ≤ kAt old 4
  · obtain ⟨m, hm, hmk⟩ := kAt_some h4
    generalize (kAt old 4).toNat = i at hm
    obtain ⟨x, hx⟩ := at_some (xs := A) (i := i) (by rw [hF.len]; exact lt_of_some hm)
    have hlast : ∀ (j : Nat) (p : Param), old[j]? = some p → j < i ∨ j = i := fun j p hp => by
      rcases Nat.lt_trichotomy j i with h1 | h1 | h1
      · exact .inl h1
      · exact .inr h1
      · exfalso
        have h2 := hF.sig.sorted (j - i) i m p hm (by rw [show i + (j - i) = j by omega]; exact hp)
        have h3 := hF.sig.kindRange (List.mem_of_getElem? hp)
        have := hF.sig.one hm hp (by omega) (not4 (by omega))
        omega
    have hlen : old.length = i + 1 := by
      have h1 := lt_of_some hm
      refine Classical.byContradiction fun h2 => ?_
      obtain ⟨p, hp⟩ := at_some (xs := old) (i := i + 1) (by omega)
      rcases hlast _ p hp with h3 | h3 <;> omega
    have hz : (old.zip A)[i]? = some (m, x) := List.getElem?_zip_eq_some.2 ⟨hm, hx⟩
    rw [hlen] at h
    obtain ⟨b0, h0, h1⟩ := foldO_step h hz
    have FR := front hs hF i b0 (by omega) (fun j p hj hp hk => by
      have := hF.sig.one hp hm (by omega) (not4 hmk); omega) h0
    unfold ad1 at h1
    simp only at h1
    rw [if_neg (by omega), if_pos hmk] at h1
    refine ⟨i, b0, x.pairs, FR, gave hs x.pairs b0 b FR.len h1, fun j p hp => ?_, fun j p y hp hk hy => ?_, fun h5 => absurd hmk (h5 i m hm)⟩
    · rcases hlast j p hp with h5 | h5
      · exact .inl h5
      · subst h5; rw [hm] at hp; cases hp; exact .inr hmk
    · have := hF.sig.one hp hm (by omega) (not4 hmk)
      subst this
      rw [hx] at hy; cases hy; rfl
  · have FR := front hs hF old.length b (Nat.le_refl _) (fun j p _ hp => kAt_none h4 j p hp) h
    exact ⟨old.length, b, [], FR, gave hs [] b b FR.len rfl, fun j p hp => .inl (lt_of_some hp), fun j p y hp hk => absurd hk (kAt_none h4 j p hp), fun _ => rfl⟩

theorem slot_eta {x : Slot} (h1 : x.given = false) (h2 : x.pairs = []) : x = ⟨false, x.list, []⟩ := by
  obtain ⟨g, l, p⟩ := x
  simp only at h1 h2
  rw [h1, h2]

theorem ad_back {s old : Sig} {A b2 b3 : Bnds} (hs : OkS s) (hF : Filled old A) (h1 : adL (giveI s) s old A = some b2) (hw : WfB s b2) (h2 : adL (giveI old) old s (fillQ s b2) = some b3) : b3 = A := by
  have ho := hF.sig
  have F2 := hw.filled
  obtain ⟨i, b0, l, FR, GV, hi, hl, hl0⟩ := adapted hs hF h1
  obtain ⟨i', c0, l', FR', GV', hi', hl', hl0'⟩ := adapted ho F2 h2
  have nk4 : ∀ {p : Param}, singleQ p = true → p.kind ≠ 4 := fun h h0 => by rw [not4 h0] at h; cases h
  have lt_i : ∀ (j : Nat) (p : Param), old[j]? = some p → p.kind ≠ 4 → j < i := fun j p hp hk => by
    rcases hi j p hp with h5 | h5
    · exact h5
    · exact absurd h5 hk
  have lt_i' : ∀ (j : Nat) (p : Param), s[j]? = some p → p.kind ≠ 4 → j < i' := fun j p hp hk => by
    rcases hi' j p hp with h5 | h5
    · exact h5
    · exact absurd h5 hk
  -- each parameter of one value has its like in the other signature
  have like : ∀ (k : Nat) (q : Param), s[k]? = some q → singleQ q = true → ∃ (j : Nat) (p : Param), old[j]? = some p ∧ singleQ p = true ∧ p.name = q.name := fun k q hq hsg => by
    obtain ⟨p, _, hp, hps, hpn⟩ := pAt_some (FR'.has k q (lt_i' k q hq (nk4 hsg)) hq hsg)
    exact ⟨_, p, hp, hps, hpn⟩
  have same1 : ∀ (k : Nat) (q : Param), s[k]? = some q → singleQ q = true → b2[k]? = b0[k]? := fun k q hq hsg => by
    obtain ⟨y0, hy0⟩ := at_some (xs := b0) (i := k) (by rw [FR.len]; exact lt_of_some hq)
    obtain ⟨y, hy⟩ := at_some (xs := b2) (i := k) (by rw [hw.len]; exact lt_of_some hq)
    rcases GV.single k q y0 y hq hsg hy0 hy with h5 | ⟨h5, h6⟩
    · rw [hy, hy0, h5]
    · exfalso
      rcases FR.single k q y0 hq hy0 hsg with ⟨_, h7⟩ | ⟨j, p, _, hp, hps, _, hA⟩
      · obtain ⟨j, p, hp, hps, hpn⟩ := like k q hq hsg
        exact h7 j p (lt_i j p hp (nk4 hps)) hp hps hpn
      · rw [(hF.single j p y0 hp hA hps).1] at h5; cases h5
  have at2 : ∀ (k : Nat) (q : Param), s[k]? = some q → singleQ q = true → ∃ (j : Nat) (p : Param) (x : Slot), old[j]? = some p ∧ singleQ p = true ∧ p.name = q.name ∧ A[j]? = some x ∧ b2[k]? = some x ∧ (fillQ s b2)[k]? = some x := fun k q hq hsg => by
    obtain ⟨y0, hy0⟩ := at_some (xs := b0) (i := k) (by rw [FR.len]; exact lt_of_some hq)
    rcases FR.single k q y0 hq hy0 hsg with ⟨_, h7⟩ | ⟨j, p, _, hp, hps, hpn, hA⟩
    · exfalso
      obtain ⟨j, p, hp, hps, hpn⟩ := like k q hq hsg
      exact h7 j p (lt_i j p hp (nk4 hps)) hp hps hpn
    · have hb : b2[k]? = some y0 := by rw [same1 k q hq hsg]; exact hy0
      refine ⟨j, p, y0, hp, hps, hpn, hA, hb, ?_⟩
      rw [fillQ_at hq hb, fill_given (hF.single j p y0 hp hA hps).1]
  have single3 : ∀ (j : Nat) (p : Param) (x : Slot), old[j]? = some p → singleQ p = true → A[j]? = some x → c0[j]? = some x ∧ b3[j]? = some x := fun j p x hp hps hx => by
    obtain ⟨q, _, hq, hqs, hqn⟩ := pAt_some (FR.has j p (lt_i j p hp (nk4 hps)) hp hps)
    generalize (sAt s p.name).toNat = k at hq
    obtain ⟨j', p', x', hp', hps', hpn', hA', hb2, hf2⟩ := at2 k q hq hqs
    have hjj := name_inj ho hp' hp (by rw [hpn', hqn])
    subst hjj
    rw [hx] at hA'; cases hA'
    obtain ⟨z0, hz0⟩ := at_some (xs := c0) (i := j') (by rw [FR'.len]; exact lt_of_some hp)
    obtain ⟨z, hz⟩ := at_some (xs := b3) (i := j') (by rw [GV'.len, FR'.len]; exact lt_of_some hp)
    have hz0x : z0 = x := by
      rcases FR'.single j' p z0 hp hz0 hps with ⟨_, h7⟩ | ⟨k', q', _, hq', hqs', hqn', hA'⟩
      · exact absurd hqn (h7 k q (lt_i' k q hq (nk4 hqs)) hq hqs)
      · have hkk := name_inj hs hq' hq (by rw [hqn', hqn])
        subst hkk
        rw [hf2] at hA'; cases hA'; rfl
    subst hz0x
    refine ⟨hz0, ?_⟩
    rcases GV'.single j' p z0 z hp hps hz0 hz with h5 | ⟨h5, _⟩
    · rw [hz, h5]
    · rw [(hF.single j' p z0 hp hx hps).1] at h5; cases h5
  have same2 : ∀ (k : Nat) (q : Param), old[k]? = some q → singleQ q = true → b3[k]? = c0[k]? := fun k q hq hsg => by
    obtain ⟨x, hx⟩ := at_some (xs := A) (i := k) (by rw [hF.len]; exact lt_of_some hq)
    obtain ⟨a1, a2⟩ := single3 k q x hq hsg hx
    rw [a1, a2]
  -- the pairs of the one that takes all names
  have pairs : l' = l := by
    by_cases h4 : 0 ≤ kAt s 4
    · obtain ⟨m, hm, hmk⟩ := kAt_some h4
      obtain ⟨y0, hy0⟩ := at_some (xs := b0) (i := (kAt s 4).toNat) (by rw [FR.len]; exact lt_of_some hm)
      have h5 := GV.map same1 _ m y0 hm hmk hy0
      rw [FR.map _ m y0 hm hy0 hmk] at h5
      have h6 := hl' _ m _ hm hmk (fillQ_at hm h5)
      rw [h6, fill_other (not4 hmk)]
      simp [zL]
    · rw [hl0' (kAt_none h4), GV.none_ same1 (by omega)]
  apply List.ext_getElem?
  intro j
  cases hp : old[j]? with
  | none =>
    have hj : old.length ≤ j := by rw [List.getElem?_eq_none_iff] at hp; exact hp
    rw [List.getElem?_eq_none (by rw [GV'.len, FR'.len]; exact hj), List.getElem?_eq_none (by rw [hF.len]; exact hj)]
  | some p =>
    obtain ⟨x, hx⟩ := at_some (xs := A) (i := j) (by rw [hF.len]; exact lt_of_some hp)
    obtain ⟨z0, hz0⟩ := at_some (xs := c0) (i := j) (by rw [FR'.len]; exact lt_of_some hp)
    have hkr := ho.kindRange (List.mem_of_getElem? hp)
    rw [hx]
    by_cases hk2 : p.kind = 2
    · rw [GV'.rest j p hp hk2, hz0]
      obtain ⟨x1, x2⟩ := hF.rest j p x hp hx hk2
      rw [slot_eta x1 x2]
      rcases FR'.rest j p z0 hp hz0 hk2 with ⟨h5, h6⟩ | ⟨k, q, x', _, hq, hqk, hx', h5⟩
      · rcases FR.left j p x (lt_i j p hp (by omega)) hp hk2 hx with h7 | h7
        · obtain ⟨q, hq, hqk⟩ := kAt_some h7
          exact absurd hqk (h6 _ q (lt_i' _ q hq (by omega)) hq)
        · rw [h5, h7]; rfl
      · obtain ⟨y0, hy0⟩ := at_some (xs := b0) (i := k) (by rw [FR.len]; exact lt_of_some hq)
        have hb : b2[k]? = some y0 := by rw [GV.rest k q hq hqk]; exact hy0
        rw [fillQ_at hq hb, fill_other (not2 hqk)] at hx'
        have hx2 : y0 = x' := Option.some.inj hx'
        subst hx2
        rcases FR.rest k q y0 hq hy0 hqk with ⟨_, h8⟩ | ⟨j', p', x'', _, hp', hpk', hA', h8⟩
        · exact absurd hk2 (h8 j p (lt_i j p hp (by omega)) hp)
        · have := ho.one hp' hp (by omega) (not2 hk2)
          subst this
          rw [hx] at hA'; cases hA'
          rw [h5, h8]
    · by_cases hk4 : p.kind = 4
      · obtain ⟨x1, x2, _⟩ := hF.map j p x hp hx hk4
        have h5 := GV'.map same2 j p z0 hp hk4 hz0
        rw [FR'.map j p z0 hp hz0 hk4] at h5
        rw [h5, pairs, hl j p x hp hk4 hx]
        obtain ⟨g, xl, xp⟩ := x
        simp only at x1 x2
        rw [x1, x2]; simp [zL]
      · exact (single3 j p x hp (single_kind.2 (by omega)) hx).2

theorem fill_fill {s : Sig} {b : Bnds} (h : WfB s b) : fillQ s (fillQ s b) = fillQ s b := by
  apply List.ext_getElem?
  intro j
  cases hp : s[j]? with
  | none =>
    have h1 : s.length ≤ j := by rw [List.getElem?_eq_none_iff] at hp; exact hp
    rw [List.getElem?_eq_none (by rw [fillQ_len (fillQ_len h.len)]; exact h1), List.getElem?_eq_none (by rw [fillQ_len h.len]; exact h1)]
  | some p =>
    obtain ⟨x, hx⟩ := h.get hp
    rw [fillQ_at hp (fillQ_at hp hx), fillQ_at hp hx]
    cases hs : singleQ p with
    | false => rw [fill_other hs, fill_other hs]
    | true =>
      cases hg : x.given with
      | true => rw [fill_given hg, fill_given hg]
      | false => rw [fill_open hs hg]; simp [fill1]

theorem WfB.fill {s : Sig} {b : Bnds} (h : WfB s b) : WfB s (fillQ s b) := by
  have key : ∀ (i : Nat) (p : Param) (x : Slot), s[i]? = some p → (fillQ s b)[i]? = some x → ∃ y, b[i]? = some y ∧ x = fill1 p y := fun i p x hp hx => by
    obtain ⟨y, hy⟩ := h.get hp
    rw [fillQ_at hp hy] at hx
    cases hx
    exact ⟨y, hy, rfl⟩
  have giv : ∀ (i : Nat) (p : Param) (x : Slot), s[i]? = some p → (fillQ s b)[i]? = some x → singleQ p = true → x.given = true := fun i p x hp hx hsg => (h.filled.single i p x hp hx hsg).1
  refine ⟨h.sig, fillQ_len h.len, fun i p x hp hx hsg => ?_, fun i p x hp hx hk => ?_, fun i p x hp hx hk hne j q y hq hy hpl => ?_, fun i p x hp hx hk => ?_, fun j i q p y x hji hq hp hy hx hk hg => ?_⟩
  · obtain ⟨y, hy, rfl⟩ := key i p x hp hx
    obtain ⟨a1, a2⟩ := h.single i p y hp hy hsg
    cases hg : y.given with
    | true => rw [fill_given hg]; exact ⟨fun _ => a1 hg, fun h0 => by rw [hg] at h0; cases h0⟩
    | false =>
      rw [fill_open hsg hg]
      refine ⟨fun _ => ⟨rfl, ?_⟩, fun h0 => by cases h0⟩
      have := h.sig.params p (List.mem_of_getElem? hp)
      unfold okQ at this
      simp only [Bool.and_eq_true] at this
      exact this.1.1.2
  · obtain ⟨y, hy, rfl⟩ := key i p x hp hx
    rw [fill_other (not2 hk)]
    exact h.rest i p y hp hy hk
  · exact giv j q y hq hy (by rw [placed_kind] at hpl; rw [single_kind]; omega)
  · obtain ⟨y, hy, rfl⟩ := key i p x hp hx
    rw [fill_other (not4 hk)]
    exact h.map i p y hp hy hk
  · refine giv j q y hq hy ?_
    have h3 := h.sig.sorted (i - j) j q p hq (by rw [show j + (i - j) = i by omega]; exact hp)
    have h4 := h.sig.kindRange (List.mem_of_getElem? hq)
    rw [single_kind]; omega

theorem WfB.okB {s : Sig} {b : Bnds} (h : WfB s b) (hsz : ∀ x ∈ b, x.list.length ≤ 1048576 ∧ x.pairs.length ≤ 1048576) : OkB s b :=
  ⟨h.len, h.sig.len, fun p hp => h.sig.kindRange hp, fun i p x hp hx hsg hg => ⟨hd0 x.list, by
    have := ((h.single i p x hp hx hsg).1 hg).1
    rw [this]; rfl⟩, hsz⟩

theorem adapt_back {old s : Sig} {f : Flat} (h1 : (AdF old s f).2 = true) (h2 : (AdF s old (AdF old s f).1).2 = true) : SEff old (AdF s old (AdF old s f).1).1 f = true := by
  have key : ∀ (a c : Sig) (g : Flat), (AdF a c g).2 = true → ∃ b b2, Given a g b ∧ OkS c ∧ adL (giveI c) c a (fillQ a b) = some b2 ∧ VBi c b2 = true ∧ AdF a c g = (unbQ c b2, true) := by
    intro a c g h
    unfold AdF at h ⊢
    split at h
    · rename_i hc
      rw [if_pos hc]
      simp only [Bool.and_eq_true] at hc
      obtain ⟨o1, o2, o3, o4⟩ := bindQ_ok hc.1
      rw [o4] at h ⊢
      split at h
      · rename_i b2 hb2
        split at h
        · rename_i hv
          refine ⟨_, b2, ⟨o1, o2, o3, rfl⟩, okSig_iff.1 hc.2, hb2, hv, ?_⟩
          rw [if_pos hv]
        · cases h
      · cases h
    · cases h
  obtain ⟨b, b2, G, hs, ha, hv, e⟩ := key old s f h1
  rw [e] at h2 ⊢
  obtain ⟨c, b3, G2, ho, ha3, hv3, e3⟩ := key s old (unbQ s b2) h2
  rw [e3]
  have GB := VBi_given hv
  obtain rfl := G2.inj GB
  have hb3 := ad_back hs G.wf.filled ha GB.wf ha3
  have G3 := VBi_given hv3
  refine sEff_iff.2 ⟨_, _, G3, G, ?_⟩
  rw [hb3, fill_fill G.wf]
  exact sameB_self _

/-- As 'ACalls'; the objects from number 'k' on are given up: what is left of them is told zs new objects. -/
def ACallsC (X : Pk) (f : FuncId) (args : List T) (k : Nat) (o : List (Option AObj)) (Φ : Post) : Prop :=
  Callable X.P f ∧ ∀ (D : Nat → Prop) (e : List ALoc) (w : World) (vals : List Value), GlobOk w e → SR D w.heap e o → TRs D w.heap e args vals →
    (∀ (id : Nat) (b : Addr) (esz cap n : Nat), e[id]? = some (.live (some b) esz cap n) → ¬ D b.block) →
    Calls X.P f vals.toArray w fun en w' => ∃ v r o' D' e', en = .returned v ∧ Φ r o' ∧ TR D' w'.heap e' r v ∧ SR D' w'.heap e' o' ∧ Ext w (Wof e) w' ∧
      (∀ (id : Nat) (b : Addr) (esz cap n : Nat), e'[id]? = some (.live (some b) esz cap n) → Wof e b.block ∨ w.heap.size ≤ b.block) ∧
      (∀ b, D' b → b < w.heap.size → D b ∨ Cof k e b) ∧ (∀ id, id < k → e'[id]? = e[id]?) ∧ k ≤ o'.length

theorem ACallsC.mono {X : Pk} {f : FuncId} {args : List T} {k : Nat} {o : List (Option AObj)} {Φ Ψ : Post} (h : ACallsC X f args k o Φ) (hm : ∀ r o', Φ r o' → Ψ r o') : ACallsC X f args k o Ψ :=
  ⟨h.1, fun D e w vals h0 h1 h2 h3 => (h.2 D e w vals h0 h1 h2 h3).mono fun en w' ⟨v, r, o', D', e', a1, a2, a3⟩ => ⟨v, r, o', D', e', a1, hm _ _ a2, a3⟩⟩

section

variable {X : Pk} {N np : Nat} {G : Ctx} {D : Nat → Prop} {e : List ALoc} {σ σ' : State} {a : Act} {w : World} {K : KP}

theorem acalls_of_bodyC {f : FuncId} {fn : Func} {c : Code} {args : List T} (k : Nat) {o : List (Option AObj)} {Φ : Post} (hk : Nat.ble k o.length = true) (hf : X.P.funcs[f]? = some fn) (hb : fn.body = some c)
    (hna : (fn.name == "runtime.NumGoroutine") = false) (hn : Nat.ble args.length fn.ntmps = true) (h : goal X fn.ntmps k (finK X fn k Φ) (.cod c []) ⟨zipArgs 0 args, o, []⟩) : ACallsC X f args k o Φ := by
  have hk' := Nat.le_of_ble_eq_true hk
  refine ⟨⟨fn, hf, by rw [hb]; rfl, hna⟩, ?_⟩
  intro D e w vals hgl hsr hargs hnd
  refine calls_of_wp hf hb ?_
  have hlen : vals.length = args.length := by
    clear h hf hb hn hna
    induction args generalizing vals with
    | nil => simp only [TRs] at hargs; subst hargs; rfl
    | cons t ts ih => simp only [TRs] at hargs; obtain ⟨x, r, rfl, _, h2⟩ := hargs; simp [ih r h2]
  have hn' := Nat.le_of_ble_eq_true hn
  have hel := hsr.len
  have H0 : Rel fn.ntmps k ⟨w, D, e, hgl⟩ D e ⟨zipArgs 0 args, o, []⟩ { tmps := vals.toArray ++ Array.replicate (fn.ntmps - vals.toArray.size) undef, defers := [] } w := by
    refine ⟨by simp only; omega, hk', Ext.refl _ _, rfl, by simp; omega, fun t => ?_, hsr, fun id b esz cap n he => .inl ⟨id, b, esz, cap, n, he, rfl⟩, fun b hb _ => .inl hb, fun _ _ => rfl⟩
    have h1 := getρ_zip args 0 t
    simp only [Nat.zero_add] at h1
    simp only [h1]
    cases ht : args[t]? with
    | none => simp [TR]
    | some x =>
      obtain ⟨v, hv, hxv⟩ := TRs.get hargs ht
      have hlt : t < vals.length := by
        rcases Nat.lt_or_ge t vals.length with h' | h'
        · exact h'
        · rw [List.getElem?_eq_none h'] at hv; cases hv
      have : (vals.toArray ++ Array.replicate (fn.ntmps - vals.toArray.size) undef).getD t undef = v := by
        simp only [Array.getD_eq_getD_getElem?]
        rw [Array.getElem?_append_left (by simpa using hlt)]
        simp [hv]
      rw [this]
      exact hxv
  refine wp_mono (h ⟨w, D, e, hgl⟩ D e _ w H0) ?_
  rintro ex a1 w1 ⟨D1, e1, σ1, H1, hk2⟩
  have fin : (∃ σ', Weak fn.ntmps k σ1 σ' ∧ Fin X fn k Φ σ') → a1.defers = [] ∧ ∃ v, (results fn a1.tmps).run X.P w1 = .ok v w1 ∧ ∃ v' r o' D' e', Ending.returned v = .returned v' ∧ Φ r o' ∧ TR D' w1.heap e' r v' ∧ SR D' w1.heap e' o' ∧ Ext w (Wof e) w1 ∧
      (∀ (id : Nat) (b : Addr) (esz cap n : Nat), e'[id]? = some (.live (some b) esz cap n) → Wof e b.block ∨ w.heap.size ≤ b.block) ∧
      (∀ b, D' b → b < w.heap.size → D b ∨ Cof k e b) ∧ (∀ id, id < k → e'[id]? = e[id]?) ∧ k ≤ o'.length := by
    rintro ⟨σ1', hw1, ks, d, t, hnd', hres, hΦ⟩
    obtain ⟨D1, e1, H1⟩ := hw1 H1
    obtain ⟨v, hv, htv⟩ := resT_spec H1 hres
    obtain ⟨D2, H2, hD2⟩ := H1.fzAll (fun id => idxOf (rangeL 0 k ks) id 0) (fun id hid => by
      have : (rangeL 0 k ks)[id]? = some id := by rw [rangeL_get, if_pos hid]; simp
      obtain ⟨i, hi⟩ := idxOf_some (m := 0) this
      simp [hi])
    have htv2 : TR D2 w1.heap e1 t v := TR.mono (fun b hb => ⟨hD2 b hb, rfl⟩) (Leads.refl e1) t v htv
    refine ⟨H1.defers, v, hv, v, _, _, D2, pickE e1 (rangeL 0 k ks), rfl, hΦ, reT_spec H2.sr (fun id j l => pick_map id j l) d t v htv2, H2.sr.pick hnd' d, H1.ext, ?_, H2.old, ?_, ?_⟩
    · intro id b esz cap n he
      rw [pickE_get] at he
      cases hi : (rangeL 0 k ks)[id]? with
      | none => rw [hi] at he; simp at he
      | some id' =>
        rw [hi] at he
        simp only [Option.map_some, List.getD, Option.some.injEq] at he
        cases hid : e1[id']? with
        | none => rw [hid] at he; simp at he
        | some l => rw [hid] at he; simp at he; subst he; exact H1.new id' b _ _ _ hid
    · intro id hid
      rw [pickE_get, rangeL_get, if_pos hid]
      simp only [Nat.zero_add, Option.map_some, List.getD]
      have := H1.keep id hid
      simp only at this
      rw [this]
      rw [List.getElem?_eq_getElem (show id < e.length by omega)]; simp
    · unfold pickO; rw [pickO'_length, rangeL_length]; omega
  cases ex with
  | normal => exact fin hk2
  | ret => exact fin hk2
  | exit id => exact hk2.elim
  | goto l => exact hk2.elim
  | panic ch => exact hk2.elim
  | outgrown => exact hk2.elim

def killN : List Nat → List (Option AObj) → List (Option AObj)
  | [], o => o
  | id :: r, o => killN r (setNth o id none)

def killE : List Nat → List ALoc → List ALoc
  | [], e => e
  | id :: r, e => killE r (e.set id .dead)

theorem killE_not : ∀ (cs : List Nat) (e : List ALoc) (i : Nat), i ∉ cs → (killE cs e)[i]? = e[i]?
  | [], e, i, _ => rfl
  | id :: r, e, i, h => by
    simp only [List.mem_cons, not_or] at h
    rw [killE, killE_not r _ i h.2, List.getElem?_set, if_neg (fun h0 => h.1 h0.symm)]

theorem killE_live : ∀ (cs : List Nat) (e : List ALoc) (i : Nat) (l : ALoc), (killE cs e)[i]? = some l → l ≠ .dead → i ∉ cs ∧ e[i]? = some l
  | [], e, i, l, h, _ => ⟨by simp, h⟩
  | id :: r, e, i, l, h, hl => by
    obtain ⟨h1, h2⟩ := killE_live r _ i l h hl
    rw [List.getElem?_set] at h2
    split at h2
    · split at h2
      · simp at h2; exact absurd h2.symm hl
      · cases h2
    · rename_i h0
      exact ⟨by simp only [List.mem_cons, not_or]; exact ⟨fun h3 => h0 h3.symm, h1⟩, h2⟩

theorem Rel.killN : ∀ (cs : List Nat) {e : List ALoc} {σ : State}, allGe np cs = true → (∀ id ∈ cs, ∀ ob, σ.o[id]? = some (some ob) → ob.fz = false) → Rel N np G D e σ a w → Rel N np G D (killE cs e) ⟨σ.ρ, Go.Proofs.YtbenojnoepkgbaaGreat.killN cs σ.o, σ.k⟩ a w
  | [], e, σ, _, _, H => H
  | id :: r, e, σ, hg, hf, H => by
    simp only [allGe] at hg
    split at hg
    · rename_i hb
      have h1 := H.kill (Nat.le_of_ble_eq_true hb) (hf id (by simp))
      have h2 := Rel.killN r (e := e.set id .dead) (σ := ⟨σ.ρ, σ.o.set id none, σ.k⟩) hg (fun id' hid' ob hob => by
        simp only at hob
        rw [List.getElem?_set] at hob
        split at hob
        · split at hob <;> simp at hob
        · exact hf id' (by simp [hid']) ob hob) h1
      simp only [Go.Proofs.YtbenojnoepkgbaaGreat.killN, setNth_eq]
      exact h2
    · cases hg

theorem memB_mem : ∀ {l : List Nat} {n : Nat}, memB n l = true → n ∈ l
  | [], n, h => by simp [memB] at h
  | m :: r, n, h => by
    simp only [memB] at h
    split at h
    · rename_i hb; rw [Nat.eq_of_beq_eq_true hb]; simp
    · exact List.mem_cons_of_mem _ (memB_mem h)

theorem nodupB_of : ∀ {l : List Nat}, l.Nodup → nodupB l = true
  | [], _ => rfl
  | k :: ks, h => by
    simp only [List.nodup_cons] at h
    simp only [nodupB]
    split
    · rename_i hm; exact absurd (memB_mem hm) h.1
    · exact nodupB_of h.2

theorem allGe_mem : ∀ {cs : List Nat}, allGe np cs = true → ∀ id ∈ cs, np ≤ id
  | [], _, id, h => by simp at h
  | c :: r, h, id, hid => by
    simp only [allGe] at h
    split at h
    · rename_i hb
      rcases List.mem_cons.1 hid with rfl | hid
      · exact Nat.le_of_ble_eq_true hb
      · exact allGe_mem h id hid
    · cases h

theorem killN_not : ∀ (cs : List Nat) (o : List (Option AObj)) (i : Nat), i ∉ cs → (killN cs o)[i]? = o[i]?
  | [], o, i, _ => rfl
  | id :: r, o, i, h => by
    simp only [List.mem_cons, not_or] at h
    rw [killN, killN_not r _ i h.2, setNth_eq, List.getElem?_set, if_neg (fun h0 => h.1 h0.symm)]

theorem renL_eq (rn : Nat → Nat) : ∀ (cs : List C), renL rn cs = mapC (renC rn) cs
  | [] => rfl
  | c :: cs => by simp only [renL, mapC, renL_eq rn cs]

theorem renR_eq (rn : Nat → Nat) : ∀ (rows : List (List C)), renR rn rows = mapR (renC rn) rows
  | [] => rfl
  | r :: rs => by simp only [renR, mapR, renL_eq, renR_eq rn rs]

theorem reO_rows2 {mp : Nat → Option Nat} {o : List (Option AObj)} {d es : Nat} {rows rows1 rows' : List (List C)} {fz bx : Bool} (h1 : rows = rows1) (h2 : reR mp o d rows1 = rows') : reO mp o d (some ⟨es, rows, false, fz, bx⟩) = some ⟨es, rows', false, fz, bx⟩ := by
  subst h1; exact reO_rows h2

/-- A call that is given the objects 'cs' for good. -/
theorem step_callC {ops : Array Oper} {i : Nat} {dst : Option Nat} {c : Operand} {xs : Array Operand} {ts : Array TypeId} {ty : TypeId} {pos : String} {aft : Array Edge} {g : Option (Nat × Bool)}
    {f : FuncId} {caps : List C} {ρ1 : List (Nat × T)} {of : List (Option AObj)} {κ1 : List Nat} {args args' : List T} {o1 o1' : List (Option AObj)} {Φ : Post} (js cs : List Nat)
    (ho : nthA ops i = some ⟨dst, .call ⟨.value c, xs, ts⟩, ty, pos, aft, g⟩) (hg : guardOf N ops g σ = .go) (hc : evalO σ c = .one (.fn f caps))
    (hnd : nodupB (js ++ cs) = true) (hd : dstB N dst = true) (hcge : allGe np cs = true)
    (hcs : callS np (js ++ cs) σ (appT (evalArgs σ xs.toList) (onesT caps)) = some (⟨ρ1, of, κ1⟩, args, o1)) (hae : args = args') (hoe : o1 = o1') (hcon : ACallsC X f args' js.length o1' Φ) :
    StepA X N np ops i (fun id => id ∈ js ++ cs) σ (fun σ2 => ∃ r o', Φ r o' ∧ retS N js dst ⟨ρ1, killN cs of, κ1⟩ r o' = some σ2) := by
  subst hae; subst hoe
  intro G D e a w Q K' H next
  rw [nthA_eq] at ho
  unfold callS at hcs
  obtain ⟨ρ, oo, κ⟩ := σ
  simp only at hcs
  split at hcs
  · cases hcs
  rename_i hge
  rw [forceO_eq] at hcs
  split at hcs
  · cases hcs
  rename_i hlv
  simp only [Option.some.injEq, Prod.mk.injEq, State.mk.injEq] at hcs
  obtain ⟨⟨rfl, hof, rfl⟩, hargs, ho1⟩ := hcs
  unfold wpOp
  simp only [ho, (guardOf_spec H (ops := ops) (o := ⟨dst, .call ⟨.value c, xs, ts⟩, ty, pos, aft, g⟩)).1 hg, if_true]
  left
  obtain ⟨D1, H1, hD1⟩ := Rel.frz' _ hge H
  rw [hof] at hlv hargs ho1 H1
  have hcv := H1.ev c
  have hc1 : evalO ⟨ρ, of, κ⟩ c = .one (.fn f caps) := by rw [← hc]; cases c <;> rfl
  rw [hc1] at hcv
  simp only [TR, CR] at hcv
  obtain ⟨cv, hcv, hcl, hcr⟩ := hcv
  have hea : ∀ xs, evalArgs ⟨ρ, of, κ⟩ xs = evalArgs ⟨ρ, oo, κ⟩ xs := by
    intro xs
    induction xs with
    | nil => rfl
    | cons x xs ih => simp only [evalArgs, ih]; congr 1
  have hargs0 : TRs D1 w.heap e (appT (evalArgs ⟨ρ, oo, κ⟩ xs.toList) (onesT caps)) (xs.toList.map a.eval ++ cv.toList) := by
    rw [appT_eq]
    have := evalArgs_spec H1 xs.toList
    rw [hea] at this
    exact this.append (onesT_spec (by simpa using hcl) hcr)
  have hargs1 := reTs_spec (e1 := pickE e (js ++ cs)) H1.sr (fun id j l => pick_map id j l) 4 _ _ hargs0
  simp only at hargs1
  rw [hargs] at hargs1
  have hsr1 := H1.sr.pick hnd 4
  simp only at hsr1
  rw [ho1] at hsr1
  have hlive := liveJs_spec hlv
  unfold Oper.wp
  rw [run_call rfl hcv hcon.1]
  simp only [Oper.upon]
  have hnD : ∀ id' ∈ js ++ cs, ∀ (b : Addr) (esz cap n : Nat), e[id']? = some (.live (some b) esz cap n) → ¬ D1 b.block := fun id' hm b esz cap n hid hD => by
    obtain ⟨ob, ho', hf⟩ := hlive id' hm
    obtain ⟨ob', ho'', hf'⟩ := (H1.sr.own id' b _ _ _ hid).2 hD
    rw [ho'] at ho''; simp at ho''; subst ho''; rw [hf] at hf'; cases hf'
  have hpk : ∀ (j : Nat) (l : ALoc), l ≠ .dead → (pickE e (js ++ cs))[j]? = some l → ∃ id', (js ++ cs)[j]? = some id' ∧ e[id']? = some l := fun j l hl he => by
    rw [pickE_get] at he
    cases hi : (js ++ cs)[j]? with
    | none => rw [hi] at he; simp at he
    | some id' =>
      rw [hi] at he
      simp only [Option.map_some, List.getD, Option.some.injEq] at he
      refine ⟨id', rfl, ?_⟩
      cases hid : e[id']? with
      | none => rw [hid] at he; simp at he; exact absurd he.symm hl
      | some l' => rw [hid] at he; simp at he; rw [he]
  have hC := hcon.2 D1 (pickE e (js ++ cs)) w (xs.toList.map a.eval ++ cv.toList) (G.gl.next H1.ext (pickE_new (P := fun n => Wof G.e0 n ∨ G.w0.heap.size ≤ n) H1.new)) hsr1 hargs1 (fun id b esz cap n he hD => by
    obtain ⟨id', hi, hid⟩ := hpk id _ (by simp) he
    exact hnD id' (List.mem_of_getElem? hi) b _ _ _ hid hD)
  have hvals : (xs.toList.map a.eval ++ cv.toList).toArray = xs.map a.eval ++ cv := by
    apply Array.ext'; simp
  rw [hvals] at hC
  refine hC.mono ?_
  rintro en w' ⟨v, r, o', D', e', rfl, hΦ, htr, hsr', hext, hnew, hold, hkeep, hlen⟩
  -- what is given up
  have hnd' := nodupB_spec hnd
  have hdis : ∀ id ∈ js, id ∉ cs := fun id h1 h2 => (List.nodup_append.1 hnd').2.2 id h1 id h2 rfl
  have Hk := H1.killN cs hcge (fun id hid ob hob => by
    obtain ⟨ob', h1, h2⟩ := hlive id (by simp [hid])
    simp only at hob
    rw [hob] at h1; simp at h1; subst h1; exact h2)
  have hjs : pickE (killE cs e) js = pickE e js := by
    apply List.ext_getElem?
    intro j
    rw [pickE_get, pickE_get]
    cases hi : js[j]? with
    | none => rfl
    | some id =>
      simp only [Option.map_some, List.getD]
      rw [killE_not cs e id (hdis id (List.mem_of_getElem? hi))]
  let C : Nat → Prop := fun b => ∃ (id : Nat) (ad : Addr) (esz cap n : Nat), id ∈ cs ∧ e[id]? = some (.live (some ad) esz cap n) ∧ ad.block = b
  have hsplit : ∀ (j id' : Nat), (js ++ cs)[j]? = some id' → (j < js.length ∧ js[j]? = some id') ∨ (js.length ≤ j ∧ id' ∈ cs) := fun j id' h => by
    rw [List.getElem?_append] at h
    split at h
    · rename_i hlt; exact .inl ⟨hlt, h⟩
    · rename_i hge; exact .inr ⟨by omega, List.mem_of_getElem? h⟩
  have hpj : ∀ (j id' : Nat) (l : ALoc), js[j]? = some id' → e[id']? = some l → (pickE e js)[j]? = some l := fun j id' l h1 h2 => by
    rw [pickE_get, h1]; simp [List.getD, h2]
  have hWof : ∀ b, Wof (pickE e (js ++ cs)) b → Wof (pickE (killE cs e) js) b ∨ C b := by
    rintro b ⟨j, ad, esz, cap, n, hj, hb⟩
    obtain ⟨id', hi, hid⟩ := hpk j _ (by simp) hj
    rcases hsplit j id' hi with ⟨_, h1⟩ | ⟨_, h1⟩
    · left; rw [hjs]; exact ⟨j, ad, esz, cap, n, hpj j id' _ h1 hid, hb⟩
    · exact .inr ⟨id', ad, esz, cap, n, h1, hid, hb⟩
  have hCof : ∀ b, Cof js.length (pickE e (js ++ cs)) b → C b := by
    rintro b ⟨j, ad, esz, cap, n, hge, hj, hb⟩
    obtain ⟨id', hi, hid⟩ := hpk j _ (by simp) hj
    rcases hsplit j id' hi with ⟨h0, h1⟩ | ⟨_, h1⟩
    · omega
    · exact ⟨id', ad, esz, cap, n, h1, hid, hb⟩
  obtain ⟨D2, e2, H2, hT2, hP2⟩ := Hk.calledC C
    (by rintro b ⟨id, ad, esz, cap, n, h1, h2, rfl⟩; exact hnD id (by simp [h1]) ad _ _ _ h2)
    (by
      rintro id b esz cap n he ⟨id', ad, esz', cap', n', h1, h2, h3⟩
      obtain ⟨h4, h5⟩ := killE_live cs e id _ he (by simp)
      have := H1.sr.sep id' id ad b _ _ _ _ _ _ h2 h5 h3
      subst this
      exact h4 h1)
    (by rintro b ⟨id, ad, esz, cap, n, h1, h2, rfl⟩; exact H1.new id ad _ _ _ h2)
    (by
      rintro b ⟨id, ad, esz, cap, n, h1, h2, rfl⟩ hlt
      rcases H1.newer (allGe_mem hcge id h1) h2 with h3 | h3
      · omega
      · exact h3)
    (js := js) (nodupB_of (List.nodup_append.1 hnd').1)
    (fun id hid => by
      obtain ⟨ob, h1, h2⟩ := hlive id (by simp [hid])
      exact ⟨ob, by simp only; rw [killN_not cs of id (hdis id hid)]; exact h1, h2⟩)
    hsr' ⟨hext.os, hext.tape, hext.output, hext.size, fun b hb hW => hext.block b hb (fun h => hW (hWof b h))⟩
    (fun id b esz cap n he => by
      rcases hnew id b esz cap n he with h | h
      · rcases hWof _ h with h | h
        · exact .inl h
        · exact .inr (.inl h)
      · exact .inr (.inr h))
    (fun b hb hlt => (hold b hb hlt).elim .inl (fun h => .inr (hCof b h)))
    (fun id hid => by
      rw [hjs] at hid ⊢
      rw [pickE_length] at hid
      rw [hkeep id hid, pickE_get, pickE_get, List.getElem?_append_left hid])
    (by rw [pickE_length]; exact hlen)
  have hx := hT2 r v htr
  have H3 := H2.putv hx (putS_eq hd)
  refine next D2 e2 _ _ w' H3 ⟨fun b hb => hP2.1 b (hD1 b hb), fun id hid b esz cap n he => ?_⟩ ⟨r, o', hΦ, ?_⟩
  · simp only [List.mem_append, not_or] at hid
    exact hP2.2 id hid.1 b esz cap n (by rw [killE_not cs e id hid.2]; exact he)
  · simp only [retS, lenK_eq, Nat.zero_add, forceO_eq, appO_eq]
    exact putS_eq hd

end

theorem giveC_ct (p : Param) : ACalls pk 107 [.agg (eQ p)] [] (fun r o => r = .one (.bool (kIs 4 p)) ∧ o = []) := by
  refine acalls_of_body Tryz.func107 rfl (by kernel_rfl) rfl ?_
  refine rn rfl ?_
  exact rn rfl (fin_is [] rfl ⟨rfl, rfl⟩)

theorem adaptC_ct (p : Param) : ACalls pk 52 [.agg (eQ p)] [] (fun r o => r = .one (.bool (kIs 2 p)) ∧ o = []) := by
  refine acalls_of_body Tryz.func52 rfl (by kernel_rfl) rfl ?_
  refine rn rfl ?_
  exact rn rfl (fin_is [] rfl ⟨rfl, rfl⟩)

/-- What a pair that is given makes of the rows, own memory number 0, and of their pairs, which are given up and come back zs number 1. -/
inductive Gives (g : Option Bnds) (s : Sig) (b : Bnds) (ps : List Pair) : T → List (Option AObj) → Prop
  | no : g = none → Gives g s b ps (.one (.bool false)) [oRows (rowsM none (some (.os 1 0 ps.length ps.length)) s b), ownP ps]
  | yes (b' : Bnds) (ps' : List Pair) : g = some b' → MapHas s b' ps' → ps'.length ≤ ps.length + 1 → Gives g s b ps (.one (.bool true)) [oRows (rowsM none (some (.os 1 0 ps'.length ps'.length)) s b'), ownP ps']

theorem Gives.to {g : Option Bnds} {s : Sig} {b : Bnds} {ps : List Pair} {r : T} {o o' : List (Option AObj)} (h : Gives g s b ps r o) (ho : o' = o) : Gives g s b ps r o' := ho ▸ h

theorem rows_eq {r r' : List (List C)} (h : r = r') : (some ⟨3, r, false, false, false⟩ : Option AObj) = oRows r' := by subst h; rfl

theorem give_ct (s : Sig) (b : Bnds) (q : Pair) (ps : List Pair) (hs : OkS s) (hbl : b.length = s.length) (hm : MapHas s b ps) (hps : ps.length ≤ 1048576) :
    ACallsC pk 53 [.agg [.os 0 0 s.length s.length], .agg (eG s), .agg (eP q)] 1 [oRows (rowsM none (some (.os 1 0 ps.length ps.length)) s b), ownP ps]
      (Gives (giveI s b q) s b ps) := by
  have hsl := hs.len
  have hpAt : pAt s q.name namedQ = (decide (0 ≤ sAt s q.name) && (match s[(sAt s q.name).toNat]? with
    | some p => namedQ p
    | none => false)) := rfl
  have hgI : giveI s b q = if pAt s q.name namedQ && !givenAt b (sAt s q.name).toNat then some (b.set (sAt s q.name).toNat ⟨true, [q.value], []⟩)
    else if kAt s 4 < 0 then none else some (addPair b (kAt s 4).toNat q) := rfl
  refine acalls_of_bodyC 1 rfl Tryz.func53 rfl (by kernel_rfl) rfl ?_
  refine rn rfl ?_
  refine goal_step (step_call [] rfl rfl rfl rfl rfl rfl (find_ct s q.name (by omega))) ?_
  rintro σ2 ⟨r, o', ⟨rfl, rfl⟩, hσ⟩
  obtain rfl := Option.some.inj hσ
  clear hσ
  refine rt 2 rfl ?_
  have key : (pAt s q.name namedQ && !givenAt b (sAt s q.name).toNat) = false → giveI s b q = if kAt s 4 < 0 then none else some (addPair b (kAt s 4).toNat q) := fun h => by rw [hgI, h]; rfl
  refine goal_cutR (fun σ => (pAt s q.name namedQ && !givenAt b (sAt s q.name).toNat) = false ∧ σ = ⟨[(5, .one (.op 4 0 0)), (4, .one (.op 3 0 0)), (3, .one (.op 2 0 0))],
    [oRows (rowsM none (some (.os 1 0 ps.length ps.length)) s b), ownP ps, oV (.os 0 0 s.length s.length), oV (.fs (s.map eQ)), some ⟨2, [eP q], false, false, true⟩], []⟩) ?_ ?_
  · refine rn rfl ?_
    refine goal_guard rfl rfl rfl (fun h => ?_) (fun h => ?_) <;> (try simp only [gt_iff_lt, ge_iff_le, bne_iff_ne, ne_eq, bne_eq_false_iff_eq, beq_iff_eq, beq_eq_false_iff_ne, Bool.not_eq_true', Bool.not_eq_false', decide_eq_true_eq, decide_eq_false_iff_not, List.length_map] at h)
    · obtain ⟨p, hf, hp, hq, hlt⟩ := idxI_find h
      have hat : idxI (qIs q.name) s 0 = ((idxI (qIs q.name) s 0).toNat : Nat) := by omega
      have hpv := hpAt
      change _ = (decide (0 ≤ idxI (qIs q.name) s 0) && (match s[(idxI (qIs q.name) s 0).toNat]? with | some p => namedQ p | none => false)) at hpv
      have hgv : giveI s b q = if pAt s q.name namedQ && !givenAt b (idxI (qIs q.name) s 0).toNat then some (b.set (idxI (qIs q.name) s 0).toNat ⟨true, [q.value], []⟩) else if kAt s 4 < 0 then none else some (addPair b (kAt s 4).toNat q) := hgI
      change _ → _ at key
      have hsa : sAt s q.name = idxI (qIs q.name) s 0 := rfl
      rw [hsa]
      rw [hsa] at key
      generalize (idxI (qIs q.name) s 0).toNat = j at hp hat hpv hgv key ⊢
      rw [hat] at hlt ⊢
      obtain ⟨x, hx⟩ := at_some (xs := b) (i := j) (by omega)
      have hgiv : givenAt b j = x.given := by unfold givenAt; rw [hx]
      rw [hp] at hpv
      rw [decide_eq_true h, Bool.true_and] at hpv
      simp only at hpv
      refine rn rfl ?_
      refine goal_did rfl rfl (dA_index (eQ p) rfl rfl rfl rfl rfl rfl rfl (by omega) (by simp; omega) (map_at (by simpa using hp)) rfl) ?_
      refine rn rfl ?_
      refine goal_step (step_call [] rfl rfl rfl rfl rfl rfl (inamed_ct p)) ?_
      rintro σ2 ⟨r, o', ⟨rfl, rfl⟩, hσ⟩
      obtain rfl := Option.some.inj hσ
      clear hσ
      refine rn rfl ?_
      have hrow := rowsM_at (cr := none) (cm := some (.os 1 0 ps.length ps.length)) hp hx
      refine goal_guard rfl rfl rfl (fun h2 => ?_) (fun h2 => ?_) <;> (try simp only [gt_iff_lt, ge_iff_le, bne_iff_ne, ne_eq, bne_eq_false_iff_eq, beq_iff_eq, beq_eq_false_iff_ne, Bool.not_eq_true', Bool.not_eq_false', decide_eq_true_eq, decide_eq_false_iff_not, List.length_map] at h2)
      · have hnk := named_kind.1 h2
        rw [rowM_plain (by omega) (by omega)] at hrow
        refine rn rfl ?_
        refine goal_did rfl rfl (dA_indexOwn rfl rfl rfl rfl rfl rfl rfl rfl rfl (by omega) (by (try simp); omega)) ?_
        refine goal_did rfl rfl (dA_step rfl) ?_
        refine goal_did rfl rfl (dA_loadEl (eL x) rfl rfl rfl rfl (by simpa using hrow) rfl rfl rfl) ?_
        refine rn rfl ?_
        refine goal_cond rfl (fun hg => ?_) (fun hg => ?_) <;> (try simp only [gt_iff_lt, ge_iff_le, bne_iff_ne, ne_eq, bne_eq_false_iff_eq, beq_iff_eq, beq_eq_false_iff_ne, Bool.not_eq_true', Bool.not_eq_false', decide_eq_true_eq, decide_eq_false_iff_not, List.length_map] at hg)
        · have hg2 : giveI s b q = some (b.set j ⟨true, [q.value], []⟩) := by rw [hgv, hpv, h2, hgiv, hg]; rfl
          refine rn rfl ?_
          refine goal_did rfl rfl (dA_indexOwn rfl rfl rfl rfl rfl rfl rfl rfl rfl (by omega) (by (try simp); omega)) ?_
          refine goal_data 39 [5] (y := .agg (eL ⟨true, [q.value], []⟩)) rfl rfl rfl ?_
          refine goal_did rfl rfl (dA_storeEl (eL x) (rowsM none (some (.os 1 0 ps.length ps.length)) s (b.set j ⟨true, [q.value], []⟩)) false rfl rfl rfl rfl rfl (by simpa using hrow) rfl rfl (by simp [eL]) (by rw [← rowM_plain (cr := none) (cm := some (.os 1 0 ps.length ps.length)) (x := x) (p := p) (by omega) (by omega)]; refine storeRow hp (fun h0 => by omega) (fun h0 => by omega) ?_; simp) (fun h0 => by cases h0)) ?_
          refine rn rfl ?_
          refine cut_ret ?_
          refine fin_is [1] rfl ?_
          exact Gives.to (Gives.yes (s := s) (b := b) (ps := ps) (b.set j ⟨true, [q.value], []⟩) ps hg2 (MapHas.set hm hp (by omega)) (by omega)) (cons_eq (rows_eq (rowsM_re (fun _ => rfl) (fun _ => rfl) _ _ _ _)) (cons_eq rfl rfl))
        · refine rn rfl ?_
          refine cut_nrm [5, 4, 3] [1, 2, 3, 4] rfl ⟨by rw [hpv, h2, hgiv, hg]; rfl, keepS_eq rfl (cons_eq (reO_rows (rowsM_re (fun _ => rfl) (fun _ => rfl) _ _ _ _)) (cons_eq rfl (cons_eq rfl (cons_eq rfl (cons_eq rfl rfl)))))⟩
      · refine rn rfl ?_
        refine cut_nrm [5, 4, 3] [1, 2, 3, 4] rfl ⟨by rw [hpv, h2]; rfl, keepS_eq rfl (cons_eq (reO_rows (rowsM_re (fun _ => rfl) (fun _ => rfl) _ _ _ _)) (cons_eq rfl (cons_eq rfl (cons_eq rfl (cons_eq rfl rfl)))))⟩
    · have hpv := hpAt
      rw [decide_eq_false (show ¬ 0 ≤ sAt s q.name from h), Bool.false_and] at hpv
      refine rn rfl ?_
      refine cut_nrm [5, 4, 3] [1, 2, 3, 4] rfl ⟨by rw [hpv]; rfl, keepS_eq rfl (cons_eq (reO_rows (rowsM_re (fun _ => rfl) (fun _ => rfl) _ _ _ _)) (cons_eq rfl (cons_eq rfl (cons_eq rfl (cons_eq rfl rfl)))))⟩
  rintro _ ⟨hno, rfl⟩
  rw [key hno]
  refine rn rfl ?_
  refine goal_step (step_call [] rfl rfl rfl rfl rfl rfl (indexQ0_ct s (by omega) (kIs 4) _ giveC_ct)) ?_
  rintro σ2 ⟨r, o', ⟨rfl, rfl⟩, hσ⟩
  obtain rfl := Option.some.inj hσ
  clear hσ
  refine rn rfl ?_
  have hk4 : kAt s 4 = idxI (kIs 4) s 0 := rfl
  rw [hk4]
  refine goal_cond rfl (fun h4 => ?_) (fun h4 => ?_) <;> (try simp only [gt_iff_lt, ge_iff_le, bne_iff_ne, ne_eq, bne_eq_false_iff_eq, beq_iff_eq, beq_eq_false_iff_ne, Bool.not_eq_true', Bool.not_eq_false', decide_eq_true_eq, decide_eq_false_iff_not, List.length_map] at h4)
  · rw [if_pos h4]
    refine rn rfl ?_
    exact fin_is [1] rfl (Gives.to (Gives.no (s := s) (b := b) (ps := ps) rfl) (cons_eq (rows_eq (rowsM_re (fun _ => rfl) (fun _ => rfl) _ _ _ _)) (cons_eq rfl rfl)))
  · rw [if_neg h4]
    obtain ⟨p, hf, hp, hq, hlt⟩ := idxI_find (show 0 ≤ idxI (kIs 4) s 0 by omega)
    have hk : p.kind = 4 := by simpa [kIs] using hq
    have hat : idxI (kIs 4) s 0 = ((idxI (kIs 4) s 0).toNat : Nat) := by omega
    generalize (idxI (kIs 4) s 0).toNat = j at hp hat ⊢
    rw [hat] at hlt ⊢
    obtain ⟨x, hx⟩ := at_some (xs := b) (i := j) (by omega)
    have hrow := rowsM_at (cr := none) (cm := some (.os 1 0 ps.length ps.length)) hp hx
    rw [rowM_map hk] at hrow
    have hxp := hm j p x hp hx hk
    have had : addPair b j q = b.set j ⟨x.given, x.list, ps ++ [q]⟩ := by unfold addPair; rw [hx, ← hxp]
    rw [had]
    refine rn rfl ?_
    refine goal_drawL [0, 2, 4] [14] 15 rfl ?_
    refine drnL [0, 1, 2, 3, 4, 5, 9] (by kernel_rfl) (by kernel_rfl) rfl rfl ?_
    refine AHL_did 6 rfl (by kernel_rfl) (by kernel_rfl) (by kernel_rfl) (by kernel_rfl) rfl rfl (dA_indexOwn rfl rfl rfl rfl rfl rfl rfl rfl rfl (by omega) (by (try simp); omega)) ?_
    refine drnL [7] (by kernel_rfl) (by kernel_rfl) rfl rfl ?_
    refine AHL_did 8 rfl (by kernel_rfl) (by kernel_rfl) (by kernel_rfl) (by kernel_rfl) rfl rfl (dA_loadEl [.bool x.given, .fs (x.list.map eI), .os 1 0 ps.length ps.length] rfl rfl rfl rfl (by simpa using hrow) rfl rfl rfl) ?_
    refine AHL_oneDid 10 rfl (by kernel_rfl) rfl rfl (dA_step rfl) (mdOk rfl) ?_
    refine AHL_oneDid 11 rfl (by kernel_rfl) rfl rfl (dA_append (old := (ps).map eP) (rows := ([q] : List Pair).map eP) (((ps) ++ ([q] : List Pair)).map eP) (ps.length + 1) true (Dst.own rfl rfl rfl rfl rfl (by first | (simp; done) | (simp; omega)) (whole (by first | (simp; done) | (simp; omega)))) (Src.os rfl rfl (Nat.le_refl 1) rfl) rfl rfl rfl rfl rfl rfl rfl rfl (rows_len eP_len _) (rows_len eP_len _) (by (try simp only [List.length_map, List.length_append, List.length_cons, List.length_nil, List.length_take, List.length_drop]); show _ * 24 ≤ _; omega) (by first | (simp; done) | (simp; omega)) (by simp) (by first | (simp; done) | (simp; omega)) (fun _ => noOwnR_map _ eP_noOwn _)) (mdOk rfl) ?_
    refine AHL_did 12 rfl (by kernel_rfl) (by kernel_rfl) (by kernel_rfl) (by kernel_rfl) rfl rfl (dA_indexOwn rfl rfl rfl rfl rfl rfl rfl rfl rfl (by omega) (by (try simp); omega)) ?_
    refine drnL [13] (by kernel_rfl) (by kernel_rfl) rfl rfl ?_
    refine AHL_lateDid 14 rfl (by kernel_rfl) rfl rfl (dA_storeEl [.bool x.given, .fs (x.list.map eI), .os 1 0 ps.length ps.length] (rowsM none (some (.os 6 0 (ps.length + 1) (ps.length + 1))) s (b.set j ⟨x.given, x.list, ps ++ [q]⟩)) false rfl rfl rfl rfl rfl (by simpa using hrow) rfl rfl (by simp) (by refine storePairs hs hp hx hk ?_; simp) (fun h0 => by cases h0)) ?_
    refine AH_end (by kernel_rfl) ?_
    refine rn rfl ?_
    exact fin_is [6] rfl (Gives.to (Gives.yes (s := s) (b := b) (ps := ps) (b.set j ⟨x.given, x.list, ps ++ [q]⟩) (ps ++ [q]) rfl (MapHas.put hs hp hk rfl) (by simp)) (cons_eq (rows_eq ((rowsM_re (fun _ => rfl) (fun _ => rfl) _ _ _ _).trans (by rw [show (ps ++ [q]).length = ps.length + 1 by simp]; rfl))) (cons_eq rfl rfl)))

structure LenB (b : Bnds) : Prop where
  len : b.length ≤ 1048576
  size : ∀ x ∈ b, x.list.length ≤ 1048576 ∧ x.pairs.length ≤ 1048576
  names : ∀ x ∈ b, ∀ q ∈ x.pairs, q.name.length ≤ 9223372036854775807

theorem svalidSlot_ct (p : Param) (x : Slot) (h1 : x.list.length ≤ 1048576) (h2 : x.pairs.length ≤ 1048576) (hn : ∀ q ∈ x.pairs, q.name.length ≤ 9223372036854775807) :
    ACalls pk 125 [.agg (eQ p), .agg (eL x)] [] (fun r o => r = .one (.bool (sslotOk p x)) ∧ o = []) := by
  refine acalls_of_body Tryz.func125 rfl (by kernel_rfl) rfl ?_
  refine rn rfl ?_
  refine goal_cond rfl (fun hk2 => ?_) (fun hk2 => ?_) <;> (try simp only [gt_iff_lt, ge_iff_le, bne_iff_ne, ne_eq, bne_eq_false_iff_eq, beq_iff_eq, beq_eq_false_iff_ne, Bool.not_eq_true', Bool.not_eq_false', decide_eq_true_eq, decide_eq_false_iff_not, List.length_map] at hk2)
  · refine rn rfl ?_
    refine goal_guard rfl rfl rfl (fun hg => ?_) (fun hg => ?_) <;> (try simp only [gt_iff_lt, ge_iff_le, bne_iff_ne, ne_eq, bne_eq_false_iff_eq, beq_iff_eq, beq_eq_false_iff_ne, Bool.not_eq_true', Bool.not_eq_false', decide_eq_true_eq, decide_eq_false_iff_not, List.length_map] at hg)
    · refine rn rfl ?_
      refine goal_step (step_call [] rfl rfl rfl rfl rfl rfl (validNumbers_ct x.list (by omega))) ?_
      rintro σ2 ⟨r, o', ⟨rfl, rfl⟩, hσ⟩
      obtain rfl := Option.some.inj hσ
      clear hσ
      refine rn rfl ?_
      refine goal_guard rfl rfl rfl (fun hv => ?_) (fun hv => ?_) <;> (try simp only [gt_iff_lt, ge_iff_le, bne_iff_ne, ne_eq, bne_eq_false_iff_eq, beq_iff_eq, beq_eq_false_iff_ne, Bool.not_eq_true', Bool.not_eq_false', decide_eq_true_eq, decide_eq_false_iff_not, List.length_map] at hv)
      · refine rn rfl ?_
        refine goal_guard rfl rfl rfl (fun hl => ?_) (fun hl => ?_) <;> (try simp only [gt_iff_lt, ge_iff_le, bne_iff_ne, ne_eq, bne_eq_false_iff_eq, beq_iff_eq, beq_eq_false_iff_ne, Bool.not_eq_true', Bool.not_eq_false', decide_eq_true_eq, decide_eq_false_iff_not, List.length_map] at hl)
        · have hl' : x.list.length ≤ 8 := by omega
          refine rn rfl (fin_is [] rfl ⟨?_, rfl⟩)
          simp only [nil_zero, List.length_map]
          simp [sslotOk, hk2, hg, hv, hl']
        · have hl' : ¬ x.list.length ≤ 8 := by omega
          refine rn rfl (fin_is [] rfl ⟨?_, rfl⟩)
          simp [sslotOk, hk2, hg, hv, hl']
      · refine rn rfl (fin_is [] rfl ⟨?_, rfl⟩)
        simp only [sslotOk, hk2, hg, hv]
        simp
    · refine rn rfl (fin_is [] rfl ⟨?_, rfl⟩)
      simp [sslotOk, hk2, hg]
  · refine rn rfl ?_
    refine goal_cond rfl (fun hk4 => ?_) (fun hk4 => ?_) <;> (try simp only [gt_iff_lt, ge_iff_le, bne_iff_ne, ne_eq, bne_eq_false_iff_eq, beq_iff_eq, beq_eq_false_iff_ne, Bool.not_eq_true', Bool.not_eq_false', decide_eq_true_eq, decide_eq_false_iff_not, List.length_map] at hk4)
    · refine rn rfl ?_
      refine goal_guard rfl rfl rfl (fun hg => ?_) (fun hg => ?_) <;> (try simp only [gt_iff_lt, ge_iff_le, bne_iff_ne, ne_eq, bne_eq_false_iff_eq, beq_iff_eq, beq_eq_false_iff_ne, Bool.not_eq_true', Bool.not_eq_false', decide_eq_true_eq, decide_eq_false_iff_not, List.length_map] at hg)
      · refine rn rfl ?_
        refine goal_guard rfl rfl rfl (fun hl => ?_) (fun hl => ?_) <;> (try simp only [gt_iff_lt, ge_iff_le, bne_iff_ne, ne_eq, bne_eq_false_iff_eq, beq_iff_eq, beq_eq_false_iff_ne, Bool.not_eq_true', Bool.not_eq_false', decide_eq_true_eq, decide_eq_false_iff_not, List.length_map] at hl)
        · have hl' : x.list = [] := by
            cases hx : x.list with
            | nil => rfl
            | cons a l => rw [hx] at hl; simp at hl; omega
          refine rn rfl ?_
          refine goal_step (step_call [] rfl rfl rfl rfl rfl rfl (svalidFlat_ct ⟨[], x.pairs⟩ (by simp) (by simp only; omega) hn)) ?_
          rintro σ2 ⟨r, o', ⟨rfl, rfl⟩, hσ⟩
          obtain rfl := Option.some.inj hσ
          clear hσ
          refine rn rfl ?_
          refine rn rfl (fin_is [] rfl ⟨?_, rfl⟩)
          simp [sslotOk, hk2, hk4, hg, hl']
        · have hl' : x.list ≠ [] := fun h0 => by rw [h0] at hl; simp at hl
          refine rn rfl (fin_is [] rfl ⟨?_, rfl⟩)
          simp [sslotOk, hk2, hk4, hg, hl']
      · refine rn rfl (fin_is [] rfl ⟨?_, rfl⟩)
        simp [sslotOk, hk2, hk4, hg]
    · refine rn rfl ?_
      refine goal_guard rfl rfl rfl (fun hp => ?_) (fun hp => ?_) <;> (try simp only [gt_iff_lt, ge_iff_le, bne_iff_ne, ne_eq, bne_eq_false_iff_eq, beq_iff_eq, beq_eq_false_iff_ne, Bool.not_eq_true', Bool.not_eq_false', decide_eq_true_eq, decide_eq_false_iff_not, List.length_map] at hp)
      · have hp' : x.pairs = [] := by
          cases hx : x.pairs with
          | nil => rfl
          | cons a l => rw [hx] at hp; simp at hp; omega
        refine rn rfl ?_
        refine goal_guard rfl rfl rfl (fun hg => ?_) (fun hg => ?_) <;> (try simp only [gt_iff_lt, ge_iff_le, bne_iff_ne, ne_eq, bne_eq_false_iff_eq, beq_iff_eq, beq_eq_false_iff_ne, Bool.not_eq_true', Bool.not_eq_false', decide_eq_true_eq, decide_eq_false_iff_not, List.length_map] at hg)
        · refine rn rfl ?_
          refine goal_guard rfl rfl rfl (fun hl => ?_) (fun hl => ?_) <;> (try simp only [gt_iff_lt, ge_iff_le, bne_iff_ne, ne_eq, bne_eq_false_iff_eq, beq_iff_eq, beq_eq_false_iff_ne, Bool.not_eq_true', Bool.not_eq_false', decide_eq_true_eq, decide_eq_false_iff_not, List.length_map] at hl)
          · have hl' : x.list.length = 1 := by omega
            refine rn rfl ?_
            refine goal_step (step_call [] rfl rfl rfl rfl rfl rfl (validNumbers_ct x.list (by omega))) ?_
            rintro σ2 ⟨r, o', ⟨rfl, rfl⟩, hσ⟩
            obtain rfl := Option.some.inj hσ
            clear hσ
            refine rn rfl ?_
            refine goal_guard rfl rfl rfl (fun hv => ?_) (fun hv => ?_) <;> (try simp only [gt_iff_lt, ge_iff_le, bne_iff_ne, ne_eq, bne_eq_false_iff_eq, beq_iff_eq, beq_eq_false_iff_ne, Bool.not_eq_true', Bool.not_eq_false', decide_eq_true_eq, decide_eq_false_iff_not, List.length_map] at hv)
            · refine rn rfl (fin_is [] rfl ⟨?_, rfl⟩)
              simp only [sslotOk, hk2, hk4, hg, hp', hv, hl']
              simp
            · refine rn rfl ?_
              refine goal_guard rfl rfl rfl (fun h0 => by simp [hg] at h0) (fun _ => ?_)
              refine rn rfl (fin_is [] rfl ⟨?_, rfl⟩)
              simp only [sslotOk, hk2, hk4, hg, hp', hv, hl']
              simp
          · have hl' : ¬ x.list.length = 1 := by omega
            refine rn rfl ?_
            refine goal_guard rfl rfl rfl (fun h0 => by simp [hg] at h0) (fun _ => ?_)
            refine rn rfl (fin_is [] rfl ⟨?_, rfl⟩)
            simp [sslotOk, hk2, hk4, hg, hp', hl']
        · refine rn rfl ?_
          refine goal_guard rfl rfl rfl (fun _ => ?_) (fun h0 => by simp [hg] at h0)
          refine rn rfl (fin_is [] rfl ⟨?_, rfl⟩)
          simp only [nil_zero, List.length_map]
          simp [sslotOk, hk2, hk4, hg, hp']
      · have hp' : x.pairs ≠ [] := fun h0 => by rw [h0] at hp; simp at hp
        refine rn rfl (fin_is [] rfl ⟨?_, rfl⟩)
        simp [sslotOk, hk2, hk4, hp']

theorem sslot_small {p : Param} {x : Slot} (h : sslotOk p x = true) : x.list.length ≤ 8 ∧ x.pairs.length ≤ 8 ∧ (namesOf x.pairs).Nodup := by
  unfold sslotOk at h
  split at h
  · simp only [Bool.and_eq_true, decide_eq_true_eq] at h
    obtain ⟨_, _, h1, h2⟩ := h
    rw [h2]; exact ⟨h1, by simp, by simp [namesOf]⟩
  · split at h
    · simp only [Bool.and_eq_true, decide_eq_true_eq] at h
      obtain ⟨_, h1, h2⟩ := h
      have := okFlat_iff.1 h2
      rw [h1]; exact ⟨by simp, this.named, this.nodup⟩
    · simp only [Bool.and_eq_true, Bool.or_eq_true, decide_eq_true_eq] at h
      obtain ⟨h1, h2⟩ := h
      rw [h1]
      rcases h2 with ⟨_, h2, _⟩ | ⟨_, h2⟩
      · exact ⟨by omega, by simp, by simp [namesOf]⟩
      · rw [h2]; exact ⟨by simp, by simp, by simp [namesOf]⟩

theorem sslots_okB {s : Sig} {b : Bnds} (hs : OkS s) (hlen : b.length = s.length) (hall : ∀ j, j < b.length → sslotAt s b j = true) : OkB s b ∧ NdB b := by
  have key : ∀ x ∈ b, ∃ (i : Nat) (p : Param), s[i]? = some p ∧ b[i]? = some x ∧ sslotOk p x = true := fun x hx => by
    obtain ⟨i, hi⟩ := List.getElem?_of_mem hx
    obtain ⟨p, hp⟩ := at_some (xs := s) (i := i) (by rw [← hlen]; exact lt_of_some hi)
    have := hall i (lt_of_some hi)
    unfold sslotAt at this
    rw [hp, hi] at this
    exact ⟨i, p, hp, hi, this⟩
  have hfew := hs.len
  refine ⟨⟨hlen, hs.len, fun p hp => hs.kindRange hp, fun i p x hp hx hsg hg => ?_, fun x hx => ?_⟩, ⟨by omega, fun x hx => ?_, fun x hx => ?_⟩⟩
  · have := hall i (lt_of_some hx)
    unfold sslotAt sslotOk at this
    rw [hp, hx] at this
    rw [single_kind] at hsg
    simp only at this
    rw [if_neg (by omega), if_neg (by omega), hg] at this
    simp only [Bool.and_eq_true, Bool.or_eq_true, decide_eq_true_eq] at this
    rcases this.2 with h | h
    · exact List.length_eq_one_iff.1 h.2.1
    · simp at h
  · obtain ⟨i, p, _, _, h⟩ := key x hx
    obtain ⟨h1, h2, _⟩ := sslot_small h
    omega
  · obtain ⟨i, p, _, _, h⟩ := key x hx
    obtain ⟨h1, h2, _⟩ := sslot_small h
    omega
  · obtain ⟨i, p, _, _, h⟩ := key x hx
    exact (sslot_small h).2.2

theorem sslots_small {s : Sig} {b : Bnds} (hs : OkS s) (hlen : b.length = s.length) (hall : ∀ j, j < b.length → sslotAt s b j = true) : ∀ x ∈ b, x.list.length ≤ 8 ∧ x.pairs.length ≤ 8 := by
  intro x hx
  obtain ⟨i, hi⟩ := List.getElem?_of_mem hx
  obtain ⟨p, hp⟩ := at_some (xs := s) (i := i) (by rw [← hlen]; exact lt_of_some hi)
  have := hall i (lt_of_some hi)
  unfold sslotAt at this
  rw [hp, hi] at this
  obtain ⟨h1, h2, _⟩ := sslot_small this
  exact ⟨h1, h2⟩

theorem unb_lenS {s : Sig} {b : Bnds} (hs : LenS s) (hb : ∀ x ∈ b, ∀ q ∈ x.pairs, q.name.length ≤ 9223372036854775807) (hok : OkB s b) (hsz : ∀ x ∈ b, x.list.length ≤ 8 ∧ x.pairs.length ≤ 8) : LenF (unbQ s b) := by
  have h1 := unb_cnt hok
  have h2 := cntB_bound (M := 16) (b := b) (fun x hx => by have := hsz x hx; unfold cntL; omega)
  have h3 := hok.few
  have h4 := hok.len
  exact ⟨by omega, by omega, unb_names hs.names hb⟩

theorem svalidB_ct (s : Sig) (b : Bnds) (hs : LenS s) (hb : LenB b) : ACalls pk 64 [.agg (eG s), .agg (eBi b)] [] (fun r o => r = .one (.bool (VBs s b)) ∧ o = []) := by
  have hls := hs
  obtain ⟨s1, s2⟩ := hs
  have hbl := hb.len
  refine acalls_of_body Tryz.func64 rfl (by kernel_rfl) rfl ?_
  refine rn rfl ?_
  refine goal_step (step_call [] rfl rfl rfl rfl rfl rfl (svalidSig_ct s (by omega) s2)) ?_
  rintro σ2 ⟨r, o', ⟨rfl, rfl⟩, hσ⟩
  obtain rfl := Option.some.inj hσ
  clear hσ
  refine rn rfl ?_
  refine goal_guard rfl rfl rfl (fun h1 => ?_) (fun h1 => ?_) <;> (try simp only [gt_iff_lt, ge_iff_le, bne_iff_ne, ne_eq, bne_eq_false_iff_eq, beq_iff_eq, beq_eq_false_iff_ne, Bool.not_eq_true', Bool.not_eq_false', decide_eq_true_eq, decide_eq_false_iff_not, List.length_map] at h1)
  · refine rn rfl (fin_is [] rfl ⟨?_, rfl⟩)
    simp [VBs, h1]
  have hok := okSig_iff.1 h1
  refine rn rfl ?_
  refine goal_cond rfl (fun h2 => ?_) (fun h2 => ?_) <;> simp only [List.length_map, bne_iff_ne, ne_eq, bne_eq_false_iff_eq] at h2
  · refine rn rfl (fin_is [] rfl ⟨?_, rfl⟩)
    have : b.length ≠ s.length := by omega
    simp [VBs, this]
  have hlen : b.length = s.length := by omega
  refine rn rfl ?_
  refine goal_loop_keep (fun m σ => ∃ (q : Int) (i : Nat), q = i ∧ i ≤ b.length ∧ m = b.length - i ∧ (∀ j, j < i → sslotAt s b j = true) ∧
      σ = ⟨[(5, .one (.int .i64 q)), (3, .one (.op 1 0 0)), (2, .one (.op 0 0 0))],
        [some ⟨1, [eG s], false, false, true⟩, some ⟨1, [eBi b], false, false, true⟩], []⟩) b.length [5, 3, 2] [0, 1] rfl
    ⟨_, 0, rfl, by omega, by omega, fun j hj => by omega, rfl⟩ ?_
  rintro m σ ⟨q, i, rfl, hi, rfl, hall, rfl⟩
  refine rn rfl ?_
  refine goal_cond rfl (fun h3 => ?_) (fun h3 => ?_) <;> (try simp only [gt_iff_lt, ge_iff_le, bne_iff_ne, ne_eq, bne_eq_false_iff_eq, beq_iff_eq, beq_eq_false_iff_ne, Bool.not_eq_true', Bool.not_eq_false', decide_eq_true_eq, decide_eq_false_iff_not, List.length_map] at h3)
  · obtain ⟨x, hx⟩ := at_some (xs := b) (i := i) (by omega)
    obtain ⟨p, hp⟩ := at_some (xs := s) (i := i) (by omega)
    obtain ⟨l1, l2⟩ := hb.size x (List.mem_of_getElem? hx)
    have ln := hb.names x (List.mem_of_getElem? hx)
    refine rn rfl ?_
    refine goal_draw' [0, 1] 12 rfl ?_
    refine drn [0, 1, 2, 5, 6, 7] (by kernel_rfl) (by kernel_rfl) rfl rfl ?_
    refine AH_did 3 rfl (by kernel_rfl) (by kernel_rfl) (by kernel_rfl) rfl rfl (dA_index (eQ p) rfl rfl rfl rfl rfl rfl rfl (by omega) (by (try simp); omega) (map_at (by simpa using hp)) rfl) ?_
    refine drn [4] (by kernel_rfl) (by kernel_rfl) rfl rfl ?_
    refine AH_did 8 rfl (by kernel_rfl) (by kernel_rfl) (by kernel_rfl) rfl rfl (dA_index (eL x) rfl rfl rfl rfl rfl rfl rfl (by omega) (by (try simp); omega) (map_at (by simpa using hx)) rfl) ?_
    refine drn [9] (by kernel_rfl) (by kernel_rfl) rfl rfl ?_
    refine AH_one (i := 10) (by kernel_rfl) (step_call [] rfl rfl rfl rfl rfl rfl (svalidSlot_ct p x l1 l2 ln)) (by simp) ?_
    rintro σ2 ⟨r, o', ⟨rfl, rfl⟩, hσ⟩
    obtain rfl := Option.some.inj hσ
    clear hσ
    refine drn [11] (by kernel_rfl) (by kernel_rfl) rfl rfl ?_
    refine AH_end (by kernel_rfl) ?_
    refine rn rfl ?_
    refine goal_cond rfl (fun h4 => ?_) (fun h4 => ?_) <;> simp only [Bool.not_eq_true', Bool.not_eq_false'] at h4
    · refine rn rfl (round_ret (fin_is [] rfl ⟨?_, rfl⟩))
      have h5 : sslotAt s b i = false := by unfold sslotAt; rw [hp, hx]; exact h4
      have : (List.range b.length).all (sslotAt s b) = false := by
        rw [List.all_eq_false]
        exact ⟨i, List.mem_range.2 (by omega), by simp [h5]⟩
      simp [VBs, this]
    · have h5 : sslotAt s b i = true := by unfold sslotAt; rw [hp, hx]; exact h4
      refine rn rfl ?_
      refine round_keep (b.length - (i + 1)) [5, 3, 2] [0, 1] (by omega) rfl ⟨_, i + 1, wrap64 (by omega) (by omega), by omega, rfl, fun j hj => ?_, rfl⟩
      by_cases hji : j = i
      · subst hji; exact h5
      · exact hall j (by omega)
  · refine rn rfl (round_ext ?_)
    have hall' : ∀ j, j < b.length → sslotAt s b j = true := fun j hj => hall j (by omega)
    obtain ⟨hokB, hnd⟩ := sslots_okB hok hlen hall'
    have hr : (List.range b.length).all (sslotAt s b) = true := by
      rw [List.all_eq_true]; intro j hj; exact hall' j (List.mem_range.1 hj)
    have hV : VBs s b = (okFlat (unbQ s b) && (accQ s (unbQ s b) && sameB (boundQ s (unbQ s b)).1 b)) := by unfold VBs; rw [hr, h1, decide_eq_true hlen]; simp only [Bool.true_and]
    have lU := unb_lenS hls hb.names hokB (fun x hx => sslots_small hok hlen hall' x hx)
    have hU := sunbound_ct s b hokB
    have hF := svalidFlat_ct (unbQ s b) (by have := lU.places; omega) (by have := lU.named; omega) lU.names
    have hA := saccepts_ct s (unbQ s b) hok lU
    have hB := sbound_ct s (unbQ s b) hok lU.places lU.named
    have hG : okFlat (unbQ s b) = true → accQ s (unbQ s b) = true → NdB (boundQ s (unbQ s b)).1 := fun a1 a2 => (Given.mk (s := s) (f := unbQ s b) (b := (boundQ s (unbQ s b)).1) hok (okFlat_iff.1 a1) a2 rfl).nd
    rw [hV]
    generalize unbQ s b = U at *
    refine rn rfl ?_
    refine goal_step (step_call [] rfl rfl rfl rfl rfl rfl (hU)) ?_
    rintro σ2 ⟨r, o', ⟨rfl, rfl⟩, hσ⟩
    obtain rfl := Option.some.inj hσ
    clear hσ
    refine rn rfl ?_
    refine rn rfl ?_
    refine goal_step (step_call [] rfl rfl rfl rfl rfl rfl (hF)) ?_
    rintro σ2 ⟨r, o', ⟨rfl, rfl⟩, hσ⟩
    obtain rfl := Option.some.inj hσ
    clear hσ
    refine rn rfl ?_
    refine goal_guard rfl rfl rfl (fun h6 => ?_) (fun h6 => ?_) <;> (try simp only [gt_iff_lt, ge_iff_le, bne_iff_ne, ne_eq, bne_eq_false_iff_eq, beq_iff_eq, beq_eq_false_iff_ne, Bool.not_eq_true', Bool.not_eq_false', decide_eq_true_eq, decide_eq_false_iff_not, List.length_map] at h6)
    · refine rn rfl (fin_is [] rfl ⟨?_, rfl⟩)
      simp [h6]
    refine rn rfl ?_
    refine goal_step (step_call [] rfl rfl rfl rfl rfl rfl (hA)) ?_
    rintro σ2 ⟨r, o', ⟨rfl, rfl⟩, hσ⟩
    obtain rfl := Option.some.inj hσ
    clear hσ
    refine rn rfl ?_
    refine goal_cond rfl (fun h7 => ?_) (fun h7 => ?_) <;> (try simp only [gt_iff_lt, ge_iff_le, bne_iff_ne, ne_eq, bne_eq_false_iff_eq, beq_iff_eq, beq_eq_false_iff_ne, Bool.not_eq_true', Bool.not_eq_false', decide_eq_true_eq, decide_eq_false_iff_not, List.length_map] at h7)
    · refine rn rfl (fin_is [] rfl ⟨?_, rfl⟩)
      simp [h7]
    refine rn rfl ?_
    refine goal_step (step_call [] rfl rfl rfl rfl rfl rfl (hB)) ?_
    rintro σ2 ⟨r, o', ⟨rfl, rfl⟩, hσ⟩
    obtain rfl := Option.some.inj hσ
    clear hσ
    refine rn rfl ?_
    refine rn rfl ?_
    refine goal_step (step_call [] rfl rfl rfl rfl rfl rfl (ssameB_ct (boundQ s U).1 b (hG (by simpa using h6) (by simpa using h7)) hnd)) ?_
    rintro σ2 ⟨r, o', ⟨rfl, rfl⟩, hσ⟩
    obtain rfl := Option.some.inj hσ
    clear hσ
    refine rn rfl ?_
    refine rn rfl (fin_is [] rfl ⟨?_, rfl⟩)
    simp [h6, h7]

theorem mid_at {α : Type} {A D : List α} {x : α} {i : Nat} (h : i = A.length) : (A ++ x :: D)[i]? = some x := by subst h; simp

theorem mid_set {α : Type} {A D : List α} {x y : α} {i : Nat} (h : i = A.length) : (A ++ x :: D).set i y = A ++ y :: D := by subst h; simp

theorem patch1 (x : Slot) : patch (eL x) (0 + 1) [C.fs (x.list.map eI)] = eL x := rfl

theorem patch2 (x : Slot) : patch (eL x) (0 + 2) [C.fs (x.pairs.map eP)] = eL x := rfl

theorem sfill_ct (s : Sig) (b : Bnds) (hlen : b.length = s.length) (few : s.length ≤ 8) (hsz : ∀ x ∈ b, x.list.length ≤ 1048576 ∧ x.pairs.length ≤ 1048576) :
    ACalls pk 63 [.agg (eG s), .agg (eBi b)] [] (fun r o => r = .agg (eBi (fillQ s b)) ∧ o = []) := by
  have hfl := fillQ_len hlen
  refine acalls_of_body Tryz.func63 rfl (by kernel_rfl) rfl ?_
  refine rn rfl ?_
  refine goal_did rfl rfl (dA_append (old := []) (rows := (b : List Slot).map eL) ((b : List Slot).map eL) (b.length) true (Dst.own rfl rfl rfl rfl rfl (Nat.le_refl 0) rfl) (Src.fs rfl) rfl rfl rfl rfl rfl rfl rfl rfl (by simp) (rows_len eL_len _) (by (try simp only [List.length_map, List.length_append, List.length_cons, List.length_nil, List.length_take, List.length_drop]); show _ * 56 ≤ _; omega) (by first | (simp; done) | (simp; omega)) (by simp) (by first | (simp; done) | (simp; omega)) (fun _ => noOwnR_map _ eL_noOwn _)) ?_
  refine rn rfl ?_
  refine rn rfl ?_
  refine goal_loop_keep (fun m σ => ∃ (q : Int) (i : Nat) (R : Bnds), q = i ∧ i ≤ b.length ∧ m = b.length - i ∧ R = (fillQ s b).take i ++ b.drop i ∧
      σ = ⟨[(6, .one (.int .i64 q)), (5, .one (.op 4 0 0)), (4, .one (.op 2 0 0)), (3, .one (.op 1 0 0)), (2, .one (.op 0 0 0))],
        [some ⟨1, [eG s], false, false, true⟩, some ⟨1, [eBi b], false, false, true⟩, some ⟨1, [[.fs []]], false, false, true⟩, ownL R, some ⟨1, [[.os 3 0 b.length b.length]], false, false, true⟩], []⟩) b.length [6, 5, 4, 3, 2] [0, 1, 2, 4, 5] rfl
    ⟨_, 0, b, rfl, by omega, by omega, by simp, rfl⟩ ?_
  rintro m σ ⟨q, i, R, rfl, hi, rfl, hR, rfl⟩
  have hRl : R.length = b.length := by rw [hR]; simp [hfl]; omega
  refine rn rfl ?_
  refine goal_cond rfl (fun h => ?_) (fun h => ?_) <;> (try simp only [gt_iff_lt, ge_iff_le, bne_iff_ne, ne_eq, bne_eq_false_iff_eq, beq_iff_eq, beq_eq_false_iff_ne, Bool.not_eq_true', Bool.not_eq_false', decide_eq_true_eq, decide_eq_false_iff_not, List.length_map] at h)
  · obtain ⟨x, hx⟩ := at_some (xs := b) (i := i) (by omega)
    obtain ⟨p, hp⟩ := at_some (xs := s) (i := i) (by omega)
    obtain ⟨l1, l2⟩ := hsz x (List.mem_of_getElem? hx)
    have hfa := fillQ_at hp hx
    have hA : i = ((fillQ s b).take i).length := by rw [List.length_take, hfl]; omega
    have hnx := take_snoc hfa
    have hRe : R = (fillQ s b).take i ++ x :: b.drop (i + 1) := by rw [hR, drop_at hx]
    have hRx : R[i]? = some x := by rw [hRe]; exact mid_at hA
    have hrow : (R.map eL)[i]? = some (eL x) := by rw [List.getElem?_map, hRx]; rfl
    have hnext : ∀ y, fill1 p x = y → R.set i y = (fillQ s b).take (i + 1) ++ b.drop (i + 1) := fun y hy => by
      rw [hRe, mid_set hA, ← hnx, hy]; simp
    refine rn rfl ?_
    refine goal_draw' [1, 4] 14 rfl ?_
    refine drn [0, 1, 2, 4, 5, 6] (by kernel_rfl) (by kernel_rfl) rfl rfl ?_
    refine AH_did 7 rfl (by kernel_rfl) (by kernel_rfl) (by kernel_rfl) rfl rfl (dA_index (eL x) rfl rfl rfl rfl rfl rfl rfl (by omega) (by (try simp); omega) (map_at (by simpa using hx)) rfl) ?_
    refine drn [8, 9] (by kernel_rfl) (by kernel_rfl) rfl rfl ?_
    refine AH_oneDid 3 rfl (by kernel_rfl) rfl (dA_step rfl) (mdOk rfl) ?_
    refine AH_oneDid 10 rfl (by kernel_rfl) rfl (dA_append (old := []) (rows := (x.list : List Int).map eI) ((x.list : List Int).map eI) (x.list.length) true (Dst.own rfl rfl rfl rfl rfl (Nat.le_refl 0) rfl) (Src.fs rfl) rfl rfl rfl rfl rfl rfl rfl rfl (by simp) (rows_len eI_len _) (by (try simp only [List.length_map, List.length_append, List.length_cons, List.length_nil, List.length_take, List.length_drop]); show _ * 8 ≤ _; omega) (by first | (simp; done) | (simp; omega)) (by simp) (by first | (simp; done) | (simp; omega)) (fun _ => noOwnR_map _ eI_noOwn _)) (mdOk rfl) ?_
    refine AH_data 29 [6] (y := .one (.fs (x.list.map eI))) rfl rfl (congrArg (fun x => T.one (C.fs x)) (takeAll eI _ _ rfl)) ?_
    refine AH_did 11 rfl (by kernel_rfl) (by kernel_rfl) (by kernel_rfl) rfl rfl (dA_indexOwn rfl rfl rfl rfl rfl rfl rfl rfl rfl (by omega) (by (try simp); omega)) ?_
    refine drn [12] (by kernel_rfl) (by kernel_rfl) rfl rfl ?_
    refine AH_oneDid 13 rfl (by kernel_rfl) rfl (dA_storeEl (eL x) (R.map eL) true rfl rfl rfl rfl rfl (by simpa using hrow) rfl rfl (by simp [eL]) (by rw [show 0 + (i : Int).toNat = i by simp, patch1, set_same hrow]) (fun _ => noOwnR_map _ eL_noOwn _)) (mdOk rfl) ?_
    refine AH_end (by kernel_rfl) ?_
    refine rn rfl ?_
    refine rn rfl ?_
    refine goal_draw' [1, 4] 14 rfl ?_
    refine drn [0, 1, 2, 4, 5, 6] (by kernel_rfl) (by kernel_rfl) rfl rfl ?_
    refine AH_did 7 rfl (by kernel_rfl) (by kernel_rfl) (by kernel_rfl) rfl rfl (dA_index (eL x) rfl rfl rfl rfl rfl rfl rfl (by omega) (by (try simp); omega) (map_at (by simpa using hx)) rfl) ?_
    refine drn [8, 9] (by kernel_rfl) (by kernel_rfl) rfl rfl ?_
    refine AH_oneDid 3 rfl (by kernel_rfl) rfl (dA_step rfl) (mdOk rfl) ?_
    refine AH_oneDid 10 rfl (by kernel_rfl) rfl (dA_append (old := []) (rows := (x.pairs : List Pair).map eP) ((x.pairs : List Pair).map eP) (x.pairs.length) true (Dst.own rfl rfl rfl rfl rfl (Nat.le_refl 0) rfl) (Src.fs rfl) rfl rfl rfl rfl rfl rfl rfl rfl (by simp) (rows_len eP_len _) (by (try simp only [List.length_map, List.length_append, List.length_cons, List.length_nil, List.length_take, List.length_drop]); show _ * 24 ≤ _; omega) (by first | (simp; done) | (simp; omega)) (by simp) (by first | (simp; done) | (simp; omega)) (fun _ => noOwnR_map _ eP_noOwn _)) (mdOk rfl) ?_
    refine AH_data 42 [8] (y := .one (.fs (x.pairs.map eP))) rfl rfl (congrArg (fun x => T.one (C.fs x)) (takeAll eP _ _ rfl)) ?_
    refine AH_did 11 rfl (by kernel_rfl) (by kernel_rfl) (by kernel_rfl) rfl rfl (dA_indexOwn rfl rfl rfl rfl rfl rfl rfl rfl rfl (by omega) (by (try simp); omega)) ?_
    refine drn [12] (by kernel_rfl) (by kernel_rfl) rfl rfl ?_
    refine AH_oneDid 13 rfl (by kernel_rfl) rfl (dA_storeEl (eL x) (R.map eL) true rfl rfl rfl rfl rfl (by simpa using hrow) rfl rfl (by simp [eL]) (by rw [show 0 + (i : Int).toNat = i by simp, patch2, set_same hrow]) (fun _ => noOwnR_map _ eL_noOwn _)) (mdOk rfl) ?_
    refine AH_end (by kernel_rfl) ?_
    refine rn rfl ?_
    refine rn rfl ?_
    refine goal_did rfl rfl (dA_index (eQ p) rfl rfl rfl rfl rfl rfl rfl (by omega) (by (try simp); omega) (map_at (by simpa using hp)) rfl) ?_
    refine rn rfl ?_
    refine goal_step (step_call [] rfl rfl rfl rfl rfl rfl (ssingle_ct p)) ?_
    rintro σ2 ⟨r, o', ⟨rfl, rfl⟩, hσ⟩
    obtain rfl := Option.some.inj hσ
    clear hσ
    refine rn rfl ?_
    refine goal_guard rfl rfl rfl (fun h1 => ?_) (fun h1 => ?_) <;> (try simp only [gt_iff_lt, ge_iff_le, bne_iff_ne, ne_eq, bne_eq_false_iff_eq, beq_iff_eq, beq_eq_false_iff_ne, Bool.not_eq_true', Bool.not_eq_false', decide_eq_true_eq, decide_eq_false_iff_not, List.length_map] at h1)
    · refine rn rfl ?_
      refine goal_did rfl rfl (dA_indexOwn rfl rfl rfl rfl rfl rfl rfl rfl rfl (by omega) (by (try simp); omega)) ?_
      refine goal_did rfl rfl (dA_step rfl) ?_
      refine goal_did rfl rfl (dA_loadEl (eL x) rfl rfl rfl rfl (map_at (by simpa using hRx)) rfl rfl rfl) ?_
      refine rn rfl ?_
      refine goal_cond rfl (fun h2 => ?_) (fun h2 => ?_) <;> (try simp only [gt_iff_lt, ge_iff_le, bne_iff_ne, ne_eq, bne_eq_false_iff_eq, beq_iff_eq, beq_eq_false_iff_ne, Bool.not_eq_true', Bool.not_eq_false', decide_eq_true_eq, decide_eq_false_iff_not, List.length_map] at h2)
      · have hf1 : fill1 p x = ⟨true, [p.dflt], []⟩ := by simp [fill1, h1, h2]
        have hn := hnext _ hf1
        refine rn rfl ?_
        refine goal_draw' [0, 4] 13 rfl ?_
        refine drn [0, 1, 2, 3, 4, 5] (by kernel_rfl) (by kernel_rfl) rfl rfl ?_
        refine AH_did 6 rfl (by kernel_rfl) (by kernel_rfl) (by kernel_rfl) rfl rfl (dA_index (eQ p) rfl rfl rfl rfl rfl rfl rfl (by omega) (by (try simp); omega) (map_at (by simpa using hp)) rfl) ?_
        refine drn [7, 8] (by kernel_rfl) (by kernel_rfl) rfl rfl ?_
        refine AH_oneDid 9 rfl (by kernel_rfl) rfl (dA_step rfl) (mdOk rfl) ?_
        refine drn [10] (by kernel_rfl) (by kernel_rfl) rfl rfl ?_
        refine AH_data 70 [9] (y := .agg (eL ⟨true, [p.dflt], []⟩)) rfl rfl rfl ?_
        refine AH_did 11 rfl (by kernel_rfl) (by kernel_rfl) (by kernel_rfl) rfl rfl (dA_indexOwn rfl rfl rfl rfl rfl rfl rfl rfl rfl (by omega) (by (try simp); omega)) ?_
        refine AH_oneDid 12 rfl (by kernel_rfl) rfl (dA_storeEl (eL x) ((R.set i ⟨true, [p.dflt], []⟩).map eL) true rfl rfl rfl rfl rfl (by simpa using hrow) rfl rfl (by simp [eL]) (by rw [show 0 + (i : Int).toNat = i by simp, map_set]; rfl) (fun _ => noOwnR_map _ eL_noOwn _)) (mdOk rfl) ?_
        refine AH_end (by kernel_rfl) ?_
        refine rn rfl ?_
        refine rn rfl ?_
        rw [hn]
        refine round_keep (b.length - (i + 1)) [6, 5, 4, 3, 2] [0, 1, 2, 3, 4] (by omega) rfl ⟨_, i + 1, _, wrap64 (by omega) (by omega), by omega, rfl, rfl, rfl⟩
      · have hf1 : fill1 p x = x := by simp [fill1, h2]
        have hn := hnext _ hf1
        rw [set_same hRx] at hn
        refine rn rfl ?_
        refine round_keep (b.length - (i + 1)) [6, 5, 4, 3, 2] [0, 1, 2, 3, 4] (by omega) rfl ⟨_, i + 1, R, wrap64 (by omega) (by omega), by omega, rfl, hn, rfl⟩
    · have hf1 : fill1 p x = x := by simp [fill1, h1]
      have hn := hnext _ hf1
      rw [set_same hRx] at hn
      refine rn rfl ?_
      refine round_keep (b.length - (i + 1)) [6, 5, 4, 3, 2] [0, 1, 2, 3, 4] (by omega) rfl ⟨_, i + 1, R, wrap64 (by omega) (by omega), by omega, rfl, hn, rfl⟩
  · refine rn rfl (round_ext ?_)
    have hfin : R = fillQ s b := by
      rw [hR, List.take_of_length_le (by omega), List.drop_eq_nil_of_le (by omega), List.append_nil]
    refine rn rfl (fin_is [] rfl ⟨?_, rfl⟩)
    rw [hfin, takeAll eL _ _ (by rw [hfl, hlen])]; rfl

structure MidB (b : Bnds) : Prop where
  len : b.length ≤ 8
  size : ∀ x ∈ b, x.list.length ≤ 9 ∧ x.pairs.length ≤ 8
  names : ∀ x ∈ b, ∀ q ∈ x.pairs, q.name.length ≤ 6

theorem MidB.small {b : Bnds} (h : MidB b) : SmallB b := ⟨by have := h.len; omega, fun x hx => by have := h.size x hx; omega, fun x hx q hq => by have := h.names x hx q hq; omega, by
  have h1 := cntB_bound (M := 20) (b := b) (fun x hx => by have := h.size x hx; unfold cntL; omega)
  have h2 := h.len
  omega⟩

theorem MidB.set {b : Bnds} (h : MidB b) {j : Nat} {y : Slot} (h1 : y.list.length ≤ 9 ∧ y.pairs.length ≤ 8) (h2 : ∀ q ∈ y.pairs, q.name.length ≤ 6) : MidB (b.set j y) := by
  refine ⟨by rw [List.length_set]; exact h.len, fun x hx => ?_, fun x hx => ?_⟩
  · rcases List.mem_or_eq_of_mem_set hx with hx | rfl
    · exact h.size x hx
    · exact h1
  · rcases List.mem_or_eq_of_mem_set hx with hx | rfl
    · exact h.names x hx
    · exact h2

theorem VBi_okB {s : Sig} {b : Bnds} (hb : SmallB b) (h : VBi s b = true) : OkB s b := by
  unfold VBi at h
  simp only [Bool.and_eq_true, decide_eq_true_eq, List.all_eq_true, List.mem_range] at h
  exact slots_okB (okSig_iff.1 h.1) hb h.2.1 h.2.2.1

section

variable {s : Sig} {f : Flat} {b : Bnds}

theorem given_of (h : (BindQ s f).2 = true) : Given s f (BindQ s f).1 := by
  obtain ⟨h1, h2, h3, h4⟩ := bindQ_ok h
  exact ⟨h1, h2, h3, by rw [h4]⟩

end

section

variable {s : Sig} {f : Flat} {b : Bnds}

theorem Given.more (h : Given s f b) : f.places.length ≤ (unbQ s b).places.length := by
  obtain ⟨op, V, R, X, Y, I⟩ := h.unb
  rw [I.places, List.length_append]
  have hV : V.length ≤ placesQ s := by have := I.vlen; omega
  by_cases hlt : V.length < placesQ s
  · have := (h.gap I hlt).1; omega
  · by_cases h2 : ∃ (j : Nat) (p : Param), s[j]? = some p ∧ p.kind = 2
    · obtain ⟨j, p, hp, hk⟩ := h2
      have hR := I.rest j p _ (lt_of_some hp) hp (h.get hp) hk
      rw [give_rest hk] at hR
      have : R.length = f.places.length - placesQ s := by rw [hR]; simp
      omega
    · have h1 := ((acc_iff h.sig h.flat).1 h.acc).1
      have : ¬ placesQ s < f.places.length := fun h0 => by
        obtain ⟨p, hp, hk⟩ := List.any_eq_true.1 (h1 h0)
        obtain ⟨j, hj⟩ := List.getElem?_of_mem hp
        exact h2 ⟨j, p, hj, by simpa [kIs] using hk⟩
      omega

end

theorem equalFlatSelf_ct (f : Flat) (hf : LenF f) : ACalls pk 11 [.agg (eF f), .agg (eF f)] [] (fun r o => r = .one (.bool true) ∧ o = []) := by
  have := equalFlat_ct f f (by have := hf.places; omega) (by have := hf.named; omega)
  simpa using this

def SlB (k : Nat) (x : Slot) : Prop := x.list.length ≤ 8 ∧ x.pairs.length ≤ k ∧ ∀ q ∈ x.pairs, q.name.length ≤ 9223372036854775807

def BdB (k : Nat) (b : Bnds) : Prop := ∀ x ∈ b, SlB k x

theorem SlB.mono {k k' : Nat} {x : Slot} (h : SlB k x) (hk : k ≤ k') : SlB k' x := ⟨h.1, by have := h.2.1; omega, h.2.2⟩

theorem BdB.mono {k k' : Nat} {b : Bnds} (h : BdB k b) (hk : k ≤ k') : BdB k' b := fun x hx => (h x hx).mono hk

theorem BdB.set {k : Nat} {b : Bnds} {i : Nat} {y : Slot} (h : BdB k b) (hy : SlB k y) : BdB k (b.set i y) := fun x hx => by
  rcases List.mem_or_eq_of_mem_set hx with hx | hx
  · exact h x hx
  · rw [hx]; exact hy

theorem bd_give {k : Nat} {s : Sig} {b b' : Bnds} {q : Pair} (h : BdB k b) (hq : q.name.length ≤ 9223372036854775807) (hg : giveI s b q = some b') : BdB (k + 1) b' := by
  unfold giveI at hg
  split at hg
  · cases hg
    exact (h.mono (by omega)).set ⟨by simp, by simp, by simp⟩
  · split at hg
    · cases hg
    · cases hg
      unfold addPair
      split
      · rename_i y hy
        have hy' := h y (List.mem_of_getElem? hy)
        refine (h.mono (by omega)).set ⟨hy'.1, by have := hy'.2.1; simp; omega, fun r hr => ?_⟩
        rcases List.mem_append.1 hr with hr | hr
        · exact hy'.2.2 r hr
        · simp at hr; rw [hr]; exact hq
      · exact h.mono (by omega)

theorem bd_gives {s : Sig} : ∀ {l : List Pair} {k : Nat} {b b' : Bnds}, BdB k b → (∀ q ∈ l, q.name.length ≤ 9223372036854775807) → foldO (giveI s) b l = some b' → BdB (k + l.length) b'
  | [], k, b, b', h, _, hg => by simp only [foldO, Option.some.injEq] at hg; subst hg; exact h
  | q :: l, k, b, b', h, hq, hg => by
    simp only [foldO] at hg
    cases hx : giveI s b q with
    | none => rw [hx] at hg; cases hg
    | some b1 =>
      rw [hx] at hg
      exact (bd_gives (bd_give h (hq q (by simp)) hx) (fun r hr => hq r (by simp [hr])) hg).mono (by simp; omega)

theorem bd_ad1 {k : Nat} {s : Sig} {b b' : Bnds} {p : Param} {x : Slot} (h : BdB k b) (hx : SlB 8 x) (hg : ad1 (giveI s) s b (p, x) = some b') : BdB (k + 8) b' := by
  unfold ad1 at hg
  split at hg
  · split at hg
    · cases hg
      unfold setList
      split
      · rename_i y hy
        have hy' := h y (List.mem_of_getElem? hy)
        exact (h.mono (by omega)).set ⟨hx.1, by have := hy'.2.1; simp only; omega, hy'.2.2⟩
      · exact h.mono (by omega)
    · split at hg
      · cases hg; exact h.mono (by omega)
      · cases hg
  · split at hg
    · exact (bd_gives h hx.2.2 hg).mono (by have := hx.2.1; omega)
    · split at hg
      · cases hg
        exact (h.mono (by omega)).set (hx.mono (by omega))
      · cases hg

theorem bd_ads {s : Sig} : ∀ {l : List (Param × Slot)} {k : Nat} {b b' : Bnds}, BdB k b → (∀ px ∈ l, SlB 8 px.2) → foldO (ad1 (giveI s) s) b l = some b' → BdB (k + 8 * l.length) b'
  | [], k, b, b', h, _, hg => by simp only [foldO, Option.some.injEq] at hg; subst hg; exact h
  | px :: l, k, b, b', h, hq, hg => by
    simp only [foldO] at hg
    cases hx : ad1 (giveI s) s b px with
    | none => rw [hx] at hg; cases hg
    | some b1 =>
      rw [hx] at hg
      exact (bd_ads (bd_ad1 (p := px.1) (x := px.2) h (hq px (by simp)) hx) (fun r hr => hq r (by simp [hr])) hg).mono (by simp; omega)

theorem ad_small {s old : Sig} {A b : Bnds} (hs : s.length ≤ 8) (ho : old.length ≤ 8) (hA : ∀ x ∈ A, SlB 8 x) (h : adL (giveI s) s old A = some b) : SmallB b := by
  have hl : b.length = s.length := by rw [ads_len h]; simp
  have h0 : BdB 0 (List.replicate s.length zL) := fun x hx => by
    rw [(List.mem_replicate.1 hx).2]; exact ⟨by simp [zL], by simp [zL], by simp [zL]⟩
  have h1 := bd_ads h0 (fun px hpx => hA _ (List.of_mem_zip (a := px.1) (b := px.2) hpx).2) h
  have hz : (old.zip A).length ≤ 8 := by rw [List.length_zip]; omega
  have h2 : BdB 64 b := h1.mono (by omega)
  refine ⟨by omega, fun x hx => by have := h2 x hx; unfold SlB at this; omega, fun x hx q hq => (h2 x hx).2.2 q hq, ?_⟩
  have := cntB_bound (M := 100) (b := b) (fun x hx => by have := h2 x hx; unfold SlB at this; unfold cntL; omega)
  omega

theorem ad_none {g : Bnds → Pair → Option Bnds} {s old : Sig} {A b : Bnds} {i : Nat} {px : Param × Slot} (h : foldO (ad1 g s) (List.replicate s.length zL) ((old.zip A).take i) = some b) (hz : (old.zip A)[i]? = some px) (hn : ad1 g s b px = none) : adL g s old A = none := by
  cases hc : adL g s old A with
  | none => rfl
  | some c =>
    obtain ⟨b', hb'⟩ := foldO_take hc (i + 1)
    obtain ⟨b0, h1, h2⟩ := foldO_step hb' hz
    rw [h] at h1; cases h1
    rw [hn] at h2; cases h2

theorem ad_next {g : Bnds → Pair → Option Bnds} {s old : Sig} {A b b' : Bnds} {i : Nat} {px : Param × Slot} (h : foldO (ad1 g s) (List.replicate s.length zL) ((old.zip A).take i) = some b) (hz : (old.zip A)[i]? = some px) (hn : ad1 g s b px = some b') :
    foldO (ad1 g s) (List.replicate s.length zL) ((old.zip A).take (i + 1)) = some b' := by
  rw [← take_snoc hz, foldO_snoc, h]; exact hn

theorem MapHas.zero (s : Sig) : MapHas s (List.replicate s.length zL) [] := fun i p x _ hx _ => by
  rw [List.getElem?_replicate] at hx
  split at hx
  · cases hx; rfl
  · cases hx

theorem foldO_take_succ {β α : Type} {f : β → α → Option β} {l : List α} {b : β} {i : Nat} {a : α} (ha : l[i]? = some a) : foldO f b (l.take (i + 1)) = (match foldO f b (l.take i) with
    | some b' => f b' a
    | none => none) := by
  rw [← take_snoc ha, foldO_snoc]
  all_goals (cases foldO f b (l.take i) <;> rfl)

theorem iadapt_ct (old s : Sig) (f : Flat) (ho : LenS old) (hs : LenS s) (hf : LenF f) :
    ACalls pk 12 [.agg (eG old), .agg (eG s), .agg (eF f)] [] (fun r o => r = .tup [.agg (eF (AdF old s f).1), .one (.bool (AdF old s f).2)] ∧ o = []) := by
  have hsp := hs.params
  refine acalls_of_body Tryz.func12 rfl (by kernel_rfl) rfl ?_
  refine rn rfl ?_
  refine goal_step (step_call [] rfl rfl rfl rfl rfl rfl (iBindD_ct old f ho hf)) ?_
  rintro σ2 ⟨r, o', ⟨rfl, rfl⟩, hσ⟩
  obtain rfl := Option.some.inj hσ
  clear hσ
  refine rn rfl ?_
  cases hb : (BindQ old f).2 with
  | false =>
    have e : AdF old s f = (zF, false) := by unfold AdF; rw [hb]; rfl
    rw [e]
    refine goal_guard rfl rfl rfl (fun _ => ?_) (fun h => by simp at h)
    exact rn rfl (fin_is [] rfl ⟨rfl, rfl⟩)
  | true =>
    refine goal_guard rfl rfl rfl (fun h => by simp at h) (fun _ => ?_)
    refine rn rfl ?_
    refine goal_step (step_call [] rfl rfl rfl rfl rfl rfl (ivalidSig_ct s (by omega) hs.names)) ?_
    rintro σ2 ⟨r, o', ⟨rfl, rfl⟩, hσ⟩
    obtain rfl := Option.some.inj hσ
    clear hσ
    refine rn rfl ?_
    cases hv : okSig s with
    | false =>
      have e : AdF old s f = (zF, false) := by unfold AdF; rw [hb, hv]; rfl
      rw [e]
      refine goal_cond rfl (fun _ => ?_) (fun h => by simp at h)
      exact rn rfl (fin_is [] rfl ⟨rfl, rfl⟩)
    | true =>
      refine goal_cond rfl (fun h => by simp at h) (fun _ => ?_)
      obtain ⟨o1, o2, o3, o4⟩ := bindQ_ok hb
      have G : Given old f (BindQ old f).1 := given_of hb
      have hok := okSig_iff.1 hv
      have hsl := hok.len
      have e : AdF old s f = (match adL (giveI s) s old (fillQ old (BindQ old f).1) with
        | some b => if VBi s b then (unbQ s b, true) else (zF, false)
        | none => (zF, false)) := by unfold AdF; rw [hb, hv]; rfl
      rw [e]
      have e1 : (BindQ old f).1 = (boundQ old f).1 := by rw [o4]
      obtain ⟨c1, c2⟩ := bind_small old f
      have hA : ∀ x ∈ fillQ old (BindQ old f).1, SlB 8 x := fun x hx => by
        have hsm := G.small hf.names
        obtain ⟨i, hi⟩ := List.getElem?_of_mem hx
        have hlt : i < old.length := by rw [← fillQ_len (s := old) (b := (BindQ old f).1) G.len]; exact lt_of_some hi
        obtain ⟨p, hp⟩ := at_some hlt
        obtain ⟨y, hy⟩ := at_some (xs := (BindQ old f).1) (i := i) (by rw [G.len]; exact hlt)
        rw [fillQ_at hp hy] at hi
        cases hi
        have hy' := c2 y (List.mem_of_getElem? hy)
        unfold fill1
        split
        · exact ⟨by simp, by simp, by simp⟩
        · exact ⟨by omega, by omega, hsm.names y (List.mem_of_getElem? hy)⟩
      generalize (BindQ old f).1 = B at *
      have hBl := G.len
      have hol := o1.len
      refine rn rfl ?_
      refine goal_did rfl rfl (dA_make s.length (nilRows s.length) rfl rfl rfl (by simp) (by simp) rfl rfl rfl rfl rfl (by show 56 * s.length ≤ _; omega) (by omega) rfl) ?_
      refine rn rfl ?_
      have hnil : nilRows s.length = rowsN none none s := (rowsN_none s).symm
      rw [hnil]
      refine goal_step (step_call [] rfl rfl rfl rfl rfl rfl (ifill_ct old B hBl hol (fun x hx => by have := c2 x hx; omega))) ?_
      rintro σ2 ⟨r, o', ⟨rfl, rfl⟩, hσ⟩
      obtain rfl := Option.some.inj hσ
      clear hσ
      refine rn rfl ?_
      have hAl := fillQ_len (s := old) hBl
      generalize fillQ old B = A at *
      refine goal_weakCod (adoptM hok (id := 5) 7 rfl rfl rfl) ?_
      refine goal_weakCod (Weak.retell (id := 5) (cl' := false) rfl rfl (rowsN_re rfl rfl _ _ _) (by simp)) ?_
      refine goal_loop_keep (fun m σ => ∃ (n L : Int) (i l : Nat) (ps : List Pair) (b : Bnds), n = i ∧ L = old.length ∧ i ≤ old.length ∧ m = old.length - i ∧ foldO (ad1 (giveI s) s) (List.replicate s.length zL) ((old.zip A).take i) = some b ∧ MapHas s b ps ∧ ps.length ≤ 8 * i ∧ l = ps.length ∧
        σ = ⟨[(42, .one (.int .i64 n)), (41, .one (.int .i64 L)), (40, .one (.fs (A.map eL))), (10, .one (.op 4 0 0)), (6, .one (.op 2 0 0)), (4, .one (.op 1 0 0)), (3, .one (.op 0 0 0))],
          [oV (.fs (old.map eQ)), oV (.fs (s.map eQ)), some ⟨2, [[.fs [], .fs []]], false, false, true⟩, oRows (rowsM none (some (.os 5 0 l l)) s b), oV (.os 3 0 s.length s.length), ownP ps], []⟩) old.length [42, 41, 40, 10, 6, 4, 3] [0, 1, 3, 5, 6, 7] rfl ⟨_, ((A.map eL).length : Int), 0, 0, [], List.replicate s.length zL, rfl, by simp [hAl], by omega, by omega, rfl, MapHas.zero s, by simp, rfl,
          keepS_eq rfl (cons_eq rfl (cons_eq rfl (cons_eq rfl (cons_eq (reO_rows (rowsM_re (fun _ => rfl) (fun _ => rfl) _ _ _ _)) (cons_eq rfl (cons_eq rfl rfl))))))⟩ ?_
      rintro m σ ⟨n, L, i, l, ps, b, rfl, rfl, hi, rfl, hfold, hmap, hpsl, rfl, rfl⟩
      have hbl : b.length = s.length := by rw [ads_len hfold]; simp
      refine rn rfl ?_
      refine goal_cond rfl (fun h => ?_) (fun h => ?_) <;> (try simp only [gt_iff_lt, ge_iff_le, bne_iff_ne, ne_eq, bne_eq_false_iff_eq, beq_iff_eq, beq_eq_false_iff_ne, Bool.not_eq_true', Bool.not_eq_false', decide_eq_true_eq, decide_eq_false_iff_not, List.length_map] at h)
      · obtain ⟨p, hp⟩ := at_some (xs := old) (i := i) (by omega)
        obtain ⟨x, hx⟩ := at_some (xs := A) (i := i) (by omega)
        have hz : (old.zip A)[i]? = some (p, x) := List.getElem?_zip_eq_some.2 ⟨hp, hx⟩
        have hxA := hA x (List.mem_of_getElem? hx)
        have hxp := hxA.2.1
        have hnone := fun h => ad_none (A := A) hfold hz h
        have hnext := fun b' (h : ad1 (giveI s) s b (p, x) = some b') => ad_next (A := A) hfold hz h
        have ead : ad1 (giveI s) s b (p, x) = if p.kind = 2 then (if 0 ≤ kAt s 2 then some (setList b (kAt s 2).toNat x.list) else if x.list = [] then some b else none)
          else if p.kind = 4 then foldO (giveI s) b x.pairs
          else if pAt s p.name singleQ then some (b.set (sAt s p.name).toNat x) else none := rfl
        refine rn rfl ?_
        refine goal_did rfl rfl (dA_index (eL x) rfl rfl rfl rfl rfl rfl rfl (by omega) (by (try simp); omega) (map_at (by simpa using hx)) rfl) ?_
        refine rn rfl ?_
        refine goal_did rfl rfl (dA_index (eQ p) rfl rfl rfl rfl rfl rfl rfl (by omega) (by (try simp); omega) (map_at (by simpa using hp)) rfl) ?_
        refine rn rfl ?_
        refine goal_cond rfl (fun hk2 => ?_) (fun hk2 => ?_) <;> (try simp only [gt_iff_lt, ge_iff_le, bne_iff_ne, ne_eq, bne_eq_false_iff_eq, beq_iff_eq, beq_eq_false_iff_ne, Bool.not_eq_true', Bool.not_eq_false', decide_eq_true_eq, decide_eq_false_iff_not, List.length_map] at hk2)
        · rw [if_pos hk2] at ead
          refine rn rfl ?_
          refine goal_step (step_call [] rfl rfl rfl rfl rfl rfl (indexQ0_ct s (by omega) (kIs 2) _ adaptC_ct)) ?_
          rintro σ2 ⟨r, o', ⟨rfl, rfl⟩, hσ⟩
          obtain rfl := Option.some.inj hσ
          clear hσ
          refine rn rfl ?_
          have ek : kAt s 2 = idxI (kIs 2) s 0 := rfl
          rw [ek] at ead
          refine goal_cond rfl (fun h2 => ?_) (fun h2 => ?_) <;> (try simp only [gt_iff_lt, ge_iff_le, bne_iff_ne, ne_eq, bne_eq_false_iff_eq, beq_iff_eq, beq_eq_false_iff_ne, Bool.not_eq_true', Bool.not_eq_false', decide_eq_true_eq, decide_eq_false_iff_not, List.length_map] at h2)
          · obtain ⟨q, hf', hq, hqk, hlt⟩ := idxI_find h2
            have hk : q.kind = 2 := by simpa [kIs] using hqk
            rw [if_pos h2] at ead
            have hat : idxI (kIs 2) s 0 = ((idxI (kIs 2) s 0).toNat : Nat) := by omega
            generalize (idxI (kIs 2) s 0).toNat = j at hq hat ead
            rw [hat] at hlt ⊢
            obtain ⟨y, hy⟩ := at_some (xs := b) (i := j) (by omega)
            have hrow := rowsM_at (cr := none) (cm := some (.os 5 0 ps.length ps.length)) hq hy
            have hsl2 : setList b j x.list = b.set j ⟨y.given, x.list, y.pairs⟩ := by unfold setList; rw [hy]
            rw [hsl2] at ead
            refine rn rfl ?_
            refine goal_did rfl rfl (dA_indexOwn rfl rfl rfl rfl rfl rfl rfl rfl rfl (by omega) (by (try simp); omega)) ?_
            refine goal_did rfl rfl (dA_step rfl) ?_
            refine goal_did rfl rfl (dA_storeEl (rowM none (some (.os 5 0 ps.length ps.length)) q y) (rowsM none (some (.os 5 0 ps.length ps.length)) s (b.set j ⟨y.given, x.list, y.pairs⟩)) false rfl rfl rfl rfl rfl (by simpa using hrow) rfl rfl (by simp [rowM]) (by refine storeList (x := y) (ns := x.list) hq ?_; simp) (fun h0 => by cases h0)) ?_
            refine rn rfl ?_
            refine round_keep (old.length - (i + 1)) [42, 41, 40, 10, 6, 4, 3] [0, 1, 2, 3, 4, 5] (by omega) rfl ⟨_, _, i + 1, _, ps, _, wrap64 (by omega) (by omega), rfl, by omega, rfl, hnext _ ead, MapHas.set hmap hq (by omega), by omega, rfl, keepS_eq rfl (cons_eq rfl (cons_eq rfl (cons_eq rfl (cons_eq (reO_rows (rowsM_re (fun _ => rfl) (fun _ => rfl) _ _ _ _)) (cons_eq rfl (cons_eq rfl rfl))))))⟩
          · rw [if_neg h2] at ead
            refine rn rfl ?_
            refine goal_cond rfl (fun h3 => ?_) (fun h3 => ?_) <;> (try simp only [gt_iff_lt, ge_iff_le, bne_iff_ne, ne_eq, bne_eq_false_iff_eq, beq_iff_eq, beq_eq_false_iff_ne, Bool.not_eq_true', Bool.not_eq_false', decide_eq_true_eq, decide_eq_false_iff_not, List.length_map] at h3)
            · have hn : ¬ x.list = [] := fun h0 => by rw [h0] at h3; simp at h3
              rw [if_neg hn] at ead
              rw [hnone ead]
              refine rn rfl ?_
              refine round_ret ?_
              refine fin_is [] rfl ⟨?_, rfl⟩
              rfl
            · have hn : x.list = [] := List.eq_nil_of_length_eq_zero (by omega)
              rw [if_pos hn] at ead
              refine rn rfl ?_
              refine round_keep (old.length - (i + 1)) [42, 41, 40, 10, 6, 4, 3] [0, 1, 2, 3, 4, 5] (by omega) rfl ⟨_, _, i + 1, _, ps, _, wrap64 (by omega) (by omega), rfl, by omega, rfl, hnext _ ead, hmap, by omega, rfl, keepS_eq rfl (cons_eq rfl (cons_eq rfl (cons_eq rfl (cons_eq (reO_rows (rowsM_re (fun _ => rfl) (fun _ => rfl) _ _ _ _)) (cons_eq rfl (cons_eq rfl rfl))))))⟩
        · rw [if_neg hk2] at ead
          refine rn rfl ?_
          refine goal_cond rfl (fun hk4 => ?_) (fun hk4 => ?_) <;> (try simp only [gt_iff_lt, ge_iff_le, bne_iff_ne, ne_eq, bne_eq_false_iff_eq, beq_iff_eq, beq_eq_false_iff_ne, Bool.not_eq_true', Bool.not_eq_false', decide_eq_true_eq, decide_eq_false_iff_not, List.length_map] at hk4)
          · rw [if_pos hk4] at ead
            refine rn rfl ?_
            refine goal_loop_keep (fun m σ => ∃ (n2 L2 : Int) (k l : Nat) (ps2 : List Pair) (b2 : Bnds), n2 = k ∧ L2 = x.pairs.length ∧ k ≤ x.pairs.length ∧ m = x.pairs.length - k ∧ foldO (giveI s) b (x.pairs.take k) = some b2 ∧ MapHas s b2 ps2 ∧ ps2.length ≤ 8 * i + k ∧ l = ps2.length ∧
              σ = ⟨[(100, .one (.int .i64 n2)), (99, .one (.int .i64 L2)), (98, .one (.fs (x.pairs.map eP))), (42, .one (.int .i64 i)), (41, .one (.int .i64 old.length)), (40, .one (.fs (A.map eL))), (10, .one (.op 4 0 0)), (6, .one (.op 2 0 0)), (4, .one (.op 1 0 0)), (3, .one (.op 0 0 0))],
                [oV (.fs (old.map eQ)), oV (.fs (s.map eQ)), some ⟨2, [[.fs [], .fs []]], false, false, true⟩, oRows (rowsM none (some (.os 5 0 l l)) s b2), oV (.os 3 0 s.length s.length), ownP ps2], []⟩) x.pairs.length [100, 99, 98, 42, 41, 40, 10, 6, 4, 3] [0, 1, 2, 3, 4, 5] rfl
              ⟨_, ((x.pairs.map eP).length : Int), 0, _, ps, b, rfl, by simp, by omega, by omega, rfl, hmap, by omega, rfl, keepS_eq rfl (cons_eq rfl (cons_eq rfl (cons_eq rfl (cons_eq (reO_rows (rowsM_re (fun _ => rfl) (fun _ => rfl) _ _ _ _)) (cons_eq rfl (cons_eq rfl rfl))))))⟩ ?_
            rintro m σ ⟨n2, L2, k, l, ps2, b2, rfl, rfl, hk, rfl, hfold2, hmap2, hpsl2, rfl, rfl⟩
            have hbl2 : b2.length = s.length := by rw [gives_len hfold2]; exact hbl
            refine rn rfl ?_
            refine goal_cond rfl (fun hk' => ?_) (fun hk' => ?_) <;> (try simp only [gt_iff_lt, ge_iff_le, bne_iff_ne, ne_eq, bne_eq_false_iff_eq, beq_iff_eq, beq_eq_false_iff_ne, Bool.not_eq_true', Bool.not_eq_false', decide_eq_true_eq, decide_eq_false_iff_not, List.length_map] at hk')
            · obtain ⟨q, hq⟩ := at_some (xs := x.pairs) (i := k) (by omega)
              have hst := foldO_take_succ (f := giveI s) (b := b) hq
              rw [hfold2] at hst
              simp only at hst
              refine rn rfl ?_
              refine goal_did rfl rfl (dA_index (eP q) rfl rfl rfl rfl rfl rfl rfl (by omega) (by (try simp); omega) (map_at (by simpa using hq)) rfl) ?_
              refine rn rfl ?_
              refine goal_step (step_callC [3] [5] rfl rfl rfl rfl rfl rfl rfl rfl (cons_eq (rows_eq (rowsM_re (fun _ => rfl) (fun _ => rfl) _ _ _ _)) (cons_eq rfl rfl)) (give_ct s b2 q ps2 hok hbl2 hmap2 (by omega))) ?_
              rintro σ2 ⟨r, o', hG, hσ⟩
              cases hG with
              | no hg =>
                obtain rfl := Option.some.inj hσ
                clear hσ
                have hn : foldO (giveI s) b x.pairs = none := by
                  cases hc : foldO (giveI s) b x.pairs with
                  | none => rfl
                  | some c =>
                    obtain ⟨c', hc'⟩ := foldO_take hc (k + 1)
                    rw [hst, hg] at hc'; cases hc'
                rw [hnone (ead.trans hn)]
                refine rn rfl ?_
                refine goal_cond rfl (fun _ => ?_) (fun h => by simp at h)
                refine rn rfl ?_
                refine round_ret ?_
                refine round_ret ?_
                refine fin_is [] rfl ⟨rfl, rfl⟩
              | yes b3 ps3 hg hm3 hl3 =>
                obtain rfl := Option.some.inj hσ
                clear hσ
                rw [hg] at hst
                refine rn rfl ?_
                refine goal_cond rfl (fun h => by simp at h) (fun _ => ?_)
                refine rn rfl ?_
                refine round_keep (x.pairs.length - (k + 1)) [100, 99, 98, 42, 41, 40, 10, 6, 4, 3] [0, 1, 2, 3, 4, 7] (by omega) rfl ⟨_, _, k + 1, _, ps3, b3, wrap64 (by omega) (by omega), rfl, by omega, rfl, hst, hm3, by omega, rfl, keepS_eq rfl (cons_eq rfl (cons_eq rfl (cons_eq rfl (cons_eq (reO_rows2 ((renR_eq _ _).trans (rowsM_re (fun _ => rfl) (fun _ => rfl) _ _ _ _)) (rowsM_re (fun _ => rfl) (fun _ => rfl) _ _ _ _)) (cons_eq rfl (cons_eq rfl rfl))))))⟩
            · rw [show k = x.pairs.length by omega, List.take_length] at hfold2
              refine rn rfl ?_
              refine round_ext ?_
              refine rn rfl ?_
              refine round_keep (old.length - (i + 1)) [42, 41, 40, 10, 6, 4, 3] [0, 1, 2, 3, 4, 5] (by omega) rfl ⟨_, _, i + 1, _, ps2, _, wrap64 (by omega) (by omega), rfl, by omega, rfl, hnext _ (ead.trans hfold2), hmap2, by omega, rfl, keepS_eq rfl (cons_eq rfl (cons_eq rfl (cons_eq rfl (cons_eq (reO_rows (rowsM_re (fun _ => rfl) (fun _ => rfl) _ _ _ _)) (cons_eq rfl (cons_eq rfl rfl))))))⟩
          · rw [if_neg hk4] at ead
            refine rn rfl ?_
            refine goal_step (step_call [] rfl rfl rfl rfl rfl rfl (find_ct s p.name (by omega))) ?_
            rintro σ2 ⟨r, o', ⟨rfl, rfl⟩, hσ⟩
            obtain rfl := Option.some.inj hσ
            clear hσ
            refine rn rfl ?_
            have epa : pAt s p.name singleQ = (decide (0 ≤ idxI (qIs p.name) s 0) && (match s[(idxI (qIs p.name) s 0).toNat]? with
              | some r => singleQ r
              | none => false)) := rfl
            have esa : sAt s p.name = idxI (qIs p.name) s 0 := rfl
            rw [esa] at ead
            refine goal_guard rfl rfl rfl (fun h5 => ?_) (fun h5 => ?_) <;> (try simp only [gt_iff_lt, ge_iff_le, bne_iff_ne, ne_eq, bne_eq_false_iff_eq, beq_iff_eq, beq_eq_false_iff_ne, Bool.not_eq_true', Bool.not_eq_false', decide_eq_true_eq, decide_eq_false_iff_not, List.length_map] at h5)
            · rw [epa, decide_eq_false (by omega), Bool.false_and, if_neg (by simp)] at ead
              rw [hnone ead]
              refine rn rfl ?_
              refine round_ret ?_
              refine fin_is [] rfl ⟨?_, rfl⟩
              rfl
            · obtain ⟨q, hf', hq, hqn, hlt⟩ := idxI_find (show 0 ≤ idxI (qIs p.name) s 0 by omega)
              have hat : idxI (qIs p.name) s 0 = ((idxI (qIs p.name) s 0).toNat : Nat) := by omega
              rw [decide_eq_true (show 0 ≤ idxI (qIs p.name) s 0 by omega), Bool.true_and, hq] at epa
              simp only at epa
              generalize (idxI (qIs p.name) s 0).toNat = j at hq hat ead
              rw [hat] at hlt ⊢
              rw [epa] at ead
              refine rn rfl ?_
              refine goal_did rfl rfl (dA_index (eQ q) rfl rfl rfl rfl rfl rfl rfl (by omega) (by simp; omega) (map_at (by simpa using hq)) rfl) ?_
              refine rn rfl ?_
              refine goal_step (step_call [] rfl rfl rfl rfl rfl rfl (isingle_ct q)) ?_
              rintro σ2 ⟨r, o', ⟨rfl, rfl⟩, hσ⟩
              obtain rfl := Option.some.inj hσ
              clear hσ
              refine rn rfl ?_
              refine goal_cond rfl (fun h6 => ?_) (fun h6 => ?_) <;> (try simp only [gt_iff_lt, ge_iff_le, bne_iff_ne, ne_eq, bne_eq_false_iff_eq, beq_iff_eq, beq_eq_false_iff_ne, Bool.not_eq_true', Bool.not_eq_false', decide_eq_true_eq, decide_eq_false_iff_not, List.length_map] at h6)
              · rw [h6, if_neg (by simp)] at ead
                rw [hnone ead]
                refine rn rfl ?_
                refine round_ret ?_
                refine fin_is [] rfl ⟨?_, rfl⟩
                rfl
              · rw [h6, if_pos rfl] at ead
                have hsk := single_kind.1 h6
                obtain ⟨y, hy⟩ := at_some (xs := b) (i := j) (by omega)
                have hrow := rowsM_at (cr := none) (cm := (some (.os 5 0 ps.length ps.length))) hq hy
                rw [rowM_plain (by omega) (by omega)] at hrow
                refine rn rfl ?_
                refine goal_did rfl rfl (dA_indexOwn rfl rfl rfl rfl rfl rfl rfl rfl rfl (by omega) (by (try simp); omega)) ?_
                refine goal_did rfl rfl (dA_storeEl (eL y) (rowsM none (some (.os 5 0 ps.length ps.length)) s (b.set j x)) false rfl rfl rfl rfl rfl (by simpa using hrow) rfl rfl (by simp [eL]) (by rw [← rowM_plain (cr := none) (cm := (some (.os 5 0 ps.length ps.length))) (x := y) (p := q) (by omega) (by omega)]; refine storeRow hq (fun h0 => by omega) (fun h0 => by omega) ?_; simp) (fun h0 => by cases h0)) ?_
                refine rn rfl ?_
                refine round_keep (old.length - (i + 1)) [42, 41, 40, 10, 6, 4, 3] [0, 1, 2, 3, 4, 5] (by omega) rfl ⟨_, _, i + 1, _, ps, _, wrap64 (by omega) (by omega), rfl, by omega, rfl, hnext _ ead, MapHas.set hmap hq (by omega), by omega, rfl, keepS_eq rfl (cons_eq rfl (cons_eq rfl (cons_eq rfl (cons_eq (reO_rows (rowsM_re (fun _ => rfl) (fun _ => rfl) _ _ _ _)) (cons_eq rfl (cons_eq rfl rfl))))))⟩
      · rw [show i = old.length by omega] at hfold
        have hfa : adL (giveI s) s old A = some b := by
          have : (old.zip A).take old.length = old.zip A := List.take_of_length_le (by rw [List.length_zip]; omega)
          unfold adL
          rw [← this]; exact hfold
        have hsb := ad_small hsl hol hA hfa
        rw [hfa]
        simp only
        refine rn rfl ?_
        refine round_ext ?_
        refine rt 28 rfl ?_
        refine goal_keepE [10, 6, 4] [1, 2, 3, 4] [5] rfl rfl rfl (cons_eq rfl (cons_eq rfl (cons_eq (reO_rows (rows' := b.map eL) ?_) (cons_eq rfl rfl)))) ?_
        · refine (rowsM_re (fun _ => rfl) (fun _ => rfl) _ _ _ _).trans ?_
          show rowsM none (some (C.fs (List.take ps.length (List.drop 0 (ps.map eP))))) s b = _
          rw [takeAll eP ps _ rfl, rowsM_freeM hmap, rowsM_none hbl]
        refine goal_weakCod (Weak.cleanO (id := 2) rfl rfl (noOwnR_map _ eL_noOwn _)) ?_
        refine goal_keepE (ρ := [(10, .one (.op 2 0 0)), (6, .one (.op 1 0 0)), (4, .one (.op 0 0 0))]) (o := [oV (.fs (s.map eQ)), some ⟨2, [[.fs [], .fs []]], false, false, true⟩, oV (.fs (b.map eL))]) [10, 6, 4] [0, 1, 3] [2] rfl rfl rfl (cons_eq rfl (cons_eq rfl (cons_eq (reO_rows (rows' := [[.fs (b.map eL)]]) (congrArg (fun x => [[C.fs x]]) (takeAll eL b _ hbl))) rfl))) ?_
        refine rn rfl ?_
        refine goal_step (step_call [] rfl rfl rfl rfl rfl rfl (ivalidBinding_ct s b hs hsb)) ?_
        rintro σ2 ⟨r, o', ⟨rfl, rfl⟩, hσ⟩
        obtain rfl := Option.some.inj hσ
        clear hσ
        refine rn rfl ?_
        cases hvb : VBi s b with
        | false =>
          refine goal_cond rfl (fun _ => ?_) (fun h => by simp at h)
          exact rn rfl (fin_is [] rfl ⟨rfl, rfl⟩)
        | true =>
          refine goal_cond rfl (fun h => by simp at h) (fun _ => ?_)
          refine rn rfl ?_
          refine goal_step (step_call [] rfl rfl rfl rfl rfl rfl (iunbindD_ct s b (VBi_okB hsb hvb))) ?_
          rintro σ2 ⟨r, o', ⟨rfl, rfl⟩, hσ⟩
          obtain rfl := Option.some.inj hσ
          clear hσ
          refine rn rfl ?_
          exact rn rfl (fin_is [] rfl ⟨rfl, rfl⟩)

theorem pass_at {s : Sig} {b : Bnds} {q : Pair} {j : Nat} {p : Param} {x : Slot} (hs : OkS s) (h : takesQ s q.name = (j : Int)) (hp : s[j]? = some p) (hx : b[j]? = some x) :
    passS s b q = if p.kind = 4 then some (b.set j ⟨x.given, x.list, x.pairs ++ [q]⟩) else if x.given = true then none else some (b.set j ⟨true, [q.value], []⟩) := by
  have hn : ¬ takesQ s q.name < 0 := by omega
  have ht := takes_pAt hs (n := q.name)
  unfold passS
  rw [if_neg hn]
  cases hpa : pAt s q.name namedQ with
  | true =>
    rw [hpa, if_pos rfl] at ht
    obtain ⟨p', h1, hp', hn', _⟩ := pAt_some hpa
    have hj : (sAt s q.name).toNat = j := by omega
    rw [hj] at hp' ⊢
    rw [hp] at hp'; cases hp'
    have hk := named_kind.1 hn'
    rw [if_neg (show ¬ p.kind = 4 by omega), if_pos rfl]
    unfold givenAt
    rw [hx]
  | false =>
    rw [hpa, if_neg (by simp)] at ht
    obtain ⟨p', hp', hk⟩ := kAt_some (s := s) (k := 4) (by omega)
    have hj : (kAt s 4).toNat = j := by omega
    rw [hj] at hp' ⊢
    rw [hp] at hp'; cases hp'
    rw [if_pos hk, if_neg (by simp)]
    unfold addPair
    rw [hx]

def PassP (g : Option Bnds) (s : Sig) (b : Bnds) (ps : List Pair) (r : T) (o : List (Option AObj)) : Prop := ∃ (ok : Bool) (b' : Bnds) (ps' : List Pair), r = .one (.bool ok) ∧ o = [oRows (rowsM none (some (.os 1 0 ps'.length ps'.length)) s b'), ownP ps'] ∧
  MapHas s b' ps' ∧ ps'.length ≤ ps.length + 1 ∧ b'.length = b.length ∧ (ok = true → g = some b') ∧ (ok = false → g = none)

theorem PassP.no {g : Option Bnds} {s : Sig} {b : Bnds} {ps : List Pair} {o : List (Option AObj)} (hg : g = none) (hm : MapHas s b ps) (ho : o = [oRows (rowsM none (some (.os 1 0 ps.length ps.length)) s b), ownP ps]) : PassP g s b ps (.one (.bool false)) o :=
  ⟨false, b, ps, rfl, ho, hm, by omega, rfl, (fun h => by cases h), fun _ => hg⟩

theorem PassP.yes {g : Option Bnds} {s : Sig} {b : Bnds} {ps : List Pair} {o : List (Option AObj)} (b' : Bnds) (ps' : List Pair) (hg : g = some b') (hm : MapHas s b' ps') (hl : ps'.length ≤ ps.length + 1) (hb : b'.length = b.length) (ho : o = [oRows (rowsM none (some (.os 1 0 ps'.length ps'.length)) s b'), ownP ps']) : PassP g s b ps (.one (.bool true)) o :=
  ⟨true, b', ps', rfl, ho, hm, hl, hb, fun _ => hg, (fun h => by cases h)⟩

theorem pass_ct (s : Sig) (b : Bnds) (q : Pair) (ps : List Pair) (hs : OkS s) (hbl : b.length = s.length) (hm : MapHas s b ps) (hps : ps.length ≤ 1048576) :
    ACallsC pk 123 [.agg (eG s), .agg [.os 0 0 s.length s.length], .agg (eP q)] 1 [oRows (rowsM none (some (.os 1 0 ps.length ps.length)) s b), ownP ps]
      (PassP (passS s b q) s b ps) := by
  have hsl := hs.len
  refine acalls_of_bodyC 1 rfl Tryz.func123 rfl (by kernel_rfl) rfl ?_
  refine rn rfl ?_
  refine goal_step (step_call [] rfl rfl rfl rfl rfl rfl (stakes_ct s q.name (by omega))) ?_
  rintro σ2 ⟨r, o', ⟨rfl, rfl⟩, hσ⟩
  obtain rfl := Option.some.inj hσ
  clear hσ
  refine rn rfl ?_
  refine goal_cond rfl (fun hneg => ?_) (fun hneg => ?_) <;> (try simp only [gt_iff_lt, ge_iff_le, bne_iff_ne, ne_eq, bne_eq_false_iff_eq, beq_iff_eq, beq_eq_false_iff_ne, Bool.not_eq_true', Bool.not_eq_false', decide_eq_true_eq, decide_eq_false_iff_not, List.length_map] at hneg)
  · have hg : passS s b q = none := by unfold passS; rw [if_pos hneg]
    refine rn rfl ?_
    exact fin_is [1] rfl (PassP.no hg hm (cons_eq (rows_eq (rowsM_re (fun _ => rfl) (fun _ => rfl) _ _ _ _)) (cons_eq rfl rfl)))
  · obtain ⟨p, hp, hlt, hpk⟩ := takesQ_some hneg
    have hat : takesQ s q.name = ((takesQ s q.name).toNat : Nat) := by omega
    generalize (takesQ s q.name).toNat = j at hp hat
    have hg := fun (x : Slot) (hx : b[j]? = some x) => pass_at (q := q) (x := x) hs hat hp hx
    rw [hat] at hlt ⊢
    obtain ⟨x, hx⟩ := at_some (xs := b) (i := j) (by omega)
    replace hg := hg x hx
    have hrow := rowsM_at (cr := none) (cm := (some (.os 1 0 ps.length ps.length))) hp hx
    refine rn rfl ?_
    refine goal_did rfl rfl (dA_index (eQ p) rfl rfl rfl rfl rfl rfl rfl (by omega) (by simp; omega) (map_at (by simpa using hp)) rfl) ?_
    refine rn rfl ?_
    refine goal_cond rfl (fun hk => ?_) (fun hk => ?_) <;> (try simp only [gt_iff_lt, ge_iff_le, bne_iff_ne, ne_eq, bne_eq_false_iff_eq, beq_iff_eq, beq_eq_false_iff_ne, Bool.not_eq_true', Bool.not_eq_false', decide_eq_true_eq, decide_eq_false_iff_not, List.length_map] at hk)
    · have hxp := hm j p x hp hx hk
      rw [rowM_map hk] at hrow
      rw [if_pos hk, hxp] at hg
      refine rn rfl ?_
      refine goal_drawL [0, 3, 4] [14] 15 rfl ?_
      refine drnL [0, 1, 2, 3, 4, 5, 9] (by kernel_rfl) (by kernel_rfl) rfl rfl ?_
      refine AHL_did 6 rfl (by kernel_rfl) (by kernel_rfl) (by kernel_rfl) (by kernel_rfl) rfl rfl (dA_indexOwn rfl rfl rfl rfl rfl rfl rfl rfl rfl (by omega) (by (try simp); omega)) ?_
      refine drnL [7] (by kernel_rfl) (by kernel_rfl) rfl rfl ?_
      refine AHL_did 8 rfl (by kernel_rfl) (by kernel_rfl) (by kernel_rfl) (by kernel_rfl) rfl rfl (dA_loadEl [.bool x.given, .fs (x.list.map eI), .os 1 0 ps.length ps.length] rfl rfl rfl rfl (by simpa using hrow) rfl rfl rfl) ?_
      refine AHL_oneDid 10 rfl (by kernel_rfl) rfl rfl (dA_step rfl) (mdOk rfl) ?_
      refine AHL_oneDid 11 rfl (by kernel_rfl) rfl rfl (dA_append (old := (ps).map eP) (rows := ([q] : List Pair).map eP) (((ps) ++ ([q] : List Pair)).map eP) (ps.length + 1) true (Dst.own rfl rfl rfl rfl rfl (by first | (simp; done) | (simp; omega)) (whole (by first | (simp; done) | (simp; omega)))) (Src.os rfl rfl (Nat.le_refl 1) rfl) rfl rfl rfl rfl rfl rfl rfl rfl (rows_len eP_len _) (rows_len eP_len _) (by (try simp only [List.length_map, List.length_append, List.length_cons, List.length_nil, List.length_take, List.length_drop]); show _ * 24 ≤ _; omega) (by first | (simp; done) | (simp; omega)) (by simp) (by first | (simp; done) | (simp; omega)) (fun _ => noOwnR_map _ eP_noOwn _)) (mdOk rfl) ?_
      refine AHL_did 12 rfl (by kernel_rfl) (by kernel_rfl) (by kernel_rfl) (by kernel_rfl) rfl rfl (dA_indexOwn rfl rfl rfl rfl rfl rfl rfl rfl rfl (by omega) (by (try simp); omega)) ?_
      refine drnL [13] (by kernel_rfl) (by kernel_rfl) rfl rfl ?_
      refine AHL_lateDid 14 rfl (by kernel_rfl) rfl rfl (dA_storeEl [.bool x.given, .fs (x.list.map eI), .os 1 0 ps.length ps.length] (rowsM none (some (.os 6 0 (ps.length + 1) (ps.length + 1))) s (b.set j ⟨x.given, x.list, ps ++ [q]⟩)) false rfl rfl rfl rfl rfl (by simpa using hrow) rfl rfl (by simp) (by refine storePairs hs hp hx hk ?_; simp) (fun h0 => by cases h0)) ?_
      refine AH_end (by kernel_rfl) ?_
      refine rn rfl ?_
      exact fin_is [6] rfl (PassP.yes (b.set j ⟨x.given, x.list, ps ++ [q]⟩) (ps ++ [q]) hg (MapHas.put hs hp hk rfl) (by simp) (by simp) (cons_eq (rows_eq ((rowsM_re (fun _ => rfl) (fun _ => rfl) _ _ _ _).trans (by rw [show (ps ++ [q]).length = ps.length + 1 by simp]; rfl))) (cons_eq rfl rfl)))
    · have hk2 : p.kind ≠ 2 := by
        rcases hpk with h0 | h0
        · have := named_kind.1 h0.1; omega
        · omega
      rw [rowM_plain hk2 hk] at hrow
      rw [if_neg hk] at hg
      refine rn rfl ?_
      refine goal_did rfl rfl (dA_indexOwn rfl rfl rfl rfl rfl rfl rfl rfl rfl (by omega) (by (try simp); omega)) ?_
      refine goal_did rfl rfl (dA_step rfl) ?_
      refine goal_did rfl rfl (dA_loadEl (eL x) rfl rfl rfl rfl (by simpa using hrow) rfl rfl rfl) ?_
      refine rn rfl ?_
      refine goal_cond rfl (fun hgv => ?_) (fun hgv => ?_) <;> (try simp only [gt_iff_lt, ge_iff_le, bne_iff_ne, ne_eq, bne_eq_false_iff_eq, beq_iff_eq, beq_eq_false_iff_ne, Bool.not_eq_true', Bool.not_eq_false', decide_eq_true_eq, decide_eq_false_iff_not, List.length_map] at hgv)
      · rw [if_pos hgv] at hg
        refine rn rfl ?_
        exact fin_is [1] rfl (PassP.no hg hm (cons_eq (rows_eq (rowsM_re (fun _ => rfl) (fun _ => rfl) _ _ _ _)) (cons_eq rfl rfl)))
      · rw [hgv, if_neg (by simp)] at hg
        refine rn rfl ?_
        refine goal_did rfl rfl (dA_indexOwn rfl rfl rfl rfl rfl rfl rfl rfl rfl (by omega) (by (try simp); omega)) ?_
        refine goal_data 18 [5] (y := .agg (eL ⟨true, [q.value], []⟩)) rfl rfl rfl ?_
        refine goal_did rfl rfl (dA_storeEl (eL x) (rowsM none (some (.os 1 0 ps.length ps.length)) s (b.set j ⟨true, [q.value], []⟩)) false rfl rfl rfl rfl rfl (by simpa using hrow) rfl rfl (by simp [eL]) (by rw [← rowM_plain (cr := none) (cm := (some (.os 1 0 ps.length ps.length))) (x := x) (p := p) hk2 hk]; refine storeRow hp (fun h0 => absurd h0 hk2) (fun h0 => absurd h0 hk) ?_; simp) (fun h0 => by cases h0)) ?_
        refine rn rfl ?_
        exact fin_is [1] rfl (PassP.yes (b.set j ⟨true, [q.value], []⟩) ps hg (MapHas.set hm hp hk) (by omega) (by simp) (cons_eq (rows_eq (rowsM_re (fun _ => rfl) (fun _ => rfl) _ _ _ _)) (cons_eq rfl rfl)))

theorem foldO_none {β α : Type} {f : β → α → Option β} {l : List α} {b b2 : β} {k : Nat} {q : α} (hst : foldO f b (l.take (k + 1)) = f b2 q) (hn : f b2 q = none) : foldO f b l = none := by
  cases hc : foldO f b l with
  | none => rfl
  | some c =>
    obtain ⟨c', hc'⟩ := foldO_take hc (k + 1)
    rw [hst, hn] at hc'; cases hc'

theorem sadapted_ct (old s : Sig) (A : Bnds) (hok : OkS s) (hol : old.length ≤ 8) (hAl : A.length = old.length) (hA : ∀ x ∈ A, SlB 8 x) :
    ACalls pk 62 [.agg (eG old), .agg (eBi A), .agg (eG s)] [] (fun r o => ∃ (ok : Bool) (b : Bnds), r = .tup [.agg (eBi b), .one (.bool ok)] ∧ o = [] ∧ b.length = s.length ∧ (ok = true → adL (passS s) s old A = some b) ∧ (ok = false → adL (passS s) s old A = none)) := by
  have hsl := hok.len
  refine acalls_of_body Tryz.func62 rfl (by kernel_rfl) rfl ?_
  refine rn rfl ?_
  refine goal_step (step_call [] rfl rfl rfl rfl rfl rfl (emptyBinding_ct s (by omega))) ?_
  rintro σ2 ⟨r, o', ⟨rfl, rfl⟩, hσ⟩
  obtain rfl := Option.some.inj hσ
  clear hσ
  refine rn rfl ?_
  refine goal_step (step_call [] rfl rfl rfl rfl rfl rfl (kindAt_ct s 2 (by omega))) ?_
  rintro σ2 ⟨r, o', ⟨rfl, rfl⟩, hσ⟩
  obtain rfl := Option.some.inj hσ
  clear hσ
  refine rn rfl ?_
  have hnil : nilRows s.length = rowsN none none s := (rowsN_none s).symm
  rw [hnil]
  refine goal_weakCod (adoptM hok (id := 4) 6 rfl rfl rfl) ?_
  refine goal_weakCod (Weak.retell (id := 4) (cl' := false) rfl rfl (rowsN_re rfl rfl _ _ _) (by simp)) ?_
  refine goal_loop_keep (fun m σ => ∃ (n : Int) (ok : Bool) (i l : Nat) (ps : List Pair) (b : Bnds), n = i ∧ i ≤ old.length ∧ m = old.length - i ∧ (ok = true → foldO (ad1 (passS s) s) (List.replicate s.length zL) ((old.zip A).take i) = some b) ∧ (ok = false → adL (passS s) s old A = none) ∧ MapHas s b ps ∧ ps.length ≤ 8 * i ∧ b.length = s.length ∧ l = ps.length ∧
    σ = ⟨[(11, .one (.int .i64 n)), (10, .one (.bool ok)), (9, .one (.int .i64 (kAt s 2))), (8, .one (.op 5 0 0)), (6, .one (.op 3 0 0)), (5, .one (.op 2 0 0)), (4, .one (.op 1 0 0)), (3, .one (.op 0 0 0))],
      [oV (.fs (old.map eQ)), oV (.fs (A.map eL)), oV (.fs (s.map eQ)), oV (.fs []), oRows (rowsM none (some (.os 6 0 l l)) s b), oV (.os 4 0 s.length s.length), ownP ps], []⟩) old.length [11, 10, 9, 8, 6, 5, 4, 3] [0, 1, 2, 3, 4, 5, 6] rfl ⟨_, true, 0, 0, [], List.replicate s.length zL, rfl, by omega, by omega, fun _ => rfl, (fun h => by cases h), MapHas.zero s, by simp, by simp, rfl,
      keepS_eq rfl (cons_eq rfl (cons_eq rfl (cons_eq rfl (cons_eq rfl (cons_eq (reO_rows (rowsM_re (fun _ => rfl) (fun _ => rfl) _ _ _ _)) (cons_eq rfl (cons_eq rfl rfl)))))))⟩ ?_
  rintro m σ ⟨n, ok, i, l, ps, b, rfl, hi, rfl, hyes, hno, hmap, hpsl, hbl, rfl, rfl⟩
  refine rn rfl ?_
  refine goal_cond rfl (fun h => ?_) (fun h => ?_) <;> (try simp only [gt_iff_lt, ge_iff_le, bne_iff_ne, ne_eq, bne_eq_false_iff_eq, beq_iff_eq, beq_eq_false_iff_ne, Bool.not_eq_true', Bool.not_eq_false', decide_eq_true_eq, decide_eq_false_iff_not, List.length_map] at h)
  · obtain ⟨p, hp⟩ := at_some (xs := old) (i := i) (by omega)
    obtain ⟨x, hx⟩ := at_some (xs := A) (i := i) (by omega)
    have hz : (old.zip A)[i]? = some (p, x) := List.getElem?_zip_eq_some.2 ⟨hp, hx⟩
    have hxA := hA x (List.mem_of_getElem? hx)
    have hxp := hxA.2.1
    have hnone : ok = true → ad1 (passS s) s b (p, x) = none → adL (passS s) s old A = none := fun h1 h2 => ad_none (A := A) (hyes h1) hz h2
    have hnext : ∀ b', ok = true → ad1 (passS s) s b (p, x) = some b' → foldO (ad1 (passS s) s) (List.replicate s.length zL) ((old.zip A).take (i + 1)) = some b' := fun b' h1 h2 => ad_next (A := A) (hyes h1) hz h2
    have ead : ad1 (passS s) s b (p, x) = if p.kind = 2 then (if 0 ≤ kAt s 2 then some (setList b (kAt s 2).toNat x.list) else if x.list = [] then some b else none)
      else if p.kind = 4 then foldO (passS s) b x.pairs
      else if pAt s p.name singleQ then some (b.set (sAt s p.name).toNat x) else none := rfl
    refine rn rfl ?_
    refine goal_did rfl rfl (dA_index (eQ p) rfl rfl rfl rfl rfl rfl rfl (by omega) (by (try simp); omega) (map_at (by simpa using hp)) rfl) ?_
    refine rn rfl ?_
    refine goal_did rfl rfl (dA_index (eL x) rfl rfl rfl rfl rfl rfl rfl (by omega) (by (try simp); omega) (map_at (by simpa using hx)) rfl) ?_
    refine rn rfl ?_
    refine goal_step (step_call [] rfl rfl rfl rfl rfl rfl (sfind_ct s p.name (by omega))) ?_
    rintro σ2 ⟨r, o', ⟨rfl, rfl⟩, hσ⟩
    obtain rfl := Option.some.inj hσ
    clear hσ
    refine rn rfl ?_
    refine goal_guard rfl rfl rfl (fun hk2 => ?_) (fun hk2 => ?_) <;> (try simp only [gt_iff_lt, ge_iff_le, bne_iff_ne, ne_eq, bne_eq_false_iff_eq, beq_iff_eq, beq_eq_false_iff_ne, Bool.not_eq_true', Bool.not_eq_false', decide_eq_true_eq, decide_eq_false_iff_not, List.length_map] at hk2)
    · rw [if_pos hk2] at ead
      refine rn rfl ?_
      refine goal_cond rfl (fun h2 => ?_) (fun h2 => ?_) <;> (try simp only [gt_iff_lt, ge_iff_le, bne_iff_ne, ne_eq, bne_eq_false_iff_eq, beq_iff_eq, beq_eq_false_iff_ne, Bool.not_eq_true', Bool.not_eq_false', decide_eq_true_eq, decide_eq_false_iff_not, List.length_map] at h2)
      · rw [if_pos h2] at ead
        obtain ⟨q, hq, hk⟩ := kAt_some h2
        have hlt := lt_of_some hq
        have hat : kAt s 2 = ((kAt s 2).toNat : Nat) := by omega
        generalize (kAt s 2).toNat = j at hq hat ead hlt
        rw [hat]
        obtain ⟨y, hy⟩ := at_some (xs := b) (i := j) (by omega)
        have hrow := rowsM_at (cr := none) (cm := (some (.os 6 0 ps.length ps.length))) hq hy
        have hsl2 : setList b j x.list = b.set j ⟨y.given, x.list, y.pairs⟩ := by unfold setList; rw [hy]
        rw [hsl2] at ead
        refine rn rfl ?_
        refine goal_did rfl rfl (dA_indexOwn rfl rfl rfl rfl rfl rfl rfl rfl rfl (by omega) (by (try simp); omega)) ?_
        refine goal_did rfl rfl (dA_step rfl) ?_
        refine goal_did rfl rfl (dA_storeEl (rowM none (some (.os 6 0 ps.length ps.length)) q y) (rowsM none (some (.os 6 0 ps.length ps.length)) s (b.set j ⟨y.given, x.list, y.pairs⟩)) false rfl rfl rfl rfl rfl (by simpa using hrow) rfl rfl (by simp [rowM]) (by refine storeList (x := y) (ns := x.list) hq ?_; simp) (fun h0 => by cases h0)) ?_
        refine rn rfl ?_
        refine round_keep (old.length - (i + 1)) [11, 10, 9, 8, 6, 5, 4, 3] [0, 1, 2, 3, 4, 5, 6] (by omega) rfl ⟨_, ok, i + 1, _, ps, _, wrap64 (by omega) (by omega), by omega, rfl, fun h0 => hnext _ h0 ead, hno, MapHas.set hmap hq (by omega), by omega, by simp [hbl], rfl, keepS_eq rfl (cons_eq rfl (cons_eq rfl (cons_eq rfl (cons_eq rfl (cons_eq (reO_rows (rowsM_re (fun _ => rfl) (fun _ => rfl) _ _ _ _)) (cons_eq rfl (cons_eq rfl rfl)))))))⟩
      · rw [if_neg h2] at ead
        refine rn rfl ?_
        refine goal_cond rfl (fun h3 => ?_) (fun h3 => by simp [hk2] at h3)
        refine rn rfl ?_
        cases ok with
        | false =>
          refine goal_guard rfl rfl rfl (fun h4 => by cases h4) (fun _ => ?_)
          refine rn rfl ?_
          refine round_keep (old.length - (i + 1)) [11, 10, 9, 8, 6, 5, 4, 3] [0, 1, 2, 3, 4, 5, 6] (by omega) rfl ⟨_, false, i + 1, _, ps, b, wrap64 (by omega) (by omega), by omega, rfl, (fun h0 => by cases h0), hno, hmap, by omega, hbl, rfl, keepS_eq rfl (cons_eq rfl (cons_eq rfl (cons_eq rfl (cons_eq rfl (cons_eq (reO_rows (rowsM_re (fun _ => rfl) (fun _ => rfl) _ _ _ _)) (cons_eq rfl (cons_eq rfl rfl)))))))⟩
        | true =>
          refine goal_guard rfl rfl rfl (fun _ => ?_) (fun h4 => by cases h4)
          refine rn rfl ?_
          refine round_keep (old.length - (i + 1)) [11, 10, 9, 8, 6, 5, 4, 3] [0, 1, 2, 3, 4, 5, 6] (by omega) rfl ⟨_, _, i + 1, _, ps, b, wrap64 (by omega) (by omega), by omega, rfl, (fun h0 => hnext _ rfl (by rw [ead, if_pos (by simpa using h0)])), (fun h0 => hnone rfl (by rw [ead, if_neg (by simpa using h0)])), hmap, by omega, hbl, rfl, keepS_eq rfl (cons_eq rfl (cons_eq rfl (cons_eq rfl (cons_eq rfl (cons_eq (reO_rows (rowsM_re (fun _ => rfl) (fun _ => rfl) _ _ _ _)) (cons_eq rfl (cons_eq rfl rfl)))))))⟩
    · rw [if_neg hk2] at ead
      refine rn rfl ?_
      refine goal_cond rfl (fun h3 => by simp at h3; exact absurd h3 hk2) (fun h3 => ?_)
      refine rn rfl ?_
      refine goal_cond rfl (fun hk4 => ?_) (fun hk4 => ?_) <;> (try simp only [gt_iff_lt, ge_iff_le, bne_iff_ne, ne_eq, bne_eq_false_iff_eq, beq_iff_eq, beq_eq_false_iff_ne, Bool.not_eq_true', Bool.not_eq_false', decide_eq_true_eq, decide_eq_false_iff_not, List.length_map] at hk4)
      · rw [if_pos hk4] at ead
        refine rn rfl ?_
        refine goal_loop_keep (fun m σ => ∃ (n2 : Int) (ok2 : Bool) (k l : Nat) (ps2 : List Pair) (b2 : Bnds), n2 = k ∧ k ≤ x.pairs.length ∧ m = x.pairs.length - k ∧ (ok2 = true → ok = true ∧ foldO (passS s) b (x.pairs.take k) = some b2) ∧ (ok2 = false → adL (passS s) s old A = none) ∧ MapHas s b2 ps2 ∧ ps2.length ≤ 8 * i + k ∧ b2.length = s.length ∧ l = ps2.length ∧
          σ = ⟨[(15, .one (.int .i64 n2)), (13, .one (.op 7 0 0)), (11, .one (.int .i64 i)), (10, .one (.bool ok2)), (9, .one (.int .i64 (kAt s 2))), (8, .one (.op 5 0 0)), (6, .one (.op 3 0 0)), (5, .one (.op 2 0 0)), (4, .one (.op 1 0 0)), (3, .one (.op 0 0 0))],
            [oV (.fs (old.map eQ)), oV (.fs (A.map eL)), oV (.fs (s.map eQ)), oV (.fs []), oRows (rowsM none (some (.os 6 0 l l)) s b2), oV (.os 4 0 s.length s.length), ownP ps2, some ⟨3, [eL x], false, false, true⟩], []⟩) x.pairs.length [15, 13, 11, 10, 9, 8, 6, 5, 4, 3] [0, 1, 2, 3, 4, 5, 6, 8] rfl
          ⟨_, ok, 0, _, ps, b, rfl, by omega, by omega, fun h0 => ⟨h0, rfl⟩, hno, hmap, by omega, hbl, rfl, keepS_eq rfl (cons_eq rfl (cons_eq rfl (cons_eq rfl (cons_eq rfl (cons_eq (reO_rows (rowsM_re (fun _ => rfl) (fun _ => rfl) _ _ _ _)) (cons_eq rfl (cons_eq rfl (cons_eq rfl rfl))))))))⟩ ?_
        rintro m σ ⟨n2, ok2, k, l, ps2, b2, rfl, hk, rfl, hyes2, hno2, hmap2, hpsl2, hbl2, rfl, rfl⟩
        refine rn rfl ?_
        refine goal_cond rfl (fun hk' => ?_) (fun hk' => ?_) <;> (try simp only [gt_iff_lt, ge_iff_le, bne_iff_ne, ne_eq, bne_eq_false_iff_eq, beq_iff_eq, beq_eq_false_iff_ne, Bool.not_eq_true', Bool.not_eq_false', decide_eq_true_eq, decide_eq_false_iff_not, List.length_map] at hk')
        · obtain ⟨q, hq⟩ := at_some (xs := x.pairs) (i := k) (by omega)
          have hst := foldO_take_succ (f := passS s) (b := b) hq
          refine rn rfl ?_
          cases ok2 with
          | false =>
            refine goal_draw' [2, 5, 7] 12 rfl ?_
            refine drn [0, 1] (by kernel_rfl) (by kernel_rfl) rfl rfl ?_
            refine AH_guard (i := 2) rfl rfl rfl (fun hgd => ?_) (fun hgd => ?_) <;> (try simp only [gt_iff_lt, ge_iff_le, bne_iff_ne, ne_eq, bne_eq_false_iff_eq, beq_iff_eq, beq_eq_false_iff_ne, Bool.not_eq_true', Bool.not_eq_false', decide_eq_true_eq, decide_eq_false_iff_not, List.length_map] at hgd)
            · cases hgd
            · refine drn [2, 3, 4, 5, 6, 7, 8, 9, 10, 11] (by kernel_rfl) (by kernel_rfl) rfl rfl ?_
              refine AH_end (by kernel_rfl) ?_
              refine rn rfl ?_
              refine round_keep (x.pairs.length - (k + 1)) [15, 13, 11, 10, 9, 8, 6, 5, 4, 3] [0, 1, 2, 3, 4, 5, 6, 7] (by omega) rfl ⟨_, false, k + 1, _, ps2, b2, wrap64 (by omega) (by omega), by omega, rfl, (fun h0 => by cases h0), hno2, hmap2, by omega, hbl2, rfl, keepS_eq rfl (cons_eq rfl (cons_eq rfl (cons_eq rfl (cons_eq rfl (cons_eq (reO_rows (rowsM_re (fun _ => rfl) (fun _ => rfl) _ _ _ _)) (cons_eq rfl (cons_eq rfl (cons_eq rfl rfl))))))))⟩
          | true =>
            obtain ⟨hokt, hfold2⟩ := hyes2 rfl
            rw [hfold2] at hst
            simp only at hst
            refine goal_draw' [2, 5, 7] 12 rfl ?_
            refine drn [0, 1] (by kernel_rfl) (by kernel_rfl) rfl rfl ?_
            refine AH_guard (i := 2) rfl rfl rfl (fun hgd => ?_) (fun hgd => ?_) <;> (try simp only [gt_iff_lt, ge_iff_le, bne_iff_ne, ne_eq, bne_eq_false_iff_eq, beq_iff_eq, beq_eq_false_iff_ne, Bool.not_eq_true', Bool.not_eq_false', decide_eq_true_eq, decide_eq_false_iff_not, List.length_map] at hgd)
            · refine drn [2, 3, 4, 5, 6] (by kernel_rfl) (by kernel_rfl) rfl rfl ?_
              refine AH_did 7 rfl (by kernel_rfl) (by kernel_rfl) (by kernel_rfl) rfl rfl (dA_index (eP q) rfl rfl rfl rfl rfl rfl rfl (by omega) (by (try simp); omega) (map_at (by simpa using hq)) rfl) ?_
              refine drn [8] (by kernel_rfl) (by kernel_rfl) rfl rfl ?_
              refine AH_one (i := 9) (by kernel_rfl) (step_callC [4] [6] rfl rfl rfl rfl rfl rfl rfl (rfl) (cons_eq (rows_eq (rowsM_re (fun _ => rfl) (fun _ => rfl) _ _ _ _)) (cons_eq rfl rfl)) (pass_ct s b2 q ps2 hok hbl2 hmap2 (by omega))) (by simp) ?_
              rintro σ2 ⟨r, o', ⟨ok3, b3, ps3, rfl, rfl, hm3, hl3, hb3, hy3, hn3⟩, hσ⟩
              obtain rfl := Option.some.inj hσ
              clear hσ
              refine drn [10, 11] (by kernel_rfl) (by kernel_rfl) rfl rfl ?_
              refine AH_end (by kernel_rfl) ?_
              refine rn rfl ?_
              refine round_keep (x.pairs.length - (k + 1)) [15, 13, 11, 10, 9, 8, 6, 5, 4, 3] [0, 1, 2, 3, 4, 5, 8, 7] (by omega) rfl ⟨_, ok3, k + 1, _, ps3, b3, wrap64 (by omega) (by omega), by omega, rfl, (fun h0 => ⟨hokt, by rw [hst]; exact hy3 h0⟩), (fun h0 => hnone hokt (by rw [ead]; exact foldO_none hst (hn3 h0))), hm3, by omega, by omega, rfl, keepS_eq rfl (cons_eq rfl (cons_eq rfl (cons_eq rfl (cons_eq rfl (cons_eq (reO_rows2 ((renR_eq _ _).trans (rowsM_re (fun _ => rfl) (fun _ => rfl) _ _ _ _)) (rowsM_re (fun _ => rfl) (fun _ => rfl) _ _ _ _)) (cons_eq rfl (cons_eq rfl (cons_eq rfl rfl))))))))⟩
            · cases hgd
        · rw [show k = x.pairs.length by omega, List.take_length] at hyes2
          refine rn rfl ?_
          refine round_ext ?_
          refine rn rfl ?_
          refine round_keep (old.length - (i + 1)) [11, 10, 9, 8, 6, 5, 4, 3] [0, 1, 2, 3, 4, 5, 6] (by omega) rfl ⟨_, ok2, i + 1, _, ps2, b2, wrap64 (by omega) (by omega), by omega, rfl, (fun h0 => hnext _ (hyes2 h0).1 (ead.trans (hyes2 h0).2)), hno2, hmap2, by omega, hbl2, rfl, keepS_eq rfl (cons_eq rfl (cons_eq rfl (cons_eq rfl (cons_eq rfl (cons_eq (reO_rows (rowsM_re (fun _ => rfl) (fun _ => rfl) _ _ _ _)) (cons_eq rfl (cons_eq rfl rfl)))))))⟩
      · rw [if_neg hk4] at ead
        have hno' : ad1 (passS s) s b (p, x) = none → adL (passS s) s old A = none := fun h0 => by
          cases hb : ok with
          | false => exact hno hb
          | true => exact hnone hb h0
        have epa : pAt s p.name singleQ = (decide (0 ≤ idxI (qIs p.name) s 0) && (match s[(idxI (qIs p.name) s 0).toNat]? with
          | some r => singleQ r
          | none => false)) := rfl
        have esa : sAt s p.name = idxI (qIs p.name) s 0 := rfl
        rw [esa] at ead
        refine rn rfl ?_
        refine goal_guard rfl rfl rfl (fun h5 => ?_) (fun h5 => ?_) <;> (try simp only [gt_iff_lt, ge_iff_le, bne_iff_ne, ne_eq, bne_eq_false_iff_eq, beq_iff_eq, beq_eq_false_iff_ne, Bool.not_eq_true', Bool.not_eq_false', decide_eq_true_eq, decide_eq_false_iff_not, List.length_map] at h5)
        · obtain ⟨q, hf', hq, hqn, hlt⟩ := idxI_find h5
          have hat : idxI (qIs p.name) s 0 = ((idxI (qIs p.name) s 0).toNat : Nat) := by omega
          rw [decide_eq_true h5, Bool.true_and, hq] at epa
          simp only at epa
          generalize (idxI (qIs p.name) s 0).toNat = j at hq hat ead
          rw [hat] at hlt ⊢
          rw [epa] at ead
          refine rn rfl ?_
          refine goal_did rfl rfl (dA_index (eQ q) rfl rfl rfl rfl rfl rfl rfl (by omega) (by simp; omega) (map_at (by simpa using hq)) rfl) ?_
          refine rn rfl ?_
          refine goal_step (step_call [] rfl rfl rfl rfl rfl rfl (ssingle_ct q)) ?_
          rintro σ2 ⟨r, o', ⟨rfl, rfl⟩, hσ⟩
          obtain rfl := Option.some.inj hσ
          clear hσ
          refine rn rfl ?_
          refine goal_cond rfl (fun h6 => ?_) (fun h6 => ?_) <;> (try simp only [gt_iff_lt, ge_iff_le, bne_iff_ne, ne_eq, bne_eq_false_iff_eq, beq_iff_eq, beq_eq_false_iff_ne, Bool.not_eq_true', Bool.not_eq_false', decide_eq_true_eq, decide_eq_false_iff_not, List.length_map] at h6)
          · rw [h6, if_pos rfl] at ead
            have hsk := single_kind.1 h6
            obtain ⟨y, hy⟩ := at_some (xs := b) (i := j) (by omega)
            have hrow := rowsM_at (cr := none) (cm := (some (.os 6 0 ps.length ps.length))) hq hy
            rw [rowM_plain (by omega) (by omega)] at hrow
            refine rn rfl ?_
            refine goal_did rfl rfl (dA_indexOwn rfl rfl rfl rfl rfl rfl rfl rfl rfl (by omega) (by (try simp); omega)) ?_
            refine goal_did rfl rfl (dA_storeEl (eL y) (rowsM none (some (.os 6 0 ps.length ps.length)) s (b.set j x)) false rfl rfl rfl rfl rfl (by simpa using hrow) rfl rfl (by simp [eL]) (by rw [← rowM_plain (cr := none) (cm := (some (.os 6 0 ps.length ps.length))) (x := y) (p := q) (by omega) (by omega)]; refine storeRow hq (fun h0 => by omega) (fun h0 => by omega) ?_; simp) (fun h0 => by cases h0)) ?_
            refine rn rfl ?_
            refine round_keep (old.length - (i + 1)) [11, 10, 9, 8, 6, 5, 4, 3] [0, 1, 2, 3, 4, 5, 6] (by omega) rfl ⟨_, ok, i + 1, _, ps, _, wrap64 (by omega) (by omega), by omega, rfl, (fun h0 => hnext _ h0 ead), hno, MapHas.set hmap hq (by omega), by omega, by simp [hbl], rfl, keepS_eq rfl (cons_eq rfl (cons_eq rfl (cons_eq rfl (cons_eq rfl (cons_eq (reO_rows (rowsM_re (fun _ => rfl) (fun _ => rfl) _ _ _ _)) (cons_eq rfl (cons_eq rfl rfl)))))))⟩
          · rw [h6, if_neg (by simp)] at ead
            refine rn rfl ?_
            refine round_keep (old.length - (i + 1)) [11, 10, 9, 8, 6, 5, 4, 3] [0, 1, 2, 3, 4, 5, 6] (by omega) rfl ⟨_, false, i + 1, _, ps, b, wrap64 (by omega) (by omega), by omega, rfl, (fun h0 => by cases h0), (fun _ => hno' ead), hmap, by omega, hbl, rfl, keepS_eq rfl (cons_eq rfl (cons_eq rfl (cons_eq rfl (cons_eq rfl (cons_eq (reO_rows (rowsM_re (fun _ => rfl) (fun _ => rfl) _ _ _ _)) (cons_eq rfl (cons_eq rfl rfl)))))))⟩
        · rw [epa, decide_eq_false h5, Bool.false_and, if_neg (by simp)] at ead
          refine rn rfl ?_
          refine round_keep (old.length - (i + 1)) [11, 10, 9, 8, 6, 5, 4, 3] [0, 1, 2, 3, 4, 5, 6] (by omega) rfl ⟨_, false, i + 1, _, ps, b, wrap64 (by omega) (by omega), by omega, rfl, (fun h0 => by cases h0), (fun _ => hno' ead), hmap, by omega, hbl, rfl, keepS_eq rfl (cons_eq rfl (cons_eq rfl (cons_eq rfl (cons_eq rfl (cons_eq (reO_rows (rowsM_re (fun _ => rfl) (fun _ => rfl) _ _ _ _)) (cons_eq rfl (cons_eq rfl rfl)))))))⟩
  · rw [show i = old.length by omega] at hyes
    have hfa : ok = true → adL (passS s) s old A = some b := fun h0 => by
      have : (old.zip A).take old.length = old.zip A := List.take_of_length_le (by rw [List.length_zip]; omega)
      unfold adL
      rw [← this]; exact hyes h0
    refine rn rfl ?_
    refine round_ext ?_
    refine rt 22 rfl ?_
    refine goal_keepE [10, 8, 6] [3, 4, 5] [6] rfl rfl rfl (cons_eq rfl (cons_eq (reO_rows (rows' := b.map eL) ?_) (cons_eq rfl rfl))) ?_
    · refine (rowsM_re (fun _ => rfl) (fun _ => rfl) _ _ _ _).trans ?_
      show rowsM none (some (C.fs (List.take ps.length (List.drop 0 (ps.map eP))))) s b = _
      rw [takeAll eP ps _ rfl, rowsM_freeM hmap, rowsM_none hbl]
    refine goal_weakCod (Weak.cleanO (id := 1) rfl rfl (noOwnR_map _ eL_noOwn _)) ?_
    refine goal_keepE (ρ := [(10, .one (.bool ok)), (8, .one (.op 1 0 0)), (6, .one (.op 0 0 0))]) (o := [oV (.fs []), oV (.fs (b.map eL))]) [10, 8, 6] [0, 2] [1] rfl rfl rfl (cons_eq rfl (cons_eq (reO_rows (rows' := [[.fs (b.map eL)]]) (congrArg (fun x => [[C.fs x]]) (takeAll eL b _ hbl))) rfl)) ?_
    refine rn rfl (fin_is [] rfl ⟨ok, b, rfl, rfl, hbl, hfa, hno⟩)

end Go.Proofs.YtbenojnoepkgbaaGreat
