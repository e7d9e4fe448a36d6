/- Part 5 of the proof: an abstract machine over the model; contracts of the functions that the law reaches. -/
import Derived.Test.YtocdfakomfifbaaGreatKEUn4
set_option linter.unusedVariables false
set_option linter.unusedSimpArgs false
namespace Go.Proofs.YtocdfakomfifbaaGreat
open Go
set_option maxRecDepth 100000
set_option maxHeartbeats 1000000

theorem szSlot_ct (x : Slot) (k : Int) (hk : 0 ≤ k) (hk' : k ≤ 1048576) (hf : Fits (flL x)) :
    ACalls pk 55 [.agg (eL x), .one (.int .i64 k)] [] (fun r o => r = .one (.int .i64 (szFlat (flL x) k)) ∧ o = []) := by
  refine acalls_of_body Tryz.func55 rfl (by kernel_rfl) rfl ?_
  refine rn rfl ?_
  refine goal_step (step_call [] rfl rfl rfl rfl rfl rfl (szIntS_ct x.list k hk hk' hf.places)) ?_
  rintro σ2 ⟨r, o', ⟨rfl, rfl⟩, hσ⟩
  obtain rfl := Option.some.inj hσ
  clear hσ
  refine rn rfl ?_
  have hle := szLen_le x.list.length k hk
  refine rn rfl ?_
  refine goal_cond rfl (fun h => ?_) (fun h => ?_) <;> simp only [decide_eq_true_eq, decide_eq_false_iff_not, List.length_map] at h
  · refine rn rfl (fin_is [] rfl ⟨?_, rfl⟩)
    simp only [szFlat, flL, h, if_true]
  · refine rn rfl ?_
    refine goal_step (step_call [] rfl rfl rfl rfl rfl rfl (szPairS_ct x.pairs (szLen x.list.length k) (by omega) (by omega) hf.named hf.names)) ?_
    rintro σ2 ⟨r, o', ⟨rfl, rfl⟩, hσ⟩
    obtain rfl := Option.some.inj hσ
    clear hσ
    refine rn rfl ?_
    refine rn rfl ?_
    refine goal_cond rfl (fun h2 => ?_) (fun h2 => ?_) <;> simp only [decide_eq_true_eq, decide_eq_false_iff_not, List.length_map] at h2
    · refine rn rfl (fin_is [] rfl ⟨?_, rfl⟩)
      simp only [szFlat, flL, h, h2, if_false, if_true]
    · refine rn rfl (fin_is [] rfl ⟨?_, rfl⟩)
      simp only [szFlat, flL, h, h2, if_false]

def szAllL : Bnds → Int → Int
  | [], k => k
  | x :: xs, k => if szFlat (flL x) k < 0 then -1 else szAllL xs (szFlat (flL x) k)

def szSlotS (b : Bnds) (k : Int) : Int := if szLen b.length k < 0 then -1 else szAllL b (szLen b.length k)

theorem szAll_sub : ∀ (ps : List Pair) (k : Int), 0 ≤ k → szAll ps k ≤ k
  | [], k, h => by simp only [szAll]; omega
  | p :: ps, k, h => by
    unfold szAll
    have h1 := szLen_le p.name.length k h
    split
    · omega
    · have := szAll_sub ps (szLen p.name.length k) (by omega); omega

theorem szLen_eq {n : Nat} {k : Int} (h : ¬ szLen n k < 0) : szLen n k = k - n := by
  unfold szLen at h ⊢
  split
  · rename_i h1; rw [if_pos h1] at h; omega
  · rfl

theorem szFlat_cnt {f : Flat} {k : Int} (hk : 0 ≤ k) (h : ¬ szFlat f k < 0) : szFlat f k + f.places.length + f.named.length ≤ k := by
  unfold szFlat at h ⊢
  split at h
  · omega
  · rename_i h1
    split at h
    · omega
    · rename_i h2
      have e1 := szLen_eq h1
      rw [if_neg h1, if_neg h2]
      unfold szPairS at h2 ⊢
      split at h2
      · omega
      · rename_i h3
        have e2 := szLen_eq h3
        have e3 := szAll_sub f.named (szLen f.named.length (szLen f.places.length k)) (by omega)
        rw [if_neg h3]
        omega

theorem szAllL_cnt : ∀ (b : Bnds) (k : Int), 0 ≤ k → ¬ szAllL b k < 0 → szAllL b k + cntB b ≤ k
  | [], k, hk, h => by simp [szAllL, cntB]
  | x :: xs, k, hk, h => by
    unfold szAllL at h ⊢
    split at h
    · omega
    · rename_i h1
      have e1 := szFlat_cnt hk h1
      have e2 := szAllL_cnt xs (szFlat (flL x) k) (by omega) h
      rw [if_neg h1]
      simp only [cntB, cntL, List.map_cons, List.sum_cons, flL] at e1 e2 ⊢
      omega

theorem szSlotS_cnt {b : Bnds} {k : Int} (hk : 0 ≤ k) (h : ¬ szSlotS b k < 0) : szSlotS b k + b.length + cntB b ≤ k := by
  unfold szSlotS at h ⊢
  split at h
  · omega
  · rename_i h1
    have e1 := szLen_eq h1
    have e2 := szAllL_cnt b (szLen b.length k) (by omega) h
    rw [if_neg h1]
    omega

theorem szSlotS_ct (b : Bnds) (k : Int) (hk : 0 ≤ k) (hk' : k ≤ 1048576) (hb : FitsB b) :
    ACalls pk 28 [.one (.fs (b.map eL)), .one (.int .i64 k)] [] (fun r o => r = .one (.int .i64 (szSlotS b k)) ∧ o = []) := by
  have hl := hb.len
  refine acalls_of_body Tryz.func28 rfl (by kernel_rfl) rfl ?_
  refine rn rfl ?_
  have hw := wrap64 (n := k - b.length) (by omega) (by omega)
  refine goal_cond rfl (fun h => ?_) (fun h => ?_) <;> simp only [decide_eq_true_eq, decide_eq_false_iff_not, List.length_map, hw] at h
  · refine rn rfl (fin_is [] rfl ⟨?_, rfl⟩)
    simp [szSlotS, szLen, h]
  · refine rn rfl ?_
    have hs : szLen b.length k = k - b.length := by simp only [szLen, h, if_false]
    refine goal_loop_keep (fun m σ => ∃ (n q : Int) (i : Nat), n = i ∧ i ≤ b.length ∧ m = b.length - i ∧ 0 ≤ q ∧ q ≤ 1048576 ∧ szSlotS b k = szAllL (b.drop i) q ∧
        σ = ⟨[(5, .one (.int .i64 n)), (1, .one (.int .i64 q)), (0, .one (.fs (b.map eL)))], [], []⟩) b.length [5, 1, 0] [] rfl
      ⟨_, _, 0, rfl, by omega, by omega, ?_, ?_, ?_, rfl⟩ ?_
    · rw [List.length_map, hw]; omega
    · rw [List.length_map, hw]; omega
    · rw [List.length_map, hw, szSlotS, if_neg (by omega), hs]; rfl
    rintro m σ ⟨n, q, i, rfl, hi, rfl, hq, hq', hidx, rfl⟩
    refine rn rfl ?_
    refine goal_cond rfl (fun h => ?_) (fun h => ?_) <;> simp only [decide_eq_true_eq, decide_eq_false_iff_not, List.length_map] at h
    · obtain ⟨x, hx⟩ := at_some (xs := b) (i := i) (by omega)
      have hfx := hb.slots x (List.mem_of_getElem? hx)
      refine rn rfl ?_
      refine goal_did rfl rfl (dA_index (eL x) rfl rfl rfl rfl rfl rfl rfl (by omega) (by (try simp); omega) (map_at (by simpa using hx)) rfl) ?_
      refine rn rfl ?_
      refine goal_step (step_call [] rfl rfl rfl rfl rfl rfl (szSlot_ct x q hq hq' hfx)) ?_
      rintro σ2 ⟨r, o', ⟨rfl, rfl⟩, hσ⟩
      obtain rfl := Option.some.inj hσ
      clear hσ
      refine rn rfl ?_
      refine rn rfl ?_
      refine goal_cond rfl (fun h2 => ?_) (fun h2 => ?_) <;> simp only [decide_eq_true_eq, decide_eq_false_iff_not] at h2
      · refine rn rfl ?_
        refine round_ret (fin_is [] rfl ⟨?_, rfl⟩)
        rw [hidx, drop_at hx]
        simp only [szAllL, h2, if_true]
      · have hc := szFlat_cnt hq h2
        refine rn rfl ?_
        refine round_keep (b.length - (i + 1)) [5, 1, 0] [] (by omega) rfl ⟨_, _, i + 1, ?_, by omega, rfl, by omega, ?_, ?_, rfl⟩
        · exact wrap64 (by omega) (by omega)
        · omega
        · rw [hidx, drop_at hx]
          simp only [szAllL, h2, if_false]
    · refine rn rfl ?_
      refine round_ext ?_
      refine rn rfl (fin_is [] rfl ⟨?_, rfl⟩)
      rw [hidx, List.drop_eq_nil_of_le (by omega)]
      rfl

theorem szAllL_neg : ∀ (b : Bnds) (k : Int), 0 ≤ k → szAllL b k < 0 → szAllL b k = -1
  | [], k, hk, h => by simp only [szAllL] at h; omega
  | x :: xs, k, hk, h => by
    unfold szAllL at h ⊢
    split at h
    · rename_i h1; rw [if_pos h1]
    · rename_i h1
      rw [if_neg h1]
      exact szAllL_neg xs _ (by omega) h

theorem szSlotS_neg {b : Bnds} {k : Int} (h : szSlotS b k < 0) : szSlotS b k = -1 := by
  unfold szSlotS at h ⊢
  split at h
  · rename_i h1; rw [if_pos h1]
  · rename_i h1
    rw [if_neg h1]
    exact szAllL_neg _ _ (by omega) h

theorem szBinding_ct (b : Bnds) (k : Int) (hk : 0 ≤ k) (hk' : k ≤ 1048576) (hb : FitsB b) :
    ACalls pk 6 [.agg (eBi b), .one (.int .i64 k)] [] (fun r o => r = .one (.int .i64 (szSlotS b k)) ∧ o = []) := by
  refine acalls_of_body Tryz.func6 rfl (by kernel_rfl) rfl ?_
  refine rn rfl ?_
  refine goal_step (step_call [] rfl rfl rfl rfl rfl rfl (szSlotS_ct b k hk hk' hb)) ?_
  rintro σ2 ⟨r, o', ⟨rfl, rfl⟩, hσ⟩
  obtain rfl := Option.some.inj hσ
  clear hσ
  refine rn rfl ?_
  refine rn rfl ?_
  refine goal_cond rfl (fun h => ?_) (fun h => ?_) <;> simp only [decide_eq_true_eq, decide_eq_false_iff_not] at h
  · refine rn rfl (fin_is [] rfl ⟨?_, rfl⟩)
    rw [szSlotS_neg h]
  · exact rn rfl (fin_is [] rfl ⟨rfl, rfl⟩)

theorem asSl (x : Slot) : T.agg [C.bool x.given, C.fs (List.take x.list.length (List.drop 0 (x.list.map eI))), C.fs (List.take x.pairs.length (List.drop 0 (x.pairs.map eP)))] = T.agg (eL x) := by
  rw [takeAll eI _ _ rfl, takeAll eP _ _ rfl]; rfl

theorem toSlotD_ct (x : Slot) (h1 : x.list.length ≤ 16777216) (h2 : x.pairs.length ≤ 16777216) :
    ACalls pk 64 [.agg (eL x)] [] (fun r o => r = .agg (eL x) ∧ o = []) := by
  have key : ACalls pk 64 [.agg (eL x)] [] (fun r o => r = .agg [.bool x.given, .os 0 0 x.list.length x.list.length, .os 1 0 x.pairs.length x.pairs.length] ∧ o = [ownI x.list, ownP x.pairs]) := by
    refine acalls_of_body Tryz.func64 rfl (by kernel_rfl) rfl ?_
    refine rn rfl ?_
    refine goal_step (step_call [] rfl rfl rfl rfl rfl rfl (toIntS_ct x.list h1)) ?_
    rintro σ2 ⟨r, o', ⟨rfl, rfl⟩, hσ⟩
    obtain rfl := Option.some.inj hσ
    clear hσ
    refine rn rfl ?_
    refine rn rfl ?_
    refine goal_step (step_call [] rfl rfl rfl rfl rfl rfl (toPairS_ct x.pairs h2)) ?_
    rintro σ2 ⟨r, o', ⟨rfl, rfl⟩, hσ⟩
    obtain rfl := Option.some.inj hσ
    clear hσ
    refine rn rfl ?_
    exact rn rfl (fin_is [3, 4] rfl ⟨rfl, rfl⟩)
  exact key.told [] (by rintro r o ⟨rfl, rfl⟩; exact ⟨_, _, rfl, asSl x, rfl⟩)

structure LenBs (b : Bnds) : Prop where
  len : b.length ≤ 1048576
  tot : cntB b ≤ 1048576

theorem LenBs.size {b : Bnds} (h : LenBs b) {x : Slot} (hx : x ∈ b) : x.list.length ≤ 1048576 ∧ x.pairs.length ≤ 1048576 := by
  have h1 := cntB_mem hx
  have h2 := h.tot
  unfold cntL at h1
  omega

theorem toSlotS_ct (b : Bnds) (hb : LenBs b) : ACalls pk 32 [.one (.fs (b.map eL))] [] (fun r o => r = .one (.fs (b.map eL)) ∧ o = []) := by
  have hl := hb.len
  refine acalls_of_body Tryz.func32 rfl (by kernel_rfl) rfl ?_
  refine rn rfl ?_
  refine goal_did rfl rfl (dA_make b.length (nilRows b.length) rfl rfl rfl (by simp) (by simp) rfl rfl rfl rfl rfl (by show 56 * b.length ≤ _; omega) (by omega) rfl) ?_
  refine rn rfl ?_
  refine goal_loop_keep (fun m σ => ∃ (n : Int) (i L : Nat), n = i ∧ L = b.length ∧ i ≤ b.length ∧ m = b.length - i ∧
      σ = ⟨[(4, .one (.int .i64 n)), (3, .one (.os 0 0 L L)), (0, .one (.fs (b.map eL)))], [oRowsC (rowsAt (b.take i) (b.length - i))], []⟩) b.length [4, 3, 0] [0] rfl
    ⟨_, 0, _, rfl, ?_, by omega, by omega, rfl⟩ ?_
  · simp
  rintro m σ ⟨n, i, L, rfl, rfl, hi, rfl, rfl⟩
  refine rn rfl ?_
  refine goal_cond rfl (fun h => ?_) (fun h => ?_) <;> (try simp only [gt_iff_lt, ge_iff_le, bne_iff_ne, ne_eq, bne_eq_false_iff_eq, beq_iff_eq, beq_eq_false_iff_ne, Bool.not_eq_true', Bool.not_eq_false', decide_eq_true_eq, decide_eq_false_iff_not, List.length_map] at h)
  · obtain ⟨x, hx⟩ := at_some (xs := b) (i := i) (by omega)
    obtain ⟨l1, l2⟩ := hb.size (List.mem_of_getElem? hx)
    have hA : i = (b.take i).length := by rw [List.length_take]; omega
    have hk : b.length - i = b.length - (i + 1) + 1 := by omega
    have hnx := take_snoc hx
    rw [hk]
    generalize b.take i = A at *
    refine rn rfl ?_
    refine goal_did rfl rfl (dA_index (eL x) rfl rfl rfl rfl rfl rfl rfl (by omega) (by (try simp); omega) (map_at (by simpa using hx)) rfl) ?_
    refine rn rfl ?_
    refine goal_step (step_call [] rfl rfl rfl rfl rfl rfl (toSlotD_ct x (by omega) (by omega))) ?_
    rintro σ2 ⟨r, o', ⟨rfl, rfl⟩, hσ⟩
    obtain rfl := Option.some.inj hσ
    clear hσ
    refine rn rfl ?_
    refine goal_did rfl rfl (dA_indexOwn rfl rfl rfl rfl rfl rfl rfl rfl rfl (by omega) (by omega)) ?_
    refine goal_did rfl rfl (dA_storeEl nilRow (rowsAt (A ++ [x]) (b.length - (i + 1))) true rfl rfl rfl rfl rfl (by rw [show 0 + (i : Int).toNat = i by simp]; exact rowsAt_nil hA) rfl rfl (by simp [nilRow]) (by rw [show 0 + (i : Int).toNat = i by simp]; exact (rowsAt_set x hA).symm) (fun _ => rowsAt_noOwn _ _)) ?_
    refine rn rfl ?_
    rw [hnx]
    refine round_keep (b.length - (i + 1)) [4, 3, 0] [0] (by omega) rfl ⟨_, i + 1, _, wrap64 (by omega) (by omega), rfl, by omega, rfl, rfl⟩
  · refine rn rfl (round_ext ?_)
    have hfin : rowsAt (b.take i) (b.length - i) = b.map eL := by
      rw [show b.length - i = 0 by omega, List.take_of_length_le (by omega)]
      simp [rowsAt, nilRows]
    rw [hfin]
    refine rn rfl (fin_is [] rfl ⟨?_, rfl⟩)
    rw [takeAll eL _ _ rfl]

theorem toBiD_ct (b : Bnds) (hb : LenBs b) : ACalls pk 9 [.agg (eBi b)] [] (fun r o => r = .agg (eBi b) ∧ o = []) := by
  refine acalls_of_body Tryz.func9 rfl (by kernel_rfl) rfl ?_
  refine rn rfl ?_
  refine goal_step (step_call [] rfl rfl rfl rfl rfl rfl (toSlotS_ct b hb)) ?_
  rintro σ2 ⟨r, o', ⟨rfl, rfl⟩, hσ⟩
  obtain rfl := Option.some.inj hσ
  clear hσ
  refine rn rfl ?_
  exact rn rfl (fin_is [] rfl ⟨rfl, rfl⟩)

theorem eqSlot_ct (x y : Slot) (h1 : x.list.length ≤ 16777216) (h2 : x.pairs.length ≤ 16777216) : ACalls pk 73 [.agg (eL x), .agg (eL y)] [] (fun r o => r = .one (.bool (decide (x = y))) ∧ o = []) := by
  obtain ⟨a, b, c⟩ := x
  obtain ⟨a', b', c'⟩ := y
  simp only at h1 h2
  refine acalls_of_body Tryz.func73 rfl (by kernel_rfl) rfl ?_
  refine rn rfl ?_
  refine goal_cond rfl (fun h => ?_) (fun h => ?_)
  · simp at h
    refine rn rfl (fin_is [] rfl ⟨?_, rfl⟩)
    simp [h]
  · simp at h
    refine rn rfl ?_
    refine goal_step (step_call [] rfl rfl rfl rfl rfl rfl (eqIntS_ct b b' h1)) ?_
    rintro σ2 ⟨r, o', ⟨rfl, rfl⟩, hσ⟩
    obtain rfl := Option.some.inj hσ
    clear hσ
    refine rn rfl ?_
    refine goal_cond rfl (fun h3 => ?_) (fun h3 => ?_)
    · simp at h3
      refine rn rfl (fin_is [] rfl ⟨?_, rfl⟩)
      simp [h3]
    · simp at h3
      refine rn rfl ?_
      refine goal_step (step_call [] rfl rfl rfl rfl rfl rfl (eqPairS_ct c c' h2)) ?_
      rintro σ2 ⟨r, o', ⟨rfl, rfl⟩, hσ⟩
      obtain rfl := Option.some.inj hσ
      clear hσ
      refine rn rfl ?_
      refine goal_cond rfl (fun h4 => ?_) (fun h4 => ?_)
      · simp at h4
        refine rn rfl (fin_is [] rfl ⟨?_, rfl⟩)
        simp [h4]
      · simp at h4
        refine rn rfl (fin_is [] rfl ⟨?_, rfl⟩)
        simp [h, h3, h4]

theorem eqSlotS_ct (xs : Bnds) (hb : LenBs xs) : ACalls pk 38 [.one (.fs (xs.map eL)), .one (.fs (xs.map eL))] [] (fun r o => r = .one (.bool true) ∧ o = []) := by
  have hl := hb.len
  refine acalls_of_body Tryz.func38 rfl (by kernel_rfl) rfl ?_
  refine rn rfl ?_
  refine goal_cond rfl (fun h => by simp at h) (fun _ => ?_)
  refine rn rfl ?_
  refine goal_loop_keep (fun m σ => ∃ (n : Int) (i : Nat), n = i ∧ i ≤ xs.length ∧ m = xs.length - i ∧
      σ = ⟨[(5, .one (.int .i64 n)), (1, .one (.fs (xs.map eL))), (0, .one (.fs (xs.map eL)))], [], []⟩) xs.length [5, 1, 0] [] rfl
    ⟨_, 0, rfl, by omega, by omega, rfl⟩ ?_
  rintro m σ ⟨n, i, rfl, hi, rfl, rfl⟩
  refine rn rfl ?_
  refine goal_cond rfl (fun h => ?_) (fun h => ?_) <;> (try simp only [gt_iff_lt, ge_iff_le, bne_iff_ne, ne_eq, bne_eq_false_iff_eq, beq_iff_eq, beq_eq_false_iff_ne, Bool.not_eq_true', Bool.not_eq_false', decide_eq_true_eq, decide_eq_false_iff_not, List.length_map] at h)
  · obtain ⟨x, hx⟩ := at_some (xs := xs) (i := i) (by omega)
    obtain ⟨l1, l2⟩ := hb.size (List.mem_of_getElem? hx)
    refine rn rfl ?_
    refine goal_draw' [] 10 rfl ?_
    refine drn [0, 1, 4, 5] (by kernel_rfl) (by kernel_rfl) rfl rfl ?_
    refine AH_did 2 rfl (by kernel_rfl) (by kernel_rfl) (by kernel_rfl) rfl rfl (dA_index (eL x) rfl rfl rfl rfl rfl rfl rfl (by omega) (by (try simp); omega) (map_at (by simpa using hx)) rfl) ?_
    refine drn [3] (by kernel_rfl) (by kernel_rfl) rfl rfl ?_
    refine AH_did 6 rfl (by kernel_rfl) (by kernel_rfl) (by kernel_rfl) rfl rfl (dA_index (eL x) rfl rfl rfl rfl rfl rfl rfl (by omega) (by (try simp); omega) (map_at (by simpa using hx)) rfl) ?_
    refine drn [7] (by kernel_rfl) (by kernel_rfl) rfl rfl ?_
    refine AH_one (i := 8) (by kernel_rfl) (step_call [] rfl rfl rfl rfl rfl rfl (eqSlot_ct x x (by omega) (by omega))) (by simp) ?_
    rintro σ2 ⟨r, o', ⟨rfl, rfl⟩, hσ⟩
    obtain rfl := Option.some.inj hσ
    clear hσ
    refine drn [9] (by kernel_rfl) (by kernel_rfl) rfl rfl ?_
    refine AH_end (by kernel_rfl) ?_
    refine rn rfl ?_
    refine goal_cond rfl (fun h2 => by simp at h2) (fun _ => ?_)
    refine rn rfl ?_
    refine round_keep (xs.length - (i + 1)) [5, 1, 0] [] (by omega) rfl ⟨_, i + 1, wrap64 (by omega) (by omega), by omega, rfl, rfl⟩
  · refine rn rfl (round_ext ?_)
    exact rn rfl (fin_is [] rfl ⟨rfl, rfl⟩)

theorem eqBi_ct (b : Bnds) (hb : LenBs b) : ACalls pk 13 [.agg (eBi b), .agg (eBi b)] [] (fun r o => r = .one (.bool true) ∧ o = []) := by
  refine acalls_of_body Tryz.func13 rfl (by kernel_rfl) rfl ?_
  refine rn rfl ?_
  refine goal_step (step_call [] rfl rfl rfl rfl rfl rfl (eqSlotS_ct b hb)) ?_
  rintro σ2 ⟨r, o', ⟨rfl, rfl⟩, hσ⟩
  obtain rfl := Option.some.inj hσ
  clear hσ
  refine rn rfl ?_
  refine goal_cond rfl (fun h2 => by simp at h2) (fun _ => ?_)
  exact rn rfl (fin_is [] rfl ⟨rfl, rfl⟩)

theorem bs_small {b : Bnds} {k : Int} (hk : 0 ≤ k) (hk' : k ≤ 1048576) (hf : FitsB b) (h : ¬ szSlotS b k < 0) : LenBs b ∧ SmallB b ∧ LenB b := by
  have h1 := szSlotS_cnt hk h
  have hL : LenBs b := ⟨by omega, by omega⟩
  exact ⟨hL, ⟨hL.len, fun x hx => hL.size hx, fun x hx => (hf.slots x hx).names, hL.tot⟩, ⟨hL.len, fun x hx => hL.size hx, fun x hx => (hf.slots x hx).names⟩⟩

section
open Go Go.RowKit Go.Shelf
theorem glob_any {w : World} {e : List ALoc} : GlobOk w e := fun g hg => by simp [GL] at hg

/-- A slice of own memory that lies in the blocks from 'lo' to 'hi'. -/
def SubO (lo hi : Nat) (h : Array Obj) (O : List (Option AObj)) (n : Nat) (v : Value) : Prop :=
  ∃ e : List ALoc, SR noD h e O ∧ TR noD h e (.one (.os 0 0 n n)) v ∧ ∀ b, Wof e b → lo ≤ b ∧ b < hi

theorem SubO.keep {lo hi : Nat} {h h' : Array Obj} {O : List (Option AObj)} {n : Nat} {v : Value} (H : SubO lo hi h O n v) (hk : ∀ b, lo ≤ b → b < hi → h'[b]? = h[b]?) (hs : h.size ≤ h'.size) : SubO lo hi h' O n v := by
  obtain ⟨e, h1, h2, h3⟩ := H
  exact ⟨e, sr_keep h1 (fun b hb => hk b (h3 b hb).1 (h3 b hb).2) hs, tr_noD h2, h3⟩

def MTree (lo hi : Nat) (h : Array Obj) (l : Bnds) (v : Value) : Prop :=
  ∃ A c, v = .slice A l.length c ∧ ((l = [] ∧ ∃ ad, A = some ad) ∨ ∃ (g : Nat) (cells : Array Value) (t : TypeId) (p q : Nat → Nat), A = some ⟨g, 0, none⟩ ∧ lo ≤ g ∧ g < p 0 ∧ h[g]? = some (.cells cells t (0, 0)) ∧ p l.length ≤ hi ∧ l.length ≤ c ∧
    ∀ i x, l[i]? = some x → ∃ bo LV PV, bo = x.given ∧ cells[i * 3]? = some (.bool bo) ∧ cells[i * 3 + 1]? = some LV ∧ cells[i * 3 + 2]? = some PV ∧ p i ≤ q i ∧ q i ≤ p (i + 1) ∧
      SubO (p i) (q i) h [ownI x.list] x.list.length LV ∧ SubO (q i) (p (i + 1)) h [ownP x.pairs] x.pairs.length PV)

theorem noFzO_I (xs : List Int) : noFzO [ownI xs] = true := by simp [ownI, noFzO, noFzR_map eI (fun _ => rfl)]

theorem noFzO_P (xs : List Pair) : noFzO [ownP xs] = true := by simp [ownP, noFzO, noFzR_map eP (fun _ => rfl)]

theorem mark_list (xs : List Int) (k : Int) (hx : xs.length ≤ 16777216) (hk : 0 ≤ k) (hk' : k ≤ 67108864) {lo hi : Nat} {w : World} {v : Value} (H : SubO lo hi w.heap [ownI xs] xs.length v) :
    Calls Tryz.prog 41 #[v, .int .i64 k] w fun en w' => en = .returned (.int .i64 (k + xs.length)) ∧ Ext w (fun b => lo ≤ b ∧ b < hi) w' := by
  obtain ⟨e, h1, h2, h3⟩ := H
  refine (raw_set (markIntS_ct xs k xs.length hx hk hk') glob_any h1 (vals := [v, .int .i64 k]) ?_ rfl (noFzO_I _) rfl).mono ?_
  · simp only [TRs]
    exact ⟨_, _, rfl, h2, _, _, rfl, by simp only [TR, CR], rfl⟩
  · rintro en w' ⟨v', rfl, htr, _, hext⟩
    simp only [TR, CR] at htr
    subst htr
    exact ⟨rfl, hext.os, hext.tape, hext.output, hext.size, fun b hb hn => hext.block b hb (fun hw => hn (h3 b hw))⟩

theorem mark_pairs (xs : List Pair) (k : Int) (hx : xs.length ≤ 16777216) (hk : 0 ≤ k) (hk' : k ≤ 67108864) {lo hi : Nat} {w : World} {v : Value} (H : SubO lo hi w.heap [ownP xs] xs.length v) :
    Calls Tryz.prog 42 #[v, .int .i64 k] w fun en w' => en = .returned (.int .i64 (k + 2 * xs.length)) ∧ Ext w (fun b => lo ≤ b ∧ b < hi) w' := by
  obtain ⟨e, h1, h2, h3⟩ := H
  refine (raw_set (markPairS_ct xs k xs.length hx hk hk') glob_any h1 (vals := [v, .int .i64 k]) ?_ rfl (noFzO_P _) rfl).mono ?_
  · simp only [TRs]
    exact ⟨_, _, rfl, h2, _, _, rfl, by simp only [TR, CR], rfl⟩
  · rintro en w' ⟨v', rfl, htr, _, hext⟩
    simp only [TR, CR] at htr
    subst htr
    exact ⟨rfl, hext.os, hext.tape, hext.output, hext.size, fun b hb hn => hext.block b hb (fun hw => hn (h3 b hw))⟩

def markN (l : Bnds) : Nat := (l.map fun x => 1 + x.list.length + 2 * x.pairs.length).sum

theorem markN_snoc (l : Bnds) (x : Slot) : markN (l ++ [x]) = markN l + (1 + x.list.length + 2 * x.pairs.length) := by simp [markN]

theorem markN_take (l : Bnds) (i : Nat) : markN (l.take i) ≤ markN l := by
  have h : markN (l.take i) + markN (l.drop i) = markN l := by
    conv => rhs; rw [← List.take_append_drop i l]
    unfold markN
    rw [List.map_append, List.sum_append]
  omega

/-- What is left of the tree, 'i' slots marked. -/
structure MInv (lo hi g : Nat) (t : TypeId) (cells : Array Value) (p : Nat → Nat) (n i : Nat) (w wr : World) : Prop where
  ext : Ext w (fun b => lo ≤ b ∧ b < hi) wr
  rest : ∀ b, p i ≤ b → b < w.heap.size → wr.heap[b]? = w.heap[b]?
  slots : ∃ cs, wr.heap[g]? = some (.cells cs t (0, 0)) ∧ ∀ j, j < n → (∃ bo, cs[j * 3]? = some (.bool bo)) ∧ cs[j * 3 + 1]? = cells[j * 3 + 1]? ∧ cs[j * 3 + 2]? = cells[j * 3 + 2]?

theorem setCell_at {w : World} {g o : Nat} {cs : Array Value} {t : TypeId} {v : Value} (h : w.heap[g]? = some (.cells cs t (0, 0))) : (w.setCell ⟨g, o, none⟩ v).heap[g]? = some (.cells (cs.setIfInBounds o v) t (0, 0)) := by
  simp [World.setCell, Array.getElem?_modify, h]

theorem setCell_other {w : World} {g o b : Nat} {v : Value} (h : b ≠ g) : (w.setCell ⟨g, o, none⟩ v).heap[b]? = w.heap[b]? := by
  simp only [World.setCell, Array.getElem?_modify]
  rw [if_neg (fun h1 => h h1.symm)]

theorem setCell_size {w : World} {a : Addr} {v : Value} : (w.setCell a v).heap.size = w.heap.size := by simp [World.setCell]

theorem ext_sub {w w' : World} {S S' : Nat → Prop} (h : Ext w S w') (hs : ∀ b, S b → S' b) : Ext w S' w' := ⟨h.os, h.tape, h.output, h.size, fun b hb hn => h.block b hb (fun hS => hn (hs b hS))⟩

theorem ext_trans {w w1 w2 : World} {S : Nat → Prop} (h : Ext w S w1) (h' : Ext w1 S w2) : Ext w S w2 :=
  ⟨h'.os.trans h.os, h'.tape.trans h.tape, h'.output.trans h.output, Nat.le_trans h.size h'.size, fun b hb hn => by rw [h'.block b (Nat.lt_of_lt_of_le hb h.size) hn, h.block b hb hn]⟩

theorem markSlotS_raw (l : Bnds) (v : Value) (k : Int) (hl : l.length ≤ 1048576) (hs : ∀ x ∈ l, x.list.length ≤ 16777216 ∧ x.pairs.length ≤ 16777216) (hk : 0 ≤ k) (hk' : k + markN l ≤ 67108864) {lo hi : Nat} {w : World} (hw : hi ≤ w.heap.size) (H : MTree lo hi w.heap l v) :
    Calls Tryz.prog 40 #[v, .int .i64 k] w fun en w' => en = .returned (.int .i64 (k + markN l)) ∧ Ext w (fun b => lo ≤ b ∧ b < hi) w' := by
  obtain ⟨A, c, rfl, hA⟩ := H
  have u3 := run_underlying Tryz.underlying3
  have e41 : ∀ args w, (callFunc 41 args).run Tryz.prog w = .ok (.enter 41 args) w := enters_of Tryz.func41 (by kernel_rfl) rfl
  have e42 : ∀ args w, (callFunc 42 args).run Tryz.prog w = .ok (.enter 42 args) w := enters_of Tryz.func42 (by kernel_rfl) rfl
  rcases hA with ⟨rfl, _⟩ | ⟨g, cells, t, p, q, rfl, hg, hgp, hcells, hph, hlc, hat⟩
  · simp only [List.length_nil]
    go_enter Tryz.func40, Tryz.ntmps40
    go_wp2_with fail
    go_loopw [1, 5] (fun kv iv wr => iv = .int .i64 0 ∧ kv = .int .i64 k ∧ Hid (Ext w (fun b => lo ≤ b ∧ b < hi) wr)) (fun _ _ _ => 0)
    case atStart => exact ⟨rfl, rfl, Ext.refl _ _⟩
    case round =>
      obtain ⟨rfl, rfl, HM⟩ := hrel
      go_wp2
      go_ret
      exact ⟨by simp [markN], HM.out⟩
  · have hmono : ∀ i, i < l.length → p i ≤ p (i + 1) := fun i hi => by
      obtain ⟨x, hx⟩ := at_some (xs := l) (i := i) hi
      obtain ⟨_, _, _, _, _, _, _, h1, h2, _⟩ := hat i x hx
      omega
    have hmono2 : ∀ d a, a + d ≤ l.length → p a ≤ p (a + d) := by
      intro d
      induction d with
      | zero => intro a _; exact Nat.le_refl _
      | succ d ih => intro a ha; have h1 := ih a (by omega); have h2 := hmono (a + d) (by omega); rw [show a + (d + 1) = a + d + 1 by omega]; omega
    go_enter Tryz.func40, Tryz.ntmps40
    go_wp2_with fail
    go_loopw [1, 5] (fun kv iv wr => ∃ i : Nat, i ≤ l.length ∧ iv = .int .i64 i ∧ kv = .int .i64 (k + markN (l.take i)) ∧ Hid (MInv lo hi g t cells p l.length i w wr)) (fun _ iv _ => l.length - (intOf iv).toNat)
    case atStart =>
      refine ⟨0, Nat.zero_le _, rfl, by simp [markN], ⟨Ext.refl _ _, fun _ _ _ => rfl, cells, hcells, fun j hj => ?_⟩⟩
      obtain ⟨x, hx⟩ := at_some (xs := l) (i := j) hj
      obtain ⟨bo, _, _, _, h1, _⟩ := hat j x hx
      exact ⟨⟨bo, h1⟩, rfl, rfl⟩
    case round =>
      obtain ⟨i, hik, rfl, rfl, HM⟩ := hrel
      by_cases hil : i < l.length
      · obtain ⟨x, hx⟩ := at_some (xs := l) (i := i) hil
        obtain ⟨_, LV, PV, _, _, h1, h2, hpq, hqp, SL, SP⟩ := hat i x hx
        obtain ⟨hext, hrest, cs, hcs, hslots⟩ := HM.out
        obtain ⟨⟨bo, b0⟩, b1, b2⟩ := hslots i hil
        rw [h1] at b1
        rw [h2] at b2
        have hm1 : markN (l.take (i + 1)) = markN (l.take i) + (1 + x.list.length + 2 * x.pairs.length) := by rw [← take_snoc hx, markN_snoc]
        have hm2 := markN_take l (i + 1)
        have c0 : wr.cell? ⟨g, i * 3, none⟩ = some (.bool bo) := by simp [World.cell?, hcs, b0]
        have c1 : wr.cell? ⟨g, i * 3 + 1, none⟩ = some LV := by simp [World.cell?, hcs, b1]
        have c2 : wr.cell? ⟨g, i * 3 + 2, none⟩ = some PV := by simp [World.cell?, hcs, b2]
        have f0 : wr.frozen? ⟨g, i * 3, none⟩ = false := by simp [World.frozen?, hcs]
        have hpi : p 0 ≤ p i := by have := hmono2 i 0 (by omega); simpa using this
        have hpe : p (i + 1) ≤ p l.length := by have := hmono2 (l.length - (i + 1)) (i + 1) (by omega); rwa [show i + 1 + (l.length - (i + 1)) = l.length by omega] at this
        have hws := hext.size
        have hkm : 0 ≤ k + (markN (l.take i) : Int) := by omega
        go_wp2_with fail
        generalize hbv : ((k + (markN (l.take i) : Int)) % 3 == 0) = bv
        have hA : ∀ b, b ≠ g → (wr.setCell ⟨g, i * 3, none⟩ (.bool bv)).heap[b]? = wr.heap[b]? := fun b hb => setCell_other hb
        have hAg := setCell_at (o := i * 3) (v := .bool bv) hcs
        have hAs : (wr.setCell ⟨g, i * 3, none⟩ (.bool bv)).heap.size = wr.heap.size := setCell_size
        have hAo : (wr.setCell ⟨g, i * 3, none⟩ (.bool bv)).os = wr.os ∧ (wr.setCell ⟨g, i * 3, none⟩ (.bool bv)).tape = wr.tape ∧ (wr.setCell ⟨g, i * 3, none⟩ (.bool bv)).output = wr.output := ⟨rfl, rfl, rfl⟩
        generalize hwA : wr.setCell ⟨g, i * 3, none⟩ (.bool bv) = wA at *
        have SLA : SubO (p i) (q i) wA.heap [ownI x.list] x.list.length LV := SL.keep (fun b h1 h2 => by rw [hA b (by omega), hrest b h1 (by omega)]) (by omega)
        refine (mark_list x.list _ (hs x (List.mem_of_getElem? hx)).1 (by omega) (by omega) SLA).mono ?_
        rintro en wB ⟨rfl, hB⟩
        have hBg : wB.heap[g]? = some (.cells (cs.setIfInBounds (i * 3) (.bool bv)) t (0, 0)) := by rw [hB.block g (by omega) (by omega)]; exact hAg
        have d2 : wB.cell? ⟨g, i * 3 + 2, none⟩ = some PV := by
          simp only [World.cell?, hBg, Option.isSome_none, Bool.false_eq_true, if_false]
          rw [Array.getElem?_setIfInBounds, if_neg (by omega)]
          exact b2
        have SPB : SubO (q i) (p (i + 1)) wB.heap [ownP x.pairs] x.pairs.length PV := SP.keep (fun b h1 h2 => by rw [hB.block b (by omega) (by omega), hA b (by omega), hrest b (by omega) (by omega)]) (by have := hB.size; omega)
        have hBs := hB.size
        go_wp2_with fail
        refine (mark_pairs x.pairs _ (hs x (List.mem_of_getElem? hx)).2 (by omega) (by omega) SPB).mono ?_
        rintro en wC ⟨rfl, hC⟩
        have hk2 : k + (markN (l.take i) : Int) + 1 + x.list.length + 2 * x.pairs.length = k + (markN (l.take (i + 1)) : Int) := by omega
        rw [hk2]
        have HI : Hid (MInv lo hi g t cells p l.length (i + 1) w wC) := by
          have hA2 : Ext wr (fun b => lo ≤ b ∧ b < hi) wA := ⟨hAo.1, hAo.2.1, hAo.2.2, by omega, fun b hb hn => hA b (fun h => hn (by omega))⟩
          have hB2 : Ext wA (fun b => lo ≤ b ∧ b < hi) wB := ext_sub hB (fun b hb => by omega)
          have hC2 : Ext wB (fun b => lo ≤ b ∧ b < hi) wC := ext_sub hC (fun b hb => by omega)
          refine ⟨ext_trans (ext_trans (ext_trans hext hA2) hB2) hC2, fun b h1 h2 => ?_, cs.setIfInBounds (i * 3) (.bool bv), ?_, fun j hj => ?_⟩
          · rw [hC.block b (by omega) (by omega), hB.block b (by omega) (by omega), hA b (by omega), hrest b (by omega) h2]
          · rw [hC.block g (by omega) (by omega)]; exact hBg
          · obtain ⟨⟨bo', b0'⟩, b1', b2'⟩ := hslots j hj
            refine ⟨?_, ?_, ?_⟩
            · by_cases hji : j = i
              · subst hji
                refine ⟨bv, ?_⟩
                rw [Array.getElem?_setIfInBounds, if_pos rfl, if_pos (Array.getElem?_eq_some_iff.1 b0).1]
              · refine ⟨bo', ?_⟩
                rw [Array.getElem?_setIfInBounds, if_neg (by omega)]; exact b0'
            · rw [Array.getElem?_setIfInBounds, if_neg (by omega)]; exact b1'
            · rw [Array.getElem?_setIfInBounds, if_neg (by omega)]; exact b2'
        clear hA hAg hAs hAo SLA hB hBg d2 SPB hBs hC SL SP hat
        go_wp2
        exact ⟨⟨i + 1, by omega, by go_num, by first | rfl | (congr 1; omega), HI⟩, by simp [intOf]; omega⟩
      · have hie : i = l.length := by omega
        subst hie
        have HE : Hid (Ext w (fun b => lo ≤ b ∧ b < hi) wr) := HM.out.ext
        rw [List.take_length]
        clear HM hat
        go_wp2
        go_ret
        exact ⟨rfl, HE.out⟩

theorem MTree.keep {lo hi : Nat} {h h' : Array Obj} {l : Bnds} {v : Value} (H : MTree lo hi h l v) (hk : ∀ b, lo ≤ b → b < hi → h'[b]? = h[b]?) (hs : h.size ≤ h'.size) : MTree lo hi h' l v := by
  obtain ⟨A, c, rfl, hA⟩ := H
  refine ⟨A, c, rfl, ?_⟩
  rcases hA with hA | ⟨g, cells, t, p, q, rfl, hg, hgp, hcells, hph, hlc, hat⟩
  · exact .inl hA
  have hmono : ∀ i, i < l.length → p i ≤ p (i + 1) := fun i hi => by
    obtain ⟨x, hx⟩ := at_some (xs := l) (i := i) hi
    obtain ⟨_, _, _, _, _, _, _, h1, h2, _⟩ := hat i x hx
    omega
  have hmono2 : ∀ d a, a + d ≤ l.length → p a ≤ p (a + d) := by
    intro d
    induction d with
    | zero => intro a _; exact Nat.le_refl _
    | succ d ih => intro a ha; have h1 := ih a (by omega); have h2 := hmono (a + d) (by omega); rw [show a + (d + 1) = a + d + 1 by omega]; omega
  have h0 := hmono2 l.length 0 (by omega)
  rw [Nat.zero_add] at h0
  refine .inr ⟨g, cells, t, p, q, rfl, hg, hgp, by rw [hk g hg (by omega)]; exact hcells, hph, hlc, fun i x hx => ?_⟩
  obtain ⟨bo, LV, PV, h0', h1, h2, h3, h4, h5, h6, h7⟩ := hat i x hx
  have hil := lt_of_some hx
  have hpi : p 0 ≤ p i := by have := hmono2 i 0 (by omega); simpa using this
  have hpe : p (i + 1) ≤ p l.length := by have := hmono2 (l.length - (i + 1)) (i + 1) (by omega); rwa [show i + 1 + (l.length - (i + 1)) = l.length by omega] at this
  exact ⟨bo, LV, PV, h0', h1, h2, h3, h4, h5, h6.keep (fun b b1 b2 => hk b (by omega) (by omega)) hs, h7.keep (fun b b1 b2 => hk b (by omega) (by omega)) hs⟩

theorem MTree.isSome {lo hi : Nat} {h : Array Obj} {l : Bnds} {v : Value} (H : MTree lo hi h l v) : ∃ ad c, v = .slice (some ad) l.length c := by
  obtain ⟨A, c, rfl, hA⟩ := H
  rcases hA with ⟨_, ad, rfl⟩ | ⟨g, cells, t, p, q, rfl, _⟩
  · exact ⟨ad, c, rfl⟩
  · exact ⟨_, c, rfl⟩

theorem markBinding_raw (l : Bnds) (v : Value) (k : Int) (hl : l.length ≤ 1048576) (hs : ∀ x ∈ l, x.list.length ≤ 16777216 ∧ x.pairs.length ≤ 16777216) (hk : 0 ≤ k) (hk' : k + markN l ≤ 67108864) {lo hi : Nat} {w : World} (hw : hi ≤ w.heap.size) (H : MTree lo hi w.heap l v) :
    Calls Tryz.prog 15 #[.agg #[v], .int .i64 k] w fun en w' => en = .returned (.int .i64 (k + markN l)) ∧ Ext w (fun b => lo ≤ b ∧ b < hi) w' := by
  have e40 : ∀ args w, (callFunc 40 args).run Tryz.prog w = .ok (.enter 40 args) w := enters_of Tryz.func40 (by kernel_rfl) rfl
  obtain ⟨A, c, rfl, hA⟩ := H
  go_enter Tryz.func15, Tryz.ntmps15
  go_wp2_with fail
  have HT : MTree lo hi (w.alloc (.cells #[Value.slice A l.length c] 41)).heap l (.slice A l.length c) :=
    MTree.keep ⟨A, c, rfl, hA⟩ (fun b _ h2 => heap_alloc_old w _ (by omega)) (by simp)
  refine (markSlotS_raw l _ k hl hs hk hk' (by simp; omega) HT).mono ?_
  rintro en w2 ⟨rfl, h2⟩
  have HE : Hid (Ext w (fun b => lo ≤ b ∧ b < hi) w2) := ext_trans (w1 := w.alloc (.cells #[Value.slice A l.length c] 41)) ⟨rfl, rfl, rfl, by simp, fun b hb _ => heap_alloc_old w _ hb⟩ h2
  clear h2 HT hA
  go_wp2
  go_ret
  exact ⟨rfl, HE.out⟩
end

section
open Go Go.RowKit Go.Shelf
theorem make_list (xs : List Int) (hx : xs.length ≤ 16777216) {w : World} {n : Nat} {v : Value} (hn : n ≤ w.heap.size) (H : CR (lowD n) w.heap [] (.fs (xs.map eI)) v) :
    Calls Tryz.prog 49 #[v] w fun en w' => ∃ v', en = .returned v' ∧ Below w.heap.size w w' ∧ SubO w.heap.size w'.heap.size w'.heap [ownI xs] xs.length v' := by
  refine (raw_own (toIntS_ct xs hx) glob_any (vals := [v]) ?_ rfl (noFzO_I _)).mono ?_
  · simp only [TRs, TR]
    exact ⟨_, _, rfl, cr_keep H hn (fun _ _ => rfl), rfl⟩
  · rintro en w' ⟨v', e, rfl, h1, h2, h3, h4⟩
    exact ⟨v', rfl, h3, e, h2, h1, h4⟩

theorem make_pairs (xs : List Pair) (hx : xs.length ≤ 16777216) {w : World} {n : Nat} {v : Value} (hn : n ≤ w.heap.size) (H : CR (lowD n) w.heap [] (.fs (xs.map eP)) v) :
    Calls Tryz.prog 50 #[v] w fun en w' => ∃ v', en = .returned v' ∧ Below w.heap.size w w' ∧ SubO w.heap.size w'.heap.size w'.heap [ownP xs] xs.length v' := by
  refine (raw_own (toPairS_ct xs hx) glob_any (vals := [v]) ?_ rfl (noFzO_P _)).mono ?_
  · simp only [TRs, TR]
    exact ⟨_, _, rfl, cr_keep H hn (fun _ _ => rfl), rfl⟩
  · rintro en w' ⟨v', e, rfl, h1, h2, h3, h4⟩
    exact ⟨v', rfl, h3, e, h2, h1, h4⟩

theorem SubO.slice {lo hi : Nat} {h : Array Obj} {ob : AObj} {n : Nat} {v : Value} (H : SubO lo hi h [some ob] n v) : ∃ A c, v = .slice A n c := by
  obtain ⟨e, h1, h2, _⟩ := H
  obtain ⟨a, cap, m, he, _⟩ := h1.objs 0 ob rfl
  simp only [TR, CR, he] at h2
  obtain ⟨A, c, hv, _⟩ := h2
  exact ⟨A, c, hv⟩

theorem SubO.mono {lo hi lo' hi' : Nat} {h : Array Obj} {O : List (Option AObj)} {n : Nat} {v : Value} (H : SubO lo hi h O n v) (h1 : lo' ≤ lo) (h2 : hi ≤ hi') : SubO lo' hi' h O n v := by
  obtain ⟨e, a, b, c⟩ := H
  exact ⟨e, a, b, fun k hk => by have := c k hk; omega⟩

theorem cell_blk {w : World} {b : Nat} {cs : Array Value} {T : TypeId} {fr : Nat × Nat} (hb : w.heap[b]? = some (.cells cs T fr)) (j : Nat) : w.cell? ⟨b, j, none⟩ = cs[j]? := by simp [World.cell?, hb]

theorem frozen_blk {w : World} {b : Nat} {cs : Array Value} {T : TypeId} (hb : w.heap[b]? = some (.cells cs T (0, 0))) (j : Nat) : w.frozen? ⟨b, j, none⟩ = false := by simp [World.frozen?, hb]

theorem toSlot_raw (x : Slot) (hx : x.list.length ≤ 16777216 ∧ x.pairs.length ≤ 16777216) {w : World} {n : Nat} {LA PA : Value} (hn : n ≤ w.heap.size) (h1 : CR (lowD n) w.heap [] (.fs (x.list.map eI)) LA) (h2 : CR (lowD n) w.heap [] (.fs (x.pairs.map eP)) PA) :
    Calls Tryz.prog 64 #[.agg #[.bool x.given, LA, PA]] w fun en w' => ∃ LV PV q, en = .returned (.agg #[.bool x.given, LV, PV]) ∧ Below w.heap.size w w' ∧ w.heap.size ≤ q ∧ q ≤ w'.heap.size ∧
      SubO w.heap.size q w'.heap [ownI x.list] x.list.length LV ∧ SubO q w'.heap.size w'.heap [ownP x.pairs] x.pairs.length PV := by
  have e49 : ∀ args w, (callFunc 49 args).run Tryz.prog w = .ok (.enter 49 args) w := enters_of Tryz.func49 (by kernel_rfl) rfl
  have e50 : ∀ args w, (callFunc 50 args).run Tryz.prog w = .ok (.enter 50 args) w := enters_of Tryz.func50 (by kernel_rfl) rfl
  have h1' := h1
  have h2' := h2
  simp only [CR] at h1' h2'
  obtain ⟨A1, c1, rfl, _⟩ := h1'
  obtain ⟨A2, c2, rfl, _⟩ := h2'
  simp only [List.length_map] at h1 h2 ⊢
  go_enter Tryz.func64, Tryz.ntmps64
  go_wp2_with fail
  generalize hwA : ((w.alloc (Obj.cells #[Value.bool x.given, Value.slice A1 x.list.length c1, Value.slice A2 x.pairs.length c2] 90)).alloc (Obj.cells #[Value.bool false, Value.slice none 0 0, Value.slice none 0 0] 95)).alloc (Obj.cells #[Value.bool x.given, Value.slice none 0 0, Value.slice none 0 0] 95) = wA
  have sA : wA.heap.size = w.heap.size + 3 := by rw [← hwA]; simp
  have bA : Below w.heap.size w wA := by
    rw [← hwA]
    exact ((Below.refl _ _).alloc (Nat.le_refl _) _).alloc (by simp) _ |>.alloc (by simp; omega) _
  have A0 : wA.heap[w.heap.size]? = some (Obj.cells #[Value.bool x.given, Value.slice A1 x.list.length c1, Value.slice A2 x.pairs.length c2] 90) := by
    rw [← hwA, heap_alloc_old _ _ (by simp; omega), heap_alloc_old _ _ (by simp)]; exact heap_alloc_new _ _
  have A1' : wA.heap[w.heap.size + 1]? = some (Obj.cells #[Value.bool false, Value.slice none 0 0, Value.slice none 0 0] 95) := by
    rw [← hwA, heap_alloc_old _ _ (by simp)]
    have := heap_alloc_new (w.alloc (Obj.cells #[Value.bool x.given, Value.slice A1 x.list.length c1, Value.slice A2 x.pairs.length c2] 90)) (Obj.cells #[Value.bool false, Value.slice none 0 0, Value.slice none 0 0] 95)
    simpa using this
  have A2' : wA.heap[w.heap.size + 1 + 1]? = some (Obj.cells #[Value.bool x.given, Value.slice none 0 0, Value.slice none 0 0] 95) := by
    rw [← hwA]
    have := heap_alloc_new ((w.alloc (Obj.cells #[Value.bool x.given, Value.slice A1 x.list.length c1, Value.slice A2 x.pairs.length c2] 90)).alloc (Obj.cells #[Value.bool false, Value.slice none 0 0, Value.slice none 0 0] 95)) (Obj.cells #[Value.bool x.given, Value.slice none 0 0, Value.slice none 0 0] 95)
    simpa using this
  have h1A : CR (lowD n) wA.heap [] (.fs (x.list.map eI)) (.slice A1 x.list.length c1) := cr_keep h1 (Nat.le_refl _) (fun b hb => bA.block b (by omega))
  have h2A : CR (lowD n) wA.heap [] (.fs (x.pairs.map eP)) (.slice A2 x.pairs.length c2) := cr_keep h2 (Nat.le_refl _) (fun b hb => bA.block b (by omega))
  refine (make_list x.list hx.1 (by omega) h1A).mono ?_
  rintro en wB ⟨LV, rfl, bB, SL⟩
  obtain ⟨A3, c3, rfl⟩ := SL.slice
  have sB := bB.size
  have B0 := (bB.block w.heap.size (by omega)).trans A0
  have B1 := (bB.block (w.heap.size + 1) (by omega)).trans A1'
  have B2 := (bB.block (w.heap.size + 1 + 1) (by omega)).trans A2'
  have k0 : wB.cell? ⟨w.heap.size, 2, none⟩ = some (Value.slice A2 x.pairs.length c2) := by rw [cell_blk B0]; rfl
  have k2 : wB.cell? ⟨w.heap.size + 1 + 1, 1, none⟩ = some (Value.slice none 0 0) := by rw [cell_blk B2]; rfl
  have f2 : wB.frozen? ⟨w.heap.size + 1 + 1, 1, none⟩ = false := frozen_blk B2 1
  go_wp2_with fail
  generalize hwC : wB.setCell ⟨w.heap.size + 1 + 1, 1, none⟩ (Value.slice A3 x.list.length c3) = wC
  have sC : wC.heap.size = wB.heap.size := by rw [← hwC]; exact setCell_size
  have C2 : wC.heap[w.heap.size + 1 + 1]? = some (Obj.cells #[Value.bool x.given, Value.slice A3 x.list.length c3, Value.slice none 0 0] 95) := by
    rw [← hwC]; exact setCell_at B2
  have oC : ∀ b, b ≠ w.heap.size + 1 + 1 → wC.heap[b]? = wB.heap[b]? := fun b hb => by rw [← hwC]; exact setCell_other hb
  have eC : wC.os = wB.os ∧ wC.tape = wB.tape ∧ wC.output = wB.output := by rw [← hwC]; exact ⟨rfl, rfl, rfl⟩
  have h2C : CR (lowD n) wC.heap [] (.fs (x.pairs.map eP)) (.slice A2 x.pairs.length c2) := cr_keep h2A (Nat.le_refl _) (fun b hb => by rw [oC b (by omega), bB.block b (by omega)])
  refine (make_pairs x.pairs hx.2 (by omega) h2C).mono ?_
  rintro en wD ⟨PV, rfl, bD, SP⟩
  obtain ⟨A4, c4, rfl⟩ := SP.slice
  have sD := bD.size
  have D2 := (bD.block (w.heap.size + 1 + 1) (by omega)).trans C2
  have D1 := ((bD.block (w.heap.size + 1) (by omega)).trans (oC _ (by omega))).trans B1
  have SLD : SubO wA.heap.size wB.heap.size wD.heap [ownI x.list] x.list.length (Value.slice A3 x.list.length c3) :=
    SL.keep (fun b h1 h2 => by rw [bD.block b (by omega), oC b (by omega)]) (by omega)
  have hbel : Below w.heap.size w wD := ⟨bD.os.trans (eC.1.trans (bB.os.trans bA.os)), bD.tape.trans (eC.2.1.trans (bB.tape.trans bA.tape)), bD.output.trans (eC.2.2.trans (bB.output.trans bA.output)), by omega, fun b hb => by
    rw [bD.block b (by omega), oC b (by omega), bB.block b (by omega), bA.block b hb]⟩
  have k0 : wD.cell? ⟨w.heap.size + 1 + 1, 0, none⟩ = some (Value.bool x.given) := by rw [cell_blk D2]; rfl
  have k1 : wD.cell? ⟨w.heap.size + 1 + 1, 1, none⟩ = some (Value.slice A3 x.list.length c3) := by rw [cell_blk D2]; rfl
  have k2 : wD.cell? ⟨w.heap.size + 1 + 1, 2, none⟩ = some (Value.slice none 0 0) := by rw [cell_blk D2]; rfl
  have f2 : wD.frozen? ⟨w.heap.size + 1 + 1, 2, none⟩ = false := frozen_blk D2 2
  have m0 : wD.cell? ⟨w.heap.size + 1, 0, none⟩ = some (Value.bool false) := by rw [cell_blk D1]; rfl
  have m1 : wD.cell? ⟨w.heap.size + 1, 1, none⟩ = some (Value.slice none 0 0) := by rw [cell_blk D1]; rfl
  have m2 : wD.cell? ⟨w.heap.size + 1, 2, none⟩ = some (Value.slice none 0 0) := by rw [cell_blk D1]; rfl
  have n0 : wD.frozen? ⟨w.heap.size + 1, 0, none⟩ = false := frozen_blk D1 0
  have n1 : wD.frozen? ⟨w.heap.size + 1, 1, none⟩ = false := frozen_blk D1 1
  have n2 : wD.frozen? ⟨w.heap.size + 1, 2, none⟩ = false := frozen_blk D1 2
  have fin : Hid (∀ wE : World, wE = ((((wD.setCell ⟨w.heap.size + 1 + 1, 2, none⟩ (Value.slice A4 x.pairs.length c4)).setCell ⟨w.heap.size + 1, 0, none⟩ (Value.bool x.given)).setCell ⟨w.heap.size + 1, 1, none⟩ (Value.slice A3 x.list.length c3)).setCell ⟨w.heap.size + 1, 2, none⟩ (Value.slice A4 x.pairs.length c4)) →
      Below w.heap.size w wE ∧ w.heap.size ≤ wC.heap.size ∧ wC.heap.size ≤ wE.heap.size ∧ SubO w.heap.size wC.heap.size wE.heap [ownI x.list] x.list.length (Value.slice A3 x.list.length c3) ∧ SubO wC.heap.size wE.heap.size wE.heap [ownP x.pairs] x.pairs.length (Value.slice A4 x.pairs.length c4)) := by
    rintro wE rfl
    have hE : ∀ b, b ≠ w.heap.size + 1 → b ≠ w.heap.size + 1 + 1 → ((((wD.setCell ⟨w.heap.size + 1 + 1, 2, none⟩ (Value.slice A4 x.pairs.length c4)).setCell ⟨w.heap.size + 1, 0, none⟩ (Value.bool x.given)).setCell ⟨w.heap.size + 1, 1, none⟩ (Value.slice A3 x.list.length c3)).setCell ⟨w.heap.size + 1, 2, none⟩ (Value.slice A4 x.pairs.length c4)).heap[b]? = wD.heap[b]? := fun b h1 h2 => by
      rw [setCell_other h1, setCell_other h1, setCell_other h1, setCell_other h2]
    have sE : ((((wD.setCell ⟨w.heap.size + 1 + 1, 2, none⟩ (Value.slice A4 x.pairs.length c4)).setCell ⟨w.heap.size + 1, 0, none⟩ (Value.bool x.given)).setCell ⟨w.heap.size + 1, 1, none⟩ (Value.slice A3 x.list.length c3)).setCell ⟨w.heap.size + 1, 2, none⟩ (Value.slice A4 x.pairs.length c4)).heap.size = wD.heap.size := by
      rw [setCell_size, setCell_size, setCell_size, setCell_size]
    refine ⟨⟨hbel.os, hbel.tape, hbel.output, by rw [sE]; exact hbel.size, fun b hb => by rw [hE b (by omega) (by omega)]; exact hbel.block b hb⟩, by omega, by omega, ?_, ?_⟩
    · exact (SLD.keep (fun b h1 h2 => hE b (by omega) (by omega)) (by omega)).mono (by omega) (by omega)
    · exact (SP.keep (fun b h1 h2 => hE b (by omega) (by omega)) (by omega)).mono (by omega) (by omega)
  clear SLD SP SL hbel
  go_wp2
  refine bodyPost_ret (v := .agg #[.bool x.given, Value.slice A3 x.list.length c3, Value.slice A4 x.pairs.length c4]) ?_ rfl ?_
  · simp [results, Tryz.results64, go_sem, m0, m1, m2]
  · obtain ⟨q1, q2, q3, q4, q5⟩ := fin.out _ rfl
    exact ⟨_, _, wC.heap.size, rfl, q1, q2, q3, q4, q5⟩

theorem made3 (a b c : Value) (n j : Nat) (h : j < n) : (madeCells #[a, b, c] (n * 3))[j * 3]? = some a ∧ (madeCells #[a, b, c] (n * 3))[j * 3 + 1]? = some b ∧ (madeCells #[a, b, c] (n * 3))[j * 3 + 2]? = some c := by
  have e0 : j * 3 % 3 = 0 := by omega
  have e1 : (j * 3 + 1) % 3 = 1 := by omega
  have e2 : (j * 3 + 2) % 3 = 2 := by omega
  unfold madeCells
  refine ⟨?_, ?_, ?_⟩
  · rw [Array.getElem?_map, Array.getElem?_range]; simp [e0]; omega
  · rw [Array.getElem?_map, Array.getElem?_range]; simp [e1]; omega
  · rw [Array.getElem?_map, Array.getElem?_range]; simp [e2]; omega

structure TInv (l : Bnds) (w wr : World) (i : Nat) : Prop where
  bel : Below w.heap.size w wr
  ex : ∃ (cs : Array Value) (p q : Nat → Nat), wr.heap[w.heap.size]? = some (.cells cs 95 (0, 0)) ∧ w.heap.size < p 0 ∧ w.heap.size < p i ∧ p i ≤ wr.heap.size ∧
    (∀ j x, j < i → l[j]? = some x → ∃ LV PV, cs[j * 3]? = some (.bool x.given) ∧ cs[j * 3 + 1]? = some LV ∧ cs[j * 3 + 2]? = some PV ∧ p j ≤ q j ∧ q j ≤ p (j + 1) ∧ w.heap.size < p j ∧ p (j + 1) ≤ wr.heap.size ∧
      SubO (p j) (q j) wr.heap [ownI x.list] x.list.length LV ∧ SubO (q j) (p (j + 1)) wr.heap [ownP x.pairs] x.pairs.length PV) ∧
    (∀ j, i ≤ j → j < l.length → cs[j * 3]? = some (.bool false) ∧ cs[j * 3 + 1]? = some (.slice none 0 0) ∧ cs[j * 3 + 2]? = some (.slice none 0 0))

theorem slot_at {D : Nat → Prop} {h : Array Obj} {l : Bnds} {cells : Array Value} {off esz i : Nat} {x : Slot} (H : CRr D h [] esz (l.map eL) (cells.toList.drop off)) (hx : l[i]? = some x) :
    ∃ y1 y2, cells[off + i * 3]? = some (.bool x.given) ∧ cells[off + i * 3 + 1]? = some y1 ∧ cells[off + i * 3 + 2]? = some y2 ∧ CR D h [] (.fs (x.list.map eI)) y1 ∧ CR D h [] (.fs (x.pairs.map eP)) y2 := by
  obtain ⟨hesz, hrow⟩ := H.get (map_at (enc := eL) hx)
  have hesz3 : esz = 3 := hesz.symm
  subst hesz3
  rw [List.drop_drop] at hrow
  obtain ⟨y1, y2, r, hdr, hy1, hy2⟩ : ∃ y1 y2 r, (cells.toList.drop (off + i * 3)) = Value.bool x.given :: y1 :: y2 :: r ∧ CR D h [] (.fs (x.list.map eI)) y1 ∧ CR D h [] (.fs (x.pairs.map eP)) y2 := by
    match cells.toList.drop (off + i * 3), hrow with
    | [], h1 => simp [CRp, eL] at h1
    | [_], h1 => simp [CRp, eL] at h1
    | [_, _], h1 => simp [CRp, eL] at h1
    | a :: b :: c :: r, h1 =>
      simp only [CRp, eL, and_true] at h1
      refine ⟨b, c, r, ?_, h1.2.1, h1.2.2⟩
      have := h1.1
      simp only [CR] at this
      rw [this]
  refine ⟨y1, y2, ?_, ?_, ?_, hy1, hy2⟩
  · have := congrArg (fun l => l[0]?) hdr; simpa using this
  · have := congrArg (fun l => l[1]?) hdr; simpa using this
  · have := congrArg (fun l => l[2]?) hdr; simpa using this

theorem slot_info : (Tryz.prog.info? 95).map (fun i => (i.zero, i.size, i.bytes)) = some (some (.agg #[.bool false, .slice none 0 0, .slice none 0 0]), 3, 56) := by kernel_rfl

theorem toSlotS_raw (l : Bnds) (hl : l.length ≤ 1048576) (hs : ∀ x ∈ l, x.list.length ≤ 16777216 ∧ x.pairs.length ≤ 16777216) {w : World} {n : Nat} {va : Value} (hn : n ≤ w.heap.size) (H : CR (lowD n) w.heap [] (.fs (l.map eL)) va) :
    Calls Tryz.prog 32 #[va] w fun en w' => ∃ v, en = .returned v ∧ Below w.heap.size w w' ∧ MTree w.heap.size w'.heap.size w'.heap l v := by
  have e64 : ∀ args w, (callFunc 64 args).run Tryz.prog w = .ok (.enter 64 args) w := enters_of Tryz.func64 (by kernel_rfl) rfl
  have u3 := run_underlying Tryz.underlying3
  obtain ⟨i0, hi0, hz0, hz1, hz2⟩ := info_parts slot_info
  have hmk : ∀ u : World, (Instr.makeSlice 39 (.int .i64 (l.length : Int)) (.int .i64 (l.length : Int))).run Tryz.prog u =
      .ok (.slice (some ⟨u.heap.size, 0, none⟩) l.length l.length) (u.alloc (.cells (madeCells #[.bool false, .slice none 0 0, .slice none 0 0] (l.length * 3)) 95)) := fun u => by
    have h := run_make (P := Tryz.prog) u 39 95 i0 _ Tryz.underlying39 hi0 hz0 .i64 .i64 (l.length : Int) (l.length : Int) (by omega) (Int.le_refl _) (by rw [hz2]; omega) (by omega)
    simpa [hz1, Value.cells] using h
  have H' := H
  simp only [CR] at H'
  obtain ⟨A1, c1, rfl, hc1, hA⟩ := H'
  simp only [List.length_map] at hc1 H ⊢
  go_enter Tryz.func32, Tryz.ntmps32
  go_wp2_with fail
  go_loopw [4] (fun iv wr => ∃ i : Nat, i ≤ l.length ∧ iv = .int .i64 i ∧ Hid (TInv l w wr i)) (fun iv _ => l.length - (intOf iv).toNat)
  case atStart =>
    refine ⟨0, Nat.zero_le _, rfl, ⟨(Below.refl _ _).alloc (Nat.le_refl _) _, _, fun _ => w.heap.size + 1, fun _ => 0, heap_alloc_new _ _, by simp, by simp, by simp, fun j x hj => by omega, fun j _ hj => made3 _ _ _ _ _ hj⟩⟩
  case round =>
    obtain ⟨i, hik, rfl, HT⟩ := hrel
    by_cases hil : i < l.length
    · obtain ⟨x, hx⟩ := at_some (xs := l) (i := i) hil
      obtain ⟨hbel, cs, p, q, hcs, hp0, hpi, hps, hdone, hrest⟩ := HT.out
      obtain ⟨a, cells, t, fr, esz, rfl, hsp, hDa, hcells, hrows⟩ : ∃ a cells t fr esz, A1 = some a ∧ a.spot = none ∧ lowD n a.block ∧ w.heap[a.block]? = some (Obj.cells cells t fr) ∧ CRr (lowD n) w.heap [] esz (l.map eL) (cells.toList.drop a.off) := by
        rcases hA with hA | hA
        · rw [List.map_eq_nil_iff] at hA; rw [hA] at hil; simp at hil
        · exact hA
      obtain ⟨b, off, sp⟩ := a
      simp only at hsp
      subst hsp
      simp only at hDa hcells hrows
      obtain ⟨y1, y2, g0, g1, g2, hy1, hy2⟩ := slot_at hrows hx
      have hbn : b < n := hDa
      have hwr : wr.heap[b]? = some (Obj.cells cells t fr) := by rw [hbel.block b (by omega)]; exact hcells
      have c0 : wr.cell? ⟨b, off + i * 3, none⟩ = some (Value.bool x.given) := by rw [cell_blk hwr]; exact g0
      have c1' : wr.cell? ⟨b, off + i * 3 + 1, none⟩ = some y1 := by rw [cell_blk hwr]; exact g1
      have c2' : wr.cell? ⟨b, off + i * 3 + 2, none⟩ = some y2 := by rw [cell_blk hwr]; exact g2
      have hy1r : CR (lowD n) wr.heap [] (.fs (x.list.map eI)) y1 := cr_keep hy1 (Nat.le_refl _) (fun b hb => hbel.block b (by omega))
      have hy2r : CR (lowD n) wr.heap [] (.fs (x.pairs.map eP)) y2 := cr_keep hy2 (Nat.le_refl _) (fun b hb => hbel.block b (by omega))
      have hsz := hbel.size
      obtain ⟨z0, z1, z2⟩ := hrest i (Nat.le_refl _) hil
      have ts := toSlot_raw x (hs x (List.mem_of_getElem? hx)) (w := wr) (n := n) (by omega) hy1r hy2r
      clear H hrows hcells hA hwr g0 g1 g2
      have hy1s := hy1
      have hy2s := hy2
      simp only [CR] at hy1s hy2s
      obtain ⟨B1, d1, rfl, _⟩ := hy1s
      obtain ⟨B2, d2, rfl, _⟩ := hy2s
      simp only [List.length_map] at ts
      go_wp2_with fail
      refine ts.mono ?_
      rintro en wE ⟨LV, PV, qn, rfl, bE, hq1, hq2, SL, SP⟩
      obtain ⟨A3, c3, rfl⟩ := SL.slice
      obtain ⟨A4, c4, rfl⟩ := SP.slice
      have sE := bE.size
      have E0 := (bE.block w.heap.size (by omega)).trans hcs
      have k0 : wE.cell? ⟨w.heap.size, i * 3, none⟩ = some (Value.bool false) := by rw [cell_blk E0]; exact z0
      have k1 : wE.cell? ⟨w.heap.size, i * 3 + 1, none⟩ = some (Value.slice none 0 0) := by rw [cell_blk E0]; exact z1
      have k2 : wE.cell? ⟨w.heap.size, i * 3 + 2, none⟩ = some (Value.slice none 0 0) := by rw [cell_blk E0]; exact z2
      have f0 : wE.frozen? ⟨w.heap.size, i * 3, none⟩ = false := frozen_blk E0 _
      have f1 : wE.frozen? ⟨w.heap.size, i * 3 + 1, none⟩ = false := frozen_blk E0 _
      have f2 : wE.frozen? ⟨w.heap.size, i * 3 + 2, none⟩ = false := frozen_blk E0 _
      have HI : Hid (TInv l w (((wE.setCell ⟨w.heap.size, i * 3, none⟩ (.bool x.given)).setCell ⟨w.heap.size, i * 3 + 1, none⟩ (Value.slice A3 x.list.length c3)).setCell ⟨w.heap.size, i * 3 + 2, none⟩ (Value.slice A4 x.pairs.length c4)) (i + 1)) := by
        have hF : ∀ b, b ≠ w.heap.size → (((wE.setCell ⟨w.heap.size, i * 3, none⟩ (.bool x.given)).setCell ⟨w.heap.size, i * 3 + 1, none⟩ (Value.slice A3 x.list.length c3)).setCell ⟨w.heap.size, i * 3 + 2, none⟩ (Value.slice A4 x.pairs.length c4)).heap[b]? = wE.heap[b]? := fun b hb => by
          rw [setCell_other hb, setCell_other hb, setCell_other hb]
        have hFg := setCell_at (o := i * 3 + 2) (v := Value.slice A4 x.pairs.length c4) (setCell_at (o := i * 3 + 1) (v := Value.slice A3 x.list.length c3) (setCell_at (o := i * 3) (v := .bool x.given) E0))
        have sF : (((wE.setCell ⟨w.heap.size, i * 3, none⟩ (.bool x.given)).setCell ⟨w.heap.size, i * 3 + 1, none⟩ (Value.slice A3 x.list.length c3)).setCell ⟨w.heap.size, i * 3 + 2, none⟩ (Value.slice A4 x.pairs.length c4)).heap.size = wE.heap.size := by
          rw [setCell_size, setCell_size, setCell_size]
        have oF : (((wE.setCell ⟨w.heap.size, i * 3, none⟩ (.bool x.given)).setCell ⟨w.heap.size, i * 3 + 1, none⟩ (Value.slice A3 x.list.length c3)).setCell ⟨w.heap.size, i * 3 + 2, none⟩ (Value.slice A4 x.pairs.length c4)).os = wE.os ∧ (((wE.setCell ⟨w.heap.size, i * 3, none⟩ (.bool x.given)).setCell ⟨w.heap.size, i * 3 + 1, none⟩ (Value.slice A3 x.list.length c3)).setCell ⟨w.heap.size, i * 3 + 2, none⟩ (Value.slice A4 x.pairs.length c4)).tape = wE.tape ∧ (((wE.setCell ⟨w.heap.size, i * 3, none⟩ (.bool x.given)).setCell ⟨w.heap.size, i * 3 + 1, none⟩ (Value.slice A3 x.list.length c3)).setCell ⟨w.heap.size, i * 3 + 2, none⟩ (Value.slice A4 x.pairs.length c4)).output = wE.output := ⟨rfl, rfl, rfl⟩
        generalize (((wE.setCell ⟨w.heap.size, i * 3, none⟩ (.bool x.given)).setCell ⟨w.heap.size, i * 3 + 1, none⟩ (Value.slice A3 x.list.length c3)).setCell ⟨w.heap.size, i * 3 + 2, none⟩ (Value.slice A4 x.pairs.length c4)) = wF at hF hFg sF oF ⊢
        have q0 := (Array.getElem?_eq_some_iff.1 z0).1
        have q1 := (Array.getElem?_eq_some_iff.1 z1).1
        have q2 := (Array.getElem?_eq_some_iff.1 z2).1
        refine ⟨⟨oF.1.trans (bE.os.trans hbel.os), oF.2.1.trans (bE.tape.trans hbel.tape), oF.2.2.trans (bE.output.trans hbel.output), by omega, fun b hb => by rw [hF b (by omega), bE.block b (by omega), hbel.block b hb]⟩,
          _, fun j => if j ≤ i then p j else wE.heap.size, fun j => if j < i then q j else qn, hFg, by simp; exact hp0, by dsimp only; rw [if_neg (by omega)]; omega, by dsimp only; rw [if_neg (by omega)]; omega, fun j y hj hy => ?_, fun j hj hj2 => ?_⟩
        · dsimp only
          by_cases hji : j < i
          · obtain ⟨LV, PV, a1, a2, a3, a4, a5, a6, a7, a8, a9⟩ := hdone j y hji hy
            rw [if_pos (show j ≤ i by omega), if_pos hji, if_pos (show j + 1 ≤ i by omega)]
            refine ⟨LV, PV, ?_, ?_, ?_, a4, a5, a6, by omega, a8.keep (fun b b1 b2 => by rw [hF b (by omega), bE.block b (by omega)]) (by omega), a9.keep (fun b b1 b2 => by rw [hF b (by omega), bE.block b (by omega)]) (by omega)⟩
            · rw [Array.getElem?_setIfInBounds, if_neg (by omega), Array.getElem?_setIfInBounds, if_neg (by omega), Array.getElem?_setIfInBounds, if_neg (by omega)]; exact a1
            · rw [Array.getElem?_setIfInBounds, if_neg (by omega), Array.getElem?_setIfInBounds, if_neg (by omega), Array.getElem?_setIfInBounds, if_neg (by omega)]; exact a2
            · rw [Array.getElem?_setIfInBounds, if_neg (by omega), Array.getElem?_setIfInBounds, if_neg (by omega), Array.getElem?_setIfInBounds, if_neg (by omega)]; exact a3
          · have hje : j = i := by omega
            subst hje
            rw [hx] at hy
            obtain rfl := Option.some.inj hy
            rw [if_pos (Nat.le_refl _), if_neg (Nat.lt_irrefl _), if_neg (show ¬ j + 1 ≤ j by omega)]
            refine ⟨Value.slice A3 x.list.length c3, Value.slice A4 x.pairs.length c4, ?_, ?_, ?_, by omega, hq2, hpi, by omega, ?_, ?_⟩
            · rw [Array.getElem?_setIfInBounds, if_neg (by omega), Array.getElem?_setIfInBounds, if_neg (by omega), Array.getElem?_setIfInBounds, if_pos rfl, if_pos q0]
            · rw [Array.getElem?_setIfInBounds, if_neg (by omega), Array.getElem?_setIfInBounds, if_pos rfl, if_pos (by simpa using q1)]
            · rw [Array.getElem?_setIfInBounds, if_pos rfl, if_pos (by simpa using q2)]
            · exact (SL.keep (fun b b1 b2 => hF b (by omega)) (by omega)).mono (by omega) (Nat.le_refl _)
            · exact SP.keep (fun b b1 b2 => hF b (by omega)) (by omega)
        · obtain ⟨a1, a2, a3⟩ := hrest j (by omega) hj2
          refine ⟨?_, ?_, ?_⟩
          · rw [Array.getElem?_setIfInBounds, if_neg (by omega), Array.getElem?_setIfInBounds, if_neg (by omega), Array.getElem?_setIfInBounds, if_neg (by omega)]; exact a1
          · rw [Array.getElem?_setIfInBounds, if_neg (by omega), Array.getElem?_setIfInBounds, if_neg (by omega), Array.getElem?_setIfInBounds, if_neg (by omega)]; exact a2
          · rw [Array.getElem?_setIfInBounds, if_neg (by omega), Array.getElem?_setIfInBounds, if_neg (by omega), Array.getElem?_setIfInBounds, if_neg (by omega)]; exact a3
      clear ts HT hbel hdone hrest SL SP bE
      go_wp2
      exact ⟨⟨i + 1, by omega, by go_num, HI⟩, by simp [intOf]; omega⟩
    · have hie : i = l.length := by omega
      subst hie
      have HF : Hid (Below w.heap.size w wr ∧ MTree w.heap.size wr.heap.size wr.heap l (.slice (some ⟨w.heap.size, 0, none⟩) l.length l.length)) := by
        obtain ⟨hbel, cs, p, q, hcs, hp0, hpi, hps, hdone, _⟩ := HT.out
        refine ⟨hbel, _, _, rfl, .inr ⟨w.heap.size, cs, _, p, q, rfl, Nat.le_refl _, hp0, hcs, hps, Nat.le_refl _, fun i x hx => ?_⟩⟩
        obtain ⟨LV, PV, a1, a2, a3, a4, a5, a6, a7, a8, a9⟩ := hdone i x (lt_of_some hx) hx
        exact ⟨_, LV, PV, rfl, a1, a2, a3, a4, a5, a8, a9⟩
      clear HT
      go_wp2
      go_ret
      exact ⟨_, rfl, HF.out.1, HF.out.2⟩

theorem MTree.mono {lo hi lo' hi' : Nat} {h : Array Obj} {l : Bnds} {v : Value} (H : MTree lo hi h l v) (h1 : lo' ≤ lo) (h2 : hi ≤ hi') : MTree lo' hi' h l v := by
  obtain ⟨A, c, rfl, hA⟩ := H
  refine ⟨A, c, rfl, ?_⟩
  rcases hA with hA | ⟨g, cells, t, p, q, rfl, hg, hgp, hcells, hph, hlc, hat⟩
  · exact .inl hA
  · exact .inr ⟨g, cells, t, p, q, rfl, by omega, hgp, hcells, by omega, hlc, hat⟩

theorem SubO.data {lo hi n : Nat} {w : World} {v : Value} {ob : AObj} {R2 : T} (H : SubO lo hi w.heap [some ob] n v) (hf : finR 0 [] (.one (.os 0 0 n n)) [some ob] = some (R2, [])) : TR (lowD w.heap.size) w.heap [] R2 v := by
  obtain ⟨e, h1, h2, _⟩ := H
  exact own_data glob_any h1 h2 hf

theorem MTree.data {lo hi : Nat} {w : World} {l : Bnds} {v : Value} (H : MTree lo hi w.heap l v) : CR (lowD w.heap.size) w.heap [] (.fs (l.map eL)) v := by
  obtain ⟨A, c, rfl, hA⟩ := H
  rcases hA with ⟨rfl, _⟩ | ⟨g, cells, t, p, q, rfl, hg, hgp, hcells, hph, hlc, hat⟩
  · simp only [CR]
    exact ⟨A, c, rfl, Nat.zero_le _, .inl rfl⟩
  · simp only [CR, List.length_map]
    refine ⟨_, c, rfl, hlc, .inr ⟨⟨g, 0, none⟩, cells, t, (0, 0), 3, rfl, rfl, (Array.getElem?_eq_some_iff.1 hcells).1, hcells, ?_⟩⟩
    rw [CRr_iff]
    intro i r hr
    rw [List.getElem?_map, Option.map_eq_some_iff] at hr
    obtain ⟨x, hx, rfl⟩ := hr
    obtain ⟨bo, LV, PV, rfl, h1, h2, h3, _, _, SL, SP⟩ := hat i x hx
    refine ⟨rfl, ?_⟩
    have dl : TR (lowD w.heap.size) w.heap [] (.one (.fs (x.list.map eI))) LV := by
      have := SL.data (R2 := .one (.fs ((List.drop 0 (x.list.map eI)).take x.list.length))) rfl
      rwa [takeAll eI _ _ rfl] at this
    have dp : TR (lowD w.heap.size) w.heap [] (.one (.fs (x.pairs.map eP))) PV := by
      have := SP.data (R2 := .one (.fs ((List.drop 0 (x.pairs.map eP)).take x.pairs.length))) rfl
      rwa [takeAll eP _ _ rfl] at this
    simp only [TR] at dl dp
    have hd : (cells.toList.drop 0).drop (i * 3) = Value.bool x.given :: LV :: PV :: cells.toList.drop (i * 3 + 3) := by
      have t1 : cells.toList[i * 3]? = some (Value.bool x.given) := by rw [Array.getElem?_toList]; exact h1
      have t2 : cells.toList[i * 3 + 1]? = some LV := by rw [Array.getElem?_toList]; exact h2
      have t3 : cells.toList[i * 3 + 2]? = some PV := by rw [Array.getElem?_toList]; exact h3
      rw [List.drop_zero, drop_at t1, drop_at t2, drop_at t3]
    rw [hd]
    simp only [eL, CRp, and_true]
    exact ⟨by simp only [CR], dl, dp⟩

theorem toBinding_raw (l : Bnds) (hl : l.length ≤ 1048576) (hs : ∀ x ∈ l, x.list.length ≤ 16777216 ∧ x.pairs.length ≤ 16777216) {w : World} {n : Nat} {va : Value} (hn : n ≤ w.heap.size) (H : CR (lowD n) w.heap [] (.fs (l.map eL)) va) :
    Calls Tryz.prog 9 #[.agg #[va]] w fun en w' => ∃ v, en = .returned (.agg #[v]) ∧ Below w.heap.size w w' ∧ MTree w.heap.size w'.heap.size w'.heap l v := by
  have e32 : ∀ args w, (callFunc 32 args).run Tryz.prog w = .ok (.enter 32 args) w := enters_of Tryz.func32 (by kernel_rfl) rfl
  have H' := H
  simp only [CR] at H'
  obtain ⟨A1, c1, rfl, hc1, hA⟩ := H'
  simp only [List.length_map] at hc1 H ⊢
  go_enter Tryz.func9, Tryz.ntmps9
  go_wp2_with fail
  generalize hwA : ((w.alloc (Obj.cells #[Value.slice A1 l.length c1] 27)).alloc (Obj.cells #[Value.slice none 0 0] 41)).alloc (Obj.cells #[Value.slice none 0 0] 41) = wA
  have sA : wA.heap.size = w.heap.size + 3 := by rw [← hwA]; simp
  have bA : Below w.heap.size w wA := by
    rw [← hwA]
    exact ((Below.refl _ _).alloc (Nat.le_refl _) _).alloc (by simp) _ |>.alloc (by simp; omega) _
  have A1' : wA.heap[w.heap.size + 1]? = some (Obj.cells #[Value.slice none 0 0] 41) := by
    rw [← hwA, heap_alloc_old _ _ (by simp)]
    have := heap_alloc_new (w.alloc (Obj.cells #[Value.slice A1 l.length c1] 27)) (Obj.cells #[Value.slice none 0 0] 41)
    simpa using this
  have A2' : wA.heap[w.heap.size + 1 + 1]? = some (Obj.cells #[Value.slice none 0 0] 41) := by
    rw [← hwA]
    have := heap_alloc_new ((w.alloc (Obj.cells #[Value.slice A1 l.length c1] 27)).alloc (Obj.cells #[Value.slice none 0 0] 41)) (Obj.cells #[Value.slice none 0 0] 41)
    simpa using this
  have hA' : CR (lowD n) wA.heap [] (.fs (l.map eL)) (.slice A1 l.length c1) := cr_keep H (Nat.le_refl _) (fun b hb => bA.block b (by omega))
  have ts := toSlotS_raw l hl hs (w := wA) (n := n) (by omega) hA'
  refine ts.mono ?_
  rintro en wB ⟨v, rfl, bB, HT⟩
  have HT0 := HT
  obtain ⟨A3, c3, rfl, _⟩ := HT0
  have sB := bB.size
  have B1 := (bB.block (w.heap.size + 1) (by omega)).trans A1'
  have B2 := (bB.block (w.heap.size + 1 + 1) (by omega)).trans A2'
  have k1 : wB.cell? ⟨w.heap.size + 1 + 1, 0, none⟩ = some (Value.slice none 0 0) := by rw [cell_blk B2]; rfl
  have f1 : wB.frozen? ⟨w.heap.size + 1 + 1, 0, none⟩ = false := frozen_blk B2 0
  have k2 : wB.cell? ⟨w.heap.size + 1, 0, none⟩ = some (Value.slice none 0 0) := by rw [cell_blk B1]; rfl
  have f2 : wB.frozen? ⟨w.heap.size + 1, 0, none⟩ = false := frozen_blk B1 0
  have fin : Hid (Below w.heap.size w ((wB.setCell ⟨w.heap.size + 1 + 1, 0, none⟩ (Value.slice A3 l.length c3)).setCell ⟨w.heap.size + 1, 0, none⟩ (Value.slice A3 l.length c3)) ∧
      MTree w.heap.size ((wB.setCell ⟨w.heap.size + 1 + 1, 0, none⟩ (Value.slice A3 l.length c3)).setCell ⟨w.heap.size + 1, 0, none⟩ (Value.slice A3 l.length c3)).heap.size ((wB.setCell ⟨w.heap.size + 1 + 1, 0, none⟩ (Value.slice A3 l.length c3)).setCell ⟨w.heap.size + 1, 0, none⟩ (Value.slice A3 l.length c3)).heap l (Value.slice A3 l.length c3)) := by
    have hE : ∀ b, b ≠ w.heap.size + 1 → b ≠ w.heap.size + 1 + 1 → ((wB.setCell ⟨w.heap.size + 1 + 1, 0, none⟩ (Value.slice A3 l.length c3)).setCell ⟨w.heap.size + 1, 0, none⟩ (Value.slice A3 l.length c3)).heap[b]? = wB.heap[b]? := fun b h1 h2 => by
      rw [setCell_other h1, setCell_other h2]
    have sE : ((wB.setCell ⟨w.heap.size + 1 + 1, 0, none⟩ (Value.slice A3 l.length c3)).setCell ⟨w.heap.size + 1, 0, none⟩ (Value.slice A3 l.length c3)).heap.size = wB.heap.size := by rw [setCell_size, setCell_size]
    have oE : ((wB.setCell ⟨w.heap.size + 1 + 1, 0, none⟩ (Value.slice A3 l.length c3)).setCell ⟨w.heap.size + 1, 0, none⟩ (Value.slice A3 l.length c3)).os = wB.os ∧ ((wB.setCell ⟨w.heap.size + 1 + 1, 0, none⟩ (Value.slice A3 l.length c3)).setCell ⟨w.heap.size + 1, 0, none⟩ (Value.slice A3 l.length c3)).tape = wB.tape ∧ ((wB.setCell ⟨w.heap.size + 1 + 1, 0, none⟩ (Value.slice A3 l.length c3)).setCell ⟨w.heap.size + 1, 0, none⟩ (Value.slice A3 l.length c3)).output = wB.output := ⟨rfl, rfl, rfl⟩
    generalize ((wB.setCell ⟨w.heap.size + 1 + 1, 0, none⟩ (Value.slice A3 l.length c3)).setCell ⟨w.heap.size + 1, 0, none⟩ (Value.slice A3 l.length c3)) = wE at *
    refine ⟨⟨oE.1.trans (bB.os.trans bA.os), oE.2.1.trans (bB.tape.trans bA.tape), oE.2.2.trans (bB.output.trans bA.output), by omega, fun b hb => by rw [hE b (by omega) (by omega), bB.block b (by omega), bA.block b hb]⟩, ?_⟩
    exact (HT.keep (fun b b1 b2 => hE b (by omega) (by omega)) (by omega)).mono (by omega) (by omega)
  clear HT ts H hA hA'
  go_wp2
  refine bodyPost_ret (v := .agg #[Value.slice A3 l.length c3]) ?_ rfl ?_
  · simp [results, Tryz.results9, go_sem, k2]
  · exact ⟨_, rfl, fin.out.1, fin.out.2⟩
end

section
open Go Go.RowKit Go.Shelf
section

variable {X : Pk} {N np : Nat} {σ σ' : State} {K : KP}

/-- A call that is passed nothing to change, and that sees all memory zs data. -/
theorem step_read {ops : Array Oper} {i : Nat} {dst : Option Nat} {c : Operand} {xs : Array Operand} {ts : Array TypeId} {ty : TypeId} {pos : String} {aft : Array Edge} {g : Option (Nat × Bool)} {f : FuncId} {args : List T} {Φ : Post}
    (ho : nthA ops i = some ⟨dst, .call ⟨.value c, xs, ts⟩, ty, pos, aft, g⟩) (hg : guardOf N ops g σ = .go) (hc : evalO σ c = .one (.fn f [])) (hd : dstB N dst = true)
    (hcon : ACalls X f args [] Φ) (hno : ∀ r o', Φ r o' → noFzT r = true ∧ noFzO o' = true)
    (hargs : ∀ {G : Ctx X.κ} {D : Nat → Prop} {e : List ALoc} {a : Act} {w : World}, Rel N np G D e σ a w → TRs (lowD w.heap.size) w.heap [] args (xs.toList.map a.eval)) :
    StepA X N np ops i (fun id => id ∈ ([] : List Nat)) σ (fun σ2 => ∃ r o', Φ r o' ∧ retS N [] dst σ r o' = some σ2) := by
  intro G D e a w Q K' H next
  rw [nthA_eq] at ho
  unfold wpOp
  simp only [ho, (guardOf_spec H (ops := ops) (o := ⟨dst, .call ⟨.value c, xs, ts⟩, ty, pos, aft, g⟩)).1 hg, if_true]
  left
  have hcv := H.ev c
  rw [hc] at hcv
  simp only [TR, CR] at hcv
  obtain ⟨cv, hcv, hcl, hcr⟩ := hcv
  have hcv0 : cv = #[] := Array.eq_empty_of_size_eq_zero (by simpa using hcl)
  subst hcv0
  unfold Oper.wp
  rw [run_call rfl hcv hcon.1]
  simp only [Oper.upon]
  have hC := hcon.2 (lowD w.heap.size) [] w (xs.toList.map a.eval) glob_any (sr_nil (Nat.le_refl _)) (hargs H) (by simp)
  have hvals : (xs.toList.map a.eval).toArray = xs.map a.eval ++ #[] := by apply Array.ext'; simp
  rw [hvals] at hC
  refine hC.mono ?_
  rintro en w' ⟨v, r, o', D', e', rfl, hΦ, htr, hsr', hext, hnew, hold, hkeep, hlen⟩
  obtain ⟨hno1, hno2⟩ := hno r o' hΦ
  have hsr2 : SR (fun b => D' b ∧ (b < w.heap.size → D b)) w'.heap e' o' := hsr'.sub hno2 (fun b hb => hb.1)
  have htr2 : TR (fun b => D' b ∧ (b < w.heap.size → D b)) w'.heap e' r v := TR.sub _ _ _ hno1 htr
  obtain ⟨D2, e2, H2, hT2, hP2⟩ := H.called (js := []) rfl (fun id hid => by cases hid) hsr2 hext hnew (fun b hb hlt => hb.2 hlt) hkeep hlen
  have hx := hT2 r v htr2
  have H3 := H2.putv hx (putS_eq hd)
  refine next D2 e2 _ _ w' H3 hP2 ⟨r, o', hΦ, ?_⟩
  obtain ⟨ρ, oo, κ⟩ := σ
  simp only [retS, lenK_eq, Nat.zero_add, forceO_eq, appO_eq]
  exact putS_eq hd

/-- What an operand holds, zs data. -/
theorem rel_low {ψ : CtxP} {G : Ctx ψ} {D : Nat → Prop} {e : List ALoc} {a : Act} {w : World} (H : Rel N 0 G D e σ a w) (x : Operand) :
    TR (lowD w.heap.size) w.heap [] (reT (fun id => idxOf ([] : List Nat) id 0) (fzAll (fun id => idxOf ([] : List Nat) id 0) 0 σ.o) 4 (evalO σ x)) (a.eval x) := by
  obtain ⟨D2, H2, hD2⟩ := H.fzAll (fun id => idxOf ([] : List Nat) id 0) (fun id hid => absurd hid (Nat.not_lt_zero _))
  have h := H2.ev x
  have he : evalO ⟨σ.ρ, fzAll (fun id => idxOf ([] : List Nat) id 0) 0 σ.o, σ.k⟩ x = evalO σ x := by cases x <;> rfl
  rw [he] at h
  have h3 := reT_spec (mp := fun id => idxOf ([] : List Nat) id 0) (e1 := []) H2.sr (fun id j l h => by cases h) 4 _ _ h
  exact TR.mono (fun b hb => ⟨H2.sr.dom b hb, rfl⟩) leads_nil _ _ h3

/-- A context in which a tree lies in the blocks from 'lo' to 'hi'. -/
def treeP (lo hi : Nat) (l : Bnds) (v : Value) : CtxP := fun w0 _ e0 => MTree lo hi w0.heap l v ∧ hi ≤ w0.heap.size ∧ ∀ b, lo ≤ b → b < hi → ¬ Wof e0 b

theorem tree_now {lo hi : Nat} {l : Bnds} {v : Value} {G : Ctx (treeP lo hi l v)} {D : Nat → Prop} {e : List ALoc} {a : Act} {w : World} (H : Rel N np G D e σ a w) : MTree lo hi w.heap l v :=
  G.ok.1.keep (fun b h1 h2 => H.ext.block b (by have := G.ok.2.1; omega) (G.ok.2.2 b h1 h2)) H.ext.size

/-- The same state in a memory that has grown elsewhere, from a context of its own. -/
theorem rel_new {ψ ψ' : CtxP} {G : Ctx ψ} {D : Nat → Prop} {e : List ALoc} {a : Act} {w w' : World} {S : Nat → Prop} (H : Rel N np G D e σ a w) (hx : Ext w S w') (hS : ∀ b, S b → ¬ D b ∧ ¬ Wof e b)
    (G' : Ctx ψ') (hw : G'.w0 = w') (hD : G'.D0 = D) (he : G'.e0 = e) : Rel N np G' D e σ a w' := by
  have hfx : Fixes D D w.heap w'.heap := fun b hb => ⟨hb, hx.block b (H.sr.dom b hb) (fun hs => (hS b hs).1 hb)⟩
  refine ⟨by rw [he, H.sr.len]; exact H.nple, H.nple, by rw [hw]; exact Ext.refl _ _, H.defers, H.size, fun t => TR.mono hfx (Leads.refl e) _ _ (H.tmps t), ?_, fun id b esz cap n h => .inl ⟨id, b, esz, cap, n, by rw [he]; exact h, rfl⟩, fun b hb _ => .inl (by rw [hD]; exact hb), fun id _ => by rw [he]⟩
  have hs := H.sr
  refine ⟨hs.len, fun id ob hid => ?_, fun id b esz cap n he => ⟨Nat.lt_of_lt_of_le (hs.own id b _ _ _ he).1 hx.size, (hs.own id b _ _ _ he).2⟩, hs.sep, fun b hb => Nat.lt_of_lt_of_le (hs.dom b hb) hx.size⟩
  obtain ⟨a', cap, n, hid', hnn, hcl, hrest⟩ := hs.objs id ob hid
  refine ⟨a', cap, n, hid', hnn, hcl, ?_⟩
  cases a' with
  | none => exact hrest
  | some b =>
    obtain ⟨q1, q2, cells, t, q3, q4, q5, q6⟩ := hrest
    refine ⟨q1, q2, cells, t, ?_, q4, q5, CRr.mono hfx e e (Leads.refl e) _ _ _ q6⟩
    rw [hx.block b.block (hs.own id b _ _ _ hid').1 (fun hs' => (hS _ hs').2 ⟨id, b, _, _, _, hid', rfl⟩)]; exact q3

/-- .. and back to the context from before. -/
theorem rel_back {ψ ψ' : CtxP} {G : Ctx ψ} {D : Nat → Prop} {e : List ALoc} {a : Act} {w w' : World} {S : Nat → Prop} (H : Rel N np G D e σ a w) (hx : Ext w S w') (hS : ∀ b, S b → G.w0.heap.size ≤ b)
    (G' : Ctx ψ') (hw : G'.w0 = w') (hD : G'.D0 = D) (he : G'.e0 = e) {D2 : Nat → Prop} {e2 : List ALoc} {τ : State} {a2 : Act} {w2 : World} (H' : Rel N np G' D2 e2 τ a2 w2) : Rel N np G D2 e2 τ a2 w2 := by
  have hext := H'.ext
  rw [hw, he] at hext
  have hwof : ∀ b, Wof e b → Wof G.e0 b ∨ G.w0.heap.size ≤ b := by
    rintro b ⟨id, b', esz, cap, n, h1, rfl⟩
    exact H.new id b' _ _ _ h1
  have hsz := H.ext.size
  have hsz2 := hx.size
  refine ⟨H.hnp, H'.nple, ⟨hext.os.trans (hx.os.trans H.ext.os), hext.tape.trans (hx.tape.trans H.ext.tape), hext.output.trans (hx.output.trans H.ext.output), Nat.le_trans hsz (Nat.le_trans hsz2 hext.size), fun b hb hn => ?_⟩, H'.defers, H'.size, H'.tmps, H'.sr, fun id b esz cap n h => ?_, fun b hb hlt => ?_, fun id hid => ?_⟩
  · rw [hext.block b (by omega) (fun h => (hwof b h).elim hn (fun h => by omega)), hx.block b (by omega) (fun h => by have := hS b h; omega), H.ext.block b hb hn]
  · rcases H'.new id b _ _ _ h with h1 | h1
    · rw [he] at h1; exact hwof _ h1
    · rw [hw] at h1; exact .inr (by omega)
  · rcases H'.old b hb (by rw [hw]; omega) with h1 | h1
    · rw [hD] at h1; exact H.old b h1 hlt
    · rw [he] at h1
      obtain ⟨id, b', esz, cap, n, q1, q2, rfl⟩ := h1
      rcases H.new id b' _ _ _ q2 with ⟨id', b'', esz', cap', n', r1, r2⟩ | h2
      · by_cases hid : np ≤ id'
        · exact .inr ⟨id', b'', esz', cap', n', hid, r1, r2⟩
        · have := H.keep id' (by omega)
          have := H.sr.sep id' id b'' b' _ _ _ _ _ _ (by rw [this]; exact r1) q2 r2
          omega
      · omega
  · rw [H'.keep id hid, he, H.keep id hid]

/-- A call, from its own contract at this memory. -/
theorem wpOp_call {ops : Array Oper} {i : Nat} {dst : Option Nat} {c : Operand} {xs : Array Operand} {ts : Array TypeId} {ty : TypeId} {pos : String} {aft : Array Edge} {f : FuncId} {ψ : CtxP} {G : Ctx ψ} {D : Nat → Prop} {e : List ALoc} {a : Act} {w : World} {Q : Exit → Act → World → Prop} {K' : Act → World → Prop}
    (ho : nthA ops i = some ⟨dst, .call ⟨.value c, xs, ts⟩, ty, pos, aft, none⟩) (H : Rel N np G D e σ a w) (hc : evalO σ c = .one (.fn f [])) (hf : Callable X.P f)
    (hcall : Calls X.P f (xs.map a.eval) w fun en w' => ∃ v, en = .returned v ∧ K' (a.put dst v) w') : wpOp X.P ops Q i K' a w := by
  rw [nthA_eq] at ho
  unfold wpOp
  simp only [ho, (guardOf_spec H (ops := ops) (o := ⟨dst, .call ⟨.value c, xs, ts⟩, ty, pos, aft, none⟩)).1 rfl, if_true]
  left
  have hcv := H.ev c
  rw [hc] at hcv
  simp only [TR, CR] at hcv
  obtain ⟨cv, hcv, hcl, hcr⟩ := hcv
  have hcv0 : cv = #[] := Array.eq_empty_of_size_eq_zero (by simpa using hcl)
  subst hcv0
  unfold Oper.wp
  rw [run_call rfl hcv hf]
  simp only [Oper.upon]
  rw [Array.append_empty]
  refine hcall.mono ?_
  rintro en w' ⟨v, rfl, hk⟩
  exact hk

/-- A region, walked operation by operation, and what comes behind. -/
theorem goal_raw {id : Nat} {ops : Array Oper} {rest : Code} (h : ∀ {G : Ctx X.κ} {D : Nat → Prop} {e : List ALoc} {a : Act} {w : World}, Rel N np G D e ⟨σ.ρ, σ.o, []⟩ a w →
    wpOps X.P ops (Exit.then (rest.wp X.P (lift N np G K)) (lift N np G K)) (List.range ops.size) a w) : goal X N np K (.cod (.seq (.region id ops false) rest) []) σ :=
  fun G D e a w H => wp_seq (wp_region (h (H.hints [])))

end

/-- The first 'n' statements of a body, and the others. -/
def nest : List Code → Code → Code
  | [], r => r
  | x :: xs, r => .seq x (nest xs r)

def takeC : Nat → Code → List Code
  | 0, _ => []
  | n + 1, .seq x y => x :: takeC n y
  | _ + 1, _ => []

def restC : Nat → Code → Code
  | 0, c => c
  | n + 1, .seq _ y => restC n y
  | _ + 1, c => c

theorem nest_take : ∀ (n : Nat) (c : Code), nest (takeC n c) (restC n c) = c
  | 0, _ => rfl
  | n + 1, c => by
    cases c with
    | seq x y => simp only [takeC, restC, nest, nest_take n y]
    | _ => rfl

theorem after_code {X : Pk} {N np : Nat} {K : KP} {ex : Exit} (h : ex ≠ .normal) : ∀ (xs : List Code) (σ : State), after X N np (xs.map .code) K ex σ = K ex σ
  | [], σ => rfl
  | x :: xs, σ => by
    cases ex with
    | normal => exact absurd rfl h
    | _ => exact after_code h xs σ

/-- Statements walked in a context of their own; what comes behind is walked otherwise. -/
theorem seg_wp {X : Pk} {N np : Nat} {Φ : State → Prop} {G : Ctx X.κ} {rest : Code} {Q : Exit → Act → World → Prop}
    (hr : ∀ {τ : State} {D : Nat → Prop} {e : List ALoc} {a : Act} {w : World}, Rel N np G D e τ a w → Φ τ → rest.wp X.P Q a w) :
    ∀ (xs : List Code) {σ : State} {D : Nat → Prop} {e : List ALoc} {a : Act} {w : World}, Rel N np G D e σ a w → goal X N np (cutR N np Φ (fun _ _ => False)) (.nrm (xs.map .code)) σ → (nest xs rest).wp X.P Q a w
  | [], σ, D, e, a, w, H, hg => by
    obtain ⟨τ, hw, hΦ⟩ := hg
    obtain ⟨D', e', H'⟩ := hw H
    exact hr H' hΦ
  | x :: xs, σ, D, e, a, w, H, hg => by
    refine wp_seq (wp_mono (hg G D e a w H) ?_)
    rintro ex a' w' ⟨D', e', τ, H', hk⟩
    cases ex with
    | normal => exact seg_wp hr xs H' hk
    | _ => rw [after_code (by simp)] at hk; exact hk.elim

theorem tr_v {D : Nat → Prop} {h : Array Obj} {e : List ALoc} {v : Value} (hc : isCell v = true) : TR D h e (.agg [.v v]) (.agg #[v]) := by
  simp only [TR]
  refine ⟨#[v], rfl, rfl, ?_⟩
  show CRp D h e [.v v] [v]
  simp only [CRp, CR, and_true]
  exact ⟨trivial, hc⟩

theorem MTree.cell {lo hi : Nat} {h : Array Obj} {l : Bnds} {v : Value} (H : MTree lo hi h l v) : isCell v = true := by
  obtain ⟨A, c, rfl, _⟩ := H
  rfl

/-- A contract, told in another context. -/
theorem ACalls.up {κ : CtxP} {f : FuncId} {args : List T} {o : List (Option AObj)} {Φ : Post} (h : ACalls pk f args o Φ) : ACalls { pk with κ := κ } f args o Φ := h

theorem wp_rest {X : Pk} {N np : Nat} {Φ : State → Prop} {G : Ctx X.κ} {c : Code} {Q : Exit → Act → World → Prop} {n : Nat} {σ : State} {D : Nat → Prop} {e : List ALoc} {a : Act} {w : World} (H : Rel N np G D e σ a w)
    (hg : goal X N np (cutR N np Φ (fun _ _ => False)) (.nrm ((takeC n c).map .code)) σ)
    (hr : ∀ {τ : State} {D : Nat → Prop} {e : List ALoc} {a : Act} {w : World}, Rel N np G D e τ a w → Φ τ → (restC n c).wp X.P Q a w) : c.wp X.P Q a w := by
  have h := seg_wp hr (takeC n c) H hg
  rwa [nest_take] at h
end

section
open Go Go.RowKit Go.Shelf
theorem iUnbindO_ct (s : Sig) (b : Bnds) (hs : LenS s) (hb : SmallB b) : ACalls pk 10 [.agg (eG s), .agg (eBi b)] [] (fun r o => r = rF (if VBi s b then unbQ s b else zF) ∧ o = oF (if VBi s b then unbQ s b else zF)) := by
  refine acalls_of_body Tryz.func10 rfl (by kernel_rfl) rfl ?_
  refine rn rfl ?_
  refine goal_step (step_call [] rfl rfl rfl rfl rfl rfl (ivalidBinding_ct s b hs hb)) ?_
  rintro σ2 ⟨r, o', ⟨rfl, rfl⟩, hσ⟩
  obtain rfl := Option.some.inj hσ
  clear hσ
  refine rn rfl ?_
  cases hv : VBi s b with
  | false =>
    refine goal_cond rfl (fun _ => ?_) (fun h => by simp at h)
    refine rn rfl ?_
    refine fin_weak (Weak.adoptO 2 0 1) (fin_weak (Weak.adoptO 2 1 2) (fin_is [3, 4] rfl ⟨rfl, rfl⟩))
  | true =>
    refine goal_cond rfl (fun h => by simp at h) (fun _ => ?_)
    refine rn rfl ?_
    refine goal_step (step_call [] rfl rfl rfl rfl rfl rfl (iunbind_ct s b (VBi_okB hb hv))) ?_
    rintro σ2 ⟨r, o', ⟨rfl, rfl⟩, hσ⟩
    obtain rfl := Option.some.inj hσ
    clear hσ
    refine rn rfl ?_
    exact rn rfl (fin_is [3, 4] rfl ⟨rfl, rfl⟩)

theorem agg_v {D : Nat → Prop} {h : Array Obj} {e : List ALoc} {v y : Value} (H : TR D h e (.agg [.v v]) y) : y = .agg #[v] := by
  simp only [TR] at H
  obtain ⟨vs, rfl, hs, hr⟩ := H
  match vs, hs, hr with
  | ⟨[x]⟩, _, hr =>
    simp only [CRp, CR, and_true] at hr
    obtain ⟨rfl, _⟩ := hr
    rfl

theorem markN_le : ∀ b : Bnds, markN b ≤ b.length + 2 * cntB b
  | [] => by simp [markN, cntB]
  | x :: b => by
    have := markN_le b
    simp only [markN, cntB, cntL, List.map_cons, List.sum_cons, List.length_cons] at this ⊢
    omega

theorem rF_noZ (R : Flat) : ∀ (r : T) (o : List (Option AObj)), (r = rF R ∧ o = oF R) → noFzT r = true ∧ noFzO o = true := by
  rintro r o ⟨rfl, rfl⟩
  exact ⟨rfl, by simp [oF, ownI, ownP, noFzO, noFzR_map eI (fun _ => rfl), noFzR_map eP (fun _ => rfl)]⟩

theorem tree_low {N np : Nat} {σ : State} {lo hi : Nat} {l : Bnds} {v : Value} {G : Ctx (treeP lo hi l v)} {D : Nat → Prop} {e : List ALoc} {a : Act} {w : World} {y : Value} (H : Rel N np G D e σ a w) (hy : TR D w.heap e (.agg [.v v]) y) :
    TR (lowD w.heap.size) w.heap [] (.agg (eBi l)) y := by
  simp only [TR] at hy
  obtain ⟨vs, rfl, hs, hr⟩ := hy
  match vs, hs, hr with
  | ⟨[x]⟩, _, hr =>
    simp only [CRp, CR, and_true] at hr
    obtain ⟨rfl, _⟩ := hr
    simp only [TR, eBi]
    refine ⟨_, rfl, rfl, ?_⟩
    simp only [CRp, and_true]
    exact (tree_now H).data

theorem tree_args {D : Nat → Prop} {h : Array Obj} {e : List ALoc} {x y : T} {u v : Value} (h1 : TR D h e x u) (h2 : TR D h e y v) : TRs D h e [x, y] [u, v] := by
  simp only [TRs]
  exact ⟨_, _, rfl, h1, _, _, rfl, h2, rfl⟩

theorem fnExactUnbind_ct (s : Sig) (b : Bnds) (hs : FitsS s) (hb : FitsB b) : ACalls pk 3 [.agg (eG s), .agg (eBi b)] [] (fun r o => r = .one (.bool true) ∧ o = []) := by
  refine acalls_of_body Tryz.func3 rfl (by kernel_rfl) rfl ?_
  refine rn rfl ?_
  refine goal_step (step_call [] rfl rfl rfl rfl rfl rfl (szSig_ct s 1048576 (by omega) (by omega) hs)) ?_
  rintro σ2 ⟨r, o', ⟨rfl, rfl⟩, hσ⟩
  obtain rfl := Option.some.inj hσ
  clear hσ
  refine rn rfl ?_
  refine goal_cond rfl (fun h => ?_) (fun h => ?_) <;> (try simp only [gt_iff_lt, ge_iff_le, bne_iff_ne, ne_eq, bne_eq_false_iff_eq, beq_iff_eq, beq_eq_false_iff_ne, Bool.not_eq_true', Bool.not_eq_false', decide_eq_true_eq, decide_eq_false_iff_not, List.length_map] at h)
  · exact rn rfl (fin_is [] rfl ⟨rfl, rfl⟩)
  obtain ⟨p0, p1⟩ := szParamS_ok (by omega) h
  refine rn rfl ?_
  refine goal_step (step_call [] rfl rfl rfl rfl rfl rfl (szBinding_ct b (szParamS s 1048576) (by omega) (by omega) hb)) ?_
  rintro σ2 ⟨r, o', ⟨rfl, rfl⟩, hσ⟩
  obtain rfl := Option.some.inj hσ
  clear hσ
  refine rn rfl ?_
  refine goal_cond rfl (fun h2 => ?_) (fun h2 => ?_) <;> (try simp only [gt_iff_lt, ge_iff_le, bne_iff_ne, ne_eq, bne_eq_false_iff_eq, beq_iff_eq, beq_eq_false_iff_ne, Bool.not_eq_true', Bool.not_eq_false', decide_eq_true_eq, decide_eq_false_iff_not, List.length_map] at h2)
  · exact rn rfl (fin_is [] rfl ⟨rfl, rfl⟩)
  obtain ⟨lb, l1, l2⟩ := bs_small (by omega) (by omega) hb h2
  have lp : LenS s := ⟨by omega, hs.names⟩
  have hi := iUnbindO_ct s b lp l1
  have hiD := iUnbind_ct s b lp l1
  have hsp := sUnbind_ct s b lp l2
  have lR := unbV_len (s := s) (b := b)
  generalize (if VBi s b then unbQ s b else zF) = R at *
  have E0 : (!(decide (R = R))) = false := by simp
  obtain ⟨lR1, lR2, lR3⟩ := lR
  refine rt1 8 rfl ?_
  refine goal_cutR (fun σ' => σ' = ⟨[(6, .one (.op 2 0 0)), (3, .one (.op 1 0 0)), (2, .one (.op 0 0 0))],
    [some ⟨1, [eG s], false, false, true⟩, some ⟨1, [eBi b], false, false, true⟩, some ⟨2, [eF R], false, false, true⟩], []⟩) ?_ ?_
  · refine goal_draw' [0, 1] 7 rfl ?_
    refine drn [0, 2] (by kernel_rfl) (by kernel_rfl) rfl rfl ?_
    refine AH_two (i := 1) (j := 5) (by kernel_rfl) (step_call [] rfl rfl rfl rfl rfl rfl (toSigD_ct s (by omega))) (by simp) (step_did rfl rfl (dA_step rfl)) (mdOk rfl) ?_ ?_
    · rintro σ2 ⟨r, o', ⟨rfl, rfl⟩, hσ⟩
      obtain rfl := Option.some.inj hσ
      clear hσ
      refine AH_two (i := 3) (j := 5) (by kernel_rfl) (step_call [] rfl rfl rfl rfl rfl rfl (toBiD_ct b lb)) (by simp) (step_did rfl rfl (dA_step rfl)) (mdOk rfl) ?_ ?_
      · rintro σ2 ⟨r, o', ⟨rfl, rfl⟩, hσ⟩
        obtain rfl := Option.some.inj hσ
        clear hσ
        refine AH_two (i := 4) (j := 5) (by kernel_rfl) (step_call [] rfl rfl rfl rfl rfl rfl (hsp)) (by simp) (step_did rfl rfl (dA_step rfl)) (mdOk rfl) ?_ ?_
        · rintro σ2 ⟨r, o', ⟨rfl, rfl⟩, hσ⟩
          obtain rfl := Option.some.inj hσ
          clear hσ
          refine AH_oneDid 5 rfl (by kernel_rfl) rfl (dA_step rfl) (mdOk rfl) ?_
          refine AH_oneDid 6 rfl (by kernel_rfl) rfl (dA_step rfl) (mdOk rfl) ?_
          refine AH_end (by kernel_rfl) ?_
          refine rn rfl ?_
          exact cut_nrm [6, 3, 2] [0, 1, 2] rfl rfl
        · rintro _ rfl
          refine AH_one (i := 4) (by kernel_rfl) (step_call [] rfl rfl rfl rfl rfl rfl (hsp)) (by simp) ?_
          rintro σ2 ⟨r, o', ⟨rfl, rfl⟩, hσ⟩
          obtain rfl := Option.some.inj hσ
          clear hσ
          refine AH_oneDid 6 rfl (by kernel_rfl) rfl (dA_step rfl) (mdOk rfl) ?_
          refine AH_end (by kernel_rfl) ?_
          refine rn rfl ?_
          exact cut_nrm [6, 3, 2] [0, 1, 2] rfl rfl
      · rintro _ rfl
        refine AH_one (i := 3) (by kernel_rfl) (step_call [] rfl rfl rfl rfl rfl rfl (toBiD_ct b lb)) (by simp) ?_
        rintro σ2 ⟨r, o', ⟨rfl, rfl⟩, hσ⟩
        obtain rfl := Option.some.inj hσ
        clear hσ
        refine AH_one (i := 4) (by kernel_rfl) (step_call [] rfl rfl rfl rfl rfl rfl (hsp)) (by simp) ?_
        rintro σ2 ⟨r, o', ⟨rfl, rfl⟩, hσ⟩
        obtain rfl := Option.some.inj hσ
        clear hσ
        refine AH_oneDid 6 rfl (by kernel_rfl) rfl (dA_step rfl) (mdOk rfl) ?_
        refine AH_end (by kernel_rfl) ?_
        refine rn rfl ?_
        exact cut_nrm [6, 3, 2] [0, 1, 2] rfl rfl
    · rintro _ rfl
      refine AH_one (i := 1) (by kernel_rfl) (step_call [] rfl rfl rfl rfl rfl rfl (toSigD_ct s (by omega))) (by simp) ?_
      rintro σ2 ⟨r, o', ⟨rfl, rfl⟩, hσ⟩
      obtain rfl := Option.some.inj hσ
      clear hσ
      refine AH_one (i := 3) (by kernel_rfl) (step_call [] rfl rfl rfl rfl rfl rfl (toBiD_ct b lb)) (by simp) ?_
      rintro σ2 ⟨r, o', ⟨rfl, rfl⟩, hσ⟩
      obtain rfl := Option.some.inj hσ
      clear hσ
      refine AH_one (i := 4) (by kernel_rfl) (step_call [] rfl rfl rfl rfl rfl rfl (hsp)) (by simp) ?_
      rintro σ2 ⟨r, o', ⟨rfl, rfl⟩, hσ⟩
      obtain rfl := Option.some.inj hσ
      clear hσ
      refine AH_oneDid 6 rfl (by kernel_rfl) rfl (dA_step rfl) (mdOk rfl) ?_
      refine AH_end (by kernel_rfl) ?_
      refine rn rfl ?_
      exact cut_nrm [6, 3, 2] [0, 1, 2] rfl rfl
  rintro _ rfl
  refine rn rfl ?_
  refine goal_step (step_call [] rfl rfl rfl rfl rfl rfl (toSig_ct s (by omega))) ?_
  rintro σ2 ⟨r, o', ⟨rfl, rfl⟩, hσ⟩
  obtain rfl := Option.some.inj hσ
  clear hσ
  refine rt 10 rfl ?_
  refine goal_raw (fun {G D e a w} H => ?_)
  change wpOps _ _ _ [0, 1, 2, 3] _ _
  rw [wpOps_cons]
  refine (step_did (X := pk) rfl rfl (dA_step rfl)) H (fun D1 e1 σ1 a1 w1 H1 _ hP => ?_)
  subst hP
  rw [wpOps_cons]
  refine wpOp_call (X := pk) rfl H1 rfl ⟨_, Tryz.func9, rfl, by kernel_rfl⟩ ?_
  have hx : TR (lowD w1.heap.size) w1.heap [] (.agg (eBi b)) (a1.eval (.tmp 31)) := rel_low H1 (.tmp 31)
  simp only [TR, eBi, CRp] at hx
  obtain ⟨vs, hv, hvs, hr⟩ := hx
  obtain ⟨va, rfl⟩ : ∃ va, vs = #[va] := by
    match vs, hvs with
    | ⟨[x]⟩, _ => exact ⟨x, rfl⟩
  have hcr : CR (lowD w1.heap.size) w1.heap [] (.fs (b.map eL)) va := by
    simp only [CRp, and_true] at hr
    exact hr
  have hxs : (#[Operand.tmp 31] : Array Operand).map a1.eval = #[.agg #[va]] := by rw [← hv]; simp
  rw [hxs]
  refine (toBinding_raw b lb.len (fun x hx => by have := lb.size hx; omega) (n := w1.heap.size) (Nat.le_refl _) hcr).mono ?_
  rintro en w2 ⟨v, rfl, hb2, hM⟩
  obtain ⟨ad, cv, hve⟩ := hM.isSome
  subst hve
  refine ⟨_, rfl, ?_⟩
  have hdj : ∀ b', w1.heap.size ≤ b' → b' < w2.heap.size → ¬ Wof e1 b' := by
    rintro b' h1 _ ⟨id, ad, esz, cap, n, he, rfl⟩
    have := (H1.sr.own id ad _ _ _ he).1
    omega
  let G2 : Ctx (treeP w1.heap.size w2.heap.size b (.slice (some ad) b.length cv)) := ⟨w2, D1, e1, glob_any, hM, Nat.le_refl _, hdj⟩
  have hx2 : Ext w1 (fun _ => False) w2 := ⟨hb2.os, hb2.tape, hb2.output, hb2.size, fun b' h _ => hb2.block b' h⟩
  have H2 := rel_new H1 hx2 (fun _ h => h.elim) G2 rfl rfl rfl
  have H3 := H2.putv (dst := some 32) (x := .agg [.v (.slice (some ad) b.length cv)]) (v := .agg #[.slice (some ad) b.length cv]) (tr_v hM.cell) (putS_eq rfl)
  rw [wpOps_cons]
  refine (step_did (X := { pk with κ := treeP w1.heap.size w2.heap.size b (.slice (some ad) b.length cv) }) rfl rfl (dA_step rfl)) H3 (fun D4 e4 σ4 a4 w4 H4 _ hP => ?_)
  subst hP
  rw [wpOps_cons]
  refine (step_did (X := { pk with κ := treeP w1.heap.size w2.heap.size b (.slice (some ad) b.length cv) }) rfl rfl (dA_step rfl)) H4 (fun D5 e5 σ5 a5 w5 H5 _ hP => ?_)
  subst hP
  refine wp_rest (n := 6) (X := { pk with κ := treeP w1.heap.size w2.heap.size b (.slice (some ad) b.length cv) }) (Φ := fun τ => τ = ⟨[(10, .one (.int .i64 (1 + 4 * s.length))), (9, .one (.op 6 0 0)), (8, .one (.op 3 0 0)), (6, .one (.op 2 0 0)), (3, .one (.op 1 0 0)), (2, .one (.op 0 0 0))],
    [some ⟨1, [eG s], false, false, true⟩, some ⟨1, [eBi b], false, false, true⟩, some ⟨2, [eF R], false, false, true⟩, some ⟨1, [[.v (.slice (some ad) b.length cv)]], false, false, true⟩, ownI R.places, ownP R.named,
      some ⟨2, [[.os 4 0 R.places.length R.places.length, .os 5 0 R.named.length R.named.length]], false, false, true⟩], []⟩) H5 ?_ ?_
  · refine rn rfl ?_
    refine goal_step (step_read rfl rfl rfl rfl hi.up (rF_noZ R) (fun {G D e a w} H => ?_)) ?_
    · have hx : TR (lowD w.heap.size) w.heap [] (T.agg [C.fs (List.take s.length (List.drop 0 (s.map eQ)))]) (a.eval (.tmp 33)) := rel_low H (.tmp 33)
      rw [asG] at hx
      have hy := H.ev (.tmp 34)
      exact tree_args hx (tree_low H hy)
    · rintro σ2 ⟨r, o', ⟨rfl, rfl⟩, hσ⟩
      obtain rfl := Option.some.inj hσ
      clear hσ
      refine rn rfl ?_
      refine goal_step (step_lendE [] rfl rfl rfl rfl rfl rfl rfl (cons_eq (asFl R) rfl) ((eqFlat_ct R R (by omega) (by omega)).up) (by rintro r o ⟨rfl, rfl⟩; exact ⟨rfl, rfl⟩)) ?_
      rintro σ2 ⟨r, o', ⟨rfl, rfl⟩, hσ⟩
      obtain rfl := Option.some.inj hσ
      clear hσ
      refine rn rfl ?_
      simp only [E0]
      refine goal_cond rfl (fun h1 => by cases h1) (fun _ => ?_)
      refine rn rfl ?_
      refine goal_draw' [0, 4] 5 rfl ?_
      refine drn [0, 1] (by kernel_rfl) (by kernel_rfl) rfl rfl ?_
      refine AH_one (i := 2) (by kernel_rfl) (step_call [] rfl rfl rfl rfl rfl rfl ((toSigD_ct s (by omega)).up)) (by simp) ?_
      rintro σ2 ⟨r, o', ⟨rfl, rfl⟩, hσ⟩
      obtain rfl := Option.some.inj hσ
      clear hσ
      refine AH_one (i := 3) (by kernel_rfl) (step_lendE [] rfl rfl rfl rfl rfl rfl rfl (cons_eq (asG s) rfl) ((eqSig_ct s (by omega)).up) (by rintro r o ⟨rfl, rfl⟩; exact ⟨rfl, rfl⟩)) (by simp) ?_
      rintro σ2 ⟨r, o', ⟨rfl, rfl⟩, hσ⟩
      obtain rfl := Option.some.inj hσ
      clear hσ
      refine drn [4] (by kernel_rfl) (by kernel_rfl) rfl rfl ?_
      refine AH_end (by kernel_rfl) ?_
      refine rn rfl ?_
      refine goal_cond rfl (fun h => by simp at h) (fun _ => ?_)
      refine rn rfl ?_
      refine goal_draw' [1, 5] 5 rfl ?_
      refine drn [0, 1] (by kernel_rfl) (by kernel_rfl) rfl rfl ?_
      refine AH_one (i := 2) (by kernel_rfl) (step_call [] rfl rfl rfl rfl rfl rfl ((toBiD_ct b lb).up)) (by simp) ?_
      rintro σ2 ⟨r, o', ⟨rfl, rfl⟩, hσ⟩
      obtain rfl := Option.some.inj hσ
      clear hσ
      refine AH_one (i := 3) (by kernel_rfl) (step_read rfl rfl rfl rfl (eqBi_ct b lb).up (by rintro r o ⟨rfl, rfl⟩; exact ⟨rfl, rfl⟩) (fun {G D e a w} H => ?_)) (by simp) ?_
      · have hx : TR (lowD w.heap.size) w.heap [] (.agg (eBi b)) (a.eval (.tmp 47)) := rel_low H (.tmp 47)
        have hy := H.ev (.tmp 45)
        exact tree_args (tree_low H hy) hx
      rintro σ2 ⟨r, o', ⟨rfl, rfl⟩, hσ⟩
      obtain rfl := Option.some.inj hσ
      clear hσ
      refine drn [4] (by kernel_rfl) (by kernel_rfl) rfl rfl ?_
      refine AH_end (by kernel_rfl) ?_
      refine rn rfl ?_
      refine goal_cond rfl (fun h => by simp at h) (fun _ => ?_)
      refine rn rfl ?_
      refine goal_step (step_call [3] rfl rfl rfl rfl rfl rfl ((markSig_ct s 1 _ (by omega) (by omega) (by omega)).up)) ?_
      rintro σ2 ⟨r, o', ⟨rfl, rfl⟩, hσ⟩
      obtain rfl := Option.some.inj hσ
      clear hσ
      refine rn rfl ?_
      refine rn rfl ?_

      refine cut_nrm [10, 9, 8, 6, 3, 2] [0, 1, 2, 5, 6, 7, 8] rfl rfl
  · rintro τ D6 e6 a6 w6 H6 rfl
    refine wp_seq (wp_region ?_)
    change wpOps _ _ _ [0, 1, 2, 3] _ _
    rw [wpOps_cons]
    refine (step_did (X := { pk with κ := treeP w1.heap.size w2.heap.size b (.slice (some ad) b.length cv) }) rfl rfl (dA_step rfl)) H6 (fun D7 e7 σ7 a7 w7 H7 _ hP => ?_)
    subst hP
    rw [wpOps_cons]
    refine (step_did (X := { pk with κ := treeP w1.heap.size w2.heap.size b (.slice (some ad) b.length cv) }) rfl rfl (dA_step rfl)) H7 (fun D8 e8 σ8 a8 w8 H8 _ hP => ?_)
    subst hP
    rw [wpOps_cons]
    have hT := tree_now H8
    have ho8 := H8.old
    have hn8 := H8.new
    have hD1 : ∀ b', D1 b' → b' < w1.heap.size := H1.sr.dom
    have hS : ∀ b', w1.heap.size ≤ b' ∧ b' < w2.heap.size → ¬ D8 b' ∧ ¬ Wof e8 b' := by
      rintro b' ⟨h1, h2⟩
      refine ⟨fun h => ?_, ?_⟩
      · rcases ho8 b' h h2 with h3 | h3
        · have := hD1 b' h3; omega
        · exact hdj b' h1 h2 h3.wof
      · rintro ⟨id, ad', esz, cap, n, he, rfl⟩
        rcases hn8 id ad' _ _ _ he with h3 | h3
        · exact hdj _ h1 h2 h3
        · have h4 : w2.heap.size ≤ ad'.block := h3
          omega
    have hw8 : w2.heap.size ≤ w8.heap.size := H8.ext.size
    have hv53 := H8.ev (.tmp 53)
    have hv54 := H8.ev (.tmp 54)
    have H8b := rel_back H1 hx2 (fun _ h => h.elim) G2 rfl rfl rfl H8
    refine wpOp_call (X := pk) rfl H8b rfl ⟨_, Tryz.func15, rfl, by kernel_rfl⟩ ?_
    have hx53 : a8.eval (.tmp 53) = .agg #[.slice (some ad) b.length cv] := agg_v hv53
    have hx54 : a8.eval (.tmp 54) = .int .i64 (1 + 4 * s.length) := hv54
    have hxs : (#[Operand.tmp 53, Operand.tmp 54] : Array Operand).map a8.eval = #[.agg #[.slice (some ad) b.length cv], .int .i64 (1 + 4 * s.length)] := by rw [← hx53, ← hx54]; simp
    rw [hxs]
    refine (markBinding_raw b _ (1 + 4 * s.length) lb.len (fun x hx => by have := lb.size hx; omega) (by omega) ?_ hw8 hT).mono ?_
    · have := markN_le b
      have := lb.tot
      have := lb.len
      have := p0
      omega
    rintro en w9 ⟨rfl, hx9⟩
    refine ⟨_, rfl, ?_⟩
    let G3 : Ctx pk.κ := ⟨w9, D8, e8, glob_any, trivial⟩
    have H9 := rel_new H8b hx9 hS G3 rfl rfl rfl
    have H10 := H9.putv (dst := some 55) (x := .one (.int .i64 (1 + 4 * s.length + markN b))) (v := .int .i64 (1 + 4 * s.length + markN b)) (by simp only [TR, CR]) (putS_eq rfl)
    rw [wpOps_cons]
    refine (step_did (X := pk) rfl rfl (dA_step rfl)) H10 (fun D11 e11 σ11 a11 w11 H11 _ hP => ?_)
    subst hP
    have hb3 : ∀ {D2 : Nat → Prop} {e2 : List ALoc} {τ : State} {a2 : Act} {w2' : World}, Rel Tryz.f3.ntmps ([] : List (Option AObj)).length G3 D2 e2 τ a2 w2' → Rel Tryz.f3.ntmps ([] : List (Option AObj)).length G D2 e2 τ a2 w2' :=
      fun h => rel_back H8b hx9 (fun b' hb => by have h1 := H1.ext.size; have h2 := hb.1; omega) G3 rfl rfl rfl h
    refine wp_mono ((show goal pk _ _ (finK pk _ _ _) (.cod _ []) _ from ?_) G3 D11 e11 a11 w11 H11) (fun ex a w ⟨D, e, τ, hr, hk⟩ => ⟨D, e, τ, hb3 hr, hk⟩)
    refine rn rfl ?_
    refine goal_guard rfl rfl rfl (fun h => ?_) (fun h => ?_) <;> (try simp only [gt_iff_lt, ge_iff_le, bne_iff_ne, ne_eq, bne_eq_false_iff_eq, beq_iff_eq, beq_eq_false_iff_ne, Bool.not_eq_true', Bool.not_eq_false', decide_eq_true_eq, decide_eq_false_iff_not, List.length_map] at h)
    · omega
    refine rn rfl ?_
    refine goal_step (step_lendE [] rfl rfl rfl rfl rfl rfl rfl (cons_eq (asFl R) rfl) (eqFlat_ct R R (by omega) (by omega)) (by rintro r o ⟨rfl, rfl⟩; exact ⟨rfl, rfl⟩)) ?_
    rintro σ2 ⟨r, o', ⟨rfl, rfl⟩, hσ⟩
    obtain rfl := Option.some.inj hσ
    clear hσ
    refine rn rfl ?_
    simp only [E0]
    refine goal_cond rfl (fun h => by simp at h) (fun _ => ?_)
    refine rn rfl ?_
    refine goal_step (step_call [4, 5] rfl rfl rfl rfl rfl rfl (markFlat_ct R _ _ (by omega) (by omega))) ?_
    rintro σ2 ⟨r, o', ⟨rfl, rfl⟩, hσ⟩
    obtain rfl := Option.some.inj hσ
    clear hσ
    refine rn rfl ?_
    refine rn rfl ?_
    have hsq : [T.agg [C.fs (List.take R.places.length (List.drop 0 ((seqF R.places.length R.named.length).places.map eI))), C.fs (List.take R.named.length (List.drop 0 ((seqF R.places.length R.named.length).named.map eP)))], T.one (.int .i64 1)] = [T.agg (eF (seqF R.places.length R.named.length)), T.one (.int .i64 1)] := by
      simp [eF, seqF, List.take_of_length_le, seqI_length, seqP_length]
    refine goal_step (step_lendE [] rfl rfl rfl rfl rfl rfl rfl (hsq) (heldFlat_ct R.places.length R.named.length (by omega) (by omega)) (by rintro r o ⟨rfl, rfl⟩; exact ⟨rfl, rfl⟩)) ?_
    rintro σ2 ⟨r, o', ⟨rfl, rfl⟩, hσ⟩
    obtain rfl := Option.some.inj hσ
    clear hσ
    refine rn rfl ?_
    refine goal_cond rfl (fun h => ?_) (fun h => ?_) <;> simp only [decide_eq_true_eq, decide_eq_false_iff_not] at h
    · omega
    refine rn rfl ?_
    refine goal_cond rfl (fun h => by simp at h) (fun _ => ?_)
    refine rt1 31 rfl ?_
    refine goal_cutR (fun σ' => σ' = ⟨[(13, .one (.op 4 0 0)), (11, .one (.int .i64 (1 + R.places.length + 2 * R.named.length))), (9, .one (.op 1 0 0)), (6, .one (.op 0 0 0))],
      [some ⟨2, [eF R], false, false, true⟩, some ⟨2, [[.os 2 0 R.places.length R.places.length, .os 3 0 R.named.length R.named.length]], false, false, true⟩,
       ownI (seqF R.places.length R.named.length).places, ownP (seqF R.places.length R.named.length).named, some ⟨2, [eF R], false, false, true⟩], []⟩) ?_ ?_
    · refine goal_draw' [0, 1] 7 rfl ?_
      refine drn [0, 2] (by kernel_rfl) (by kernel_rfl) rfl rfl ?_
      refine AH_two (i := 1) (j := 5) (by kernel_rfl) (step_call [] rfl rfl rfl rfl rfl rfl (toSigD_ct s (by omega))) (by simp) (step_did rfl rfl (dA_step rfl)) (mdOk rfl) ?_ ?_
      · rintro σ2 ⟨r, o', ⟨rfl, rfl⟩, hσ⟩
        obtain rfl := Option.some.inj hσ
        clear hσ
        refine AH_two (i := 3) (j := 5) (by kernel_rfl) (step_call [] rfl rfl rfl rfl rfl rfl (toBiD_ct b lb)) (by simp) (step_did rfl rfl (dA_step rfl)) (mdOk rfl) ?_ ?_
        · rintro σ2 ⟨r, o', ⟨rfl, rfl⟩, hσ⟩
          obtain rfl := Option.some.inj hσ
          clear hσ
          refine AH_two (i := 4) (j := 5) (by kernel_rfl) (step_call [] rfl rfl rfl rfl rfl rfl (hiD)) (by simp) (step_did rfl rfl (dA_step rfl)) (mdOk rfl) ?_ ?_
          · rintro σ2 ⟨r, o', ⟨rfl, rfl⟩, hσ⟩
            obtain rfl := Option.some.inj hσ
            clear hσ
            refine AH_oneDid 5 rfl (by kernel_rfl) rfl (dA_step rfl) (mdOk rfl) ?_
            refine AH_oneDid 6 rfl (by kernel_rfl) rfl (dA_step rfl) (mdOk rfl) ?_
            refine AH_end (by kernel_rfl) ?_
            refine rn rfl ?_
            exact cut_nrm [13, 11, 9, 6] [2, 6, 4, 5, 7] rfl rfl
          · rintro _ rfl
            refine AH_one (i := 4) (by kernel_rfl) (step_call [] rfl rfl rfl rfl rfl rfl (hiD)) (by simp) ?_
            rintro σ2 ⟨r, o', ⟨rfl, rfl⟩, hσ⟩
            obtain rfl := Option.some.inj hσ
            clear hσ
            refine AH_oneDid 6 rfl (by kernel_rfl) rfl (dA_step rfl) (mdOk rfl) ?_
            refine AH_end (by kernel_rfl) ?_
            refine rn rfl ?_
            exact cut_nrm [13, 11, 9, 6] [2, 6, 4, 5, 7] rfl rfl
        · rintro _ rfl
          refine AH_one (i := 3) (by kernel_rfl) (step_call [] rfl rfl rfl rfl rfl rfl (toBiD_ct b lb)) (by simp) ?_
          rintro σ2 ⟨r, o', ⟨rfl, rfl⟩, hσ⟩
          obtain rfl := Option.some.inj hσ
          clear hσ
          refine AH_one (i := 4) (by kernel_rfl) (step_call [] rfl rfl rfl rfl rfl rfl (hiD)) (by simp) ?_
          rintro σ2 ⟨r, o', ⟨rfl, rfl⟩, hσ⟩
          obtain rfl := Option.some.inj hσ
          clear hσ
          refine AH_oneDid 6 rfl (by kernel_rfl) rfl (dA_step rfl) (mdOk rfl) ?_
          refine AH_end (by kernel_rfl) ?_
          refine rn rfl ?_
          exact cut_nrm [13, 11, 9, 6] [2, 6, 4, 5, 7] rfl rfl
      · rintro _ rfl
        refine AH_one (i := 1) (by kernel_rfl) (step_call [] rfl rfl rfl rfl rfl rfl (toSigD_ct s (by omega))) (by simp) ?_
        rintro σ2 ⟨r, o', ⟨rfl, rfl⟩, hσ⟩
        obtain rfl := Option.some.inj hσ
        clear hσ
        refine AH_one (i := 3) (by kernel_rfl) (step_call [] rfl rfl rfl rfl rfl rfl (toBiD_ct b lb)) (by simp) ?_
        rintro σ2 ⟨r, o', ⟨rfl, rfl⟩, hσ⟩
        obtain rfl := Option.some.inj hσ
        clear hσ
        refine AH_one (i := 4) (by kernel_rfl) (step_call [] rfl rfl rfl rfl rfl rfl (hiD)) (by simp) ?_
        rintro σ2 ⟨r, o', ⟨rfl, rfl⟩, hσ⟩
        obtain rfl := Option.some.inj hσ
        clear hσ
        refine AH_oneDid 6 rfl (by kernel_rfl) rfl (dA_step rfl) (mdOk rfl) ?_
        refine AH_end (by kernel_rfl) ?_
        refine rn rfl ?_
        exact cut_nrm [13, 11, 9, 6] [2, 6, 4, 5, 7] rfl rfl
    rintro _ rfl
    refine rn rfl ?_
    refine goal_step (step_call [] rfl rfl rfl rfl rfl rfl (eqFlat_ct R R (by omega) (by omega))) ?_
    rintro σ2 ⟨r, o', ⟨rfl, rfl⟩, hσ⟩
    obtain rfl := Option.some.inj hσ
    clear hσ
    refine rn rfl ?_
    simp only [E0]
    refine goal_cond rfl (fun h => by simp at h) (fun _ => ?_)
    refine rn rfl ?_
    refine goal_step (step_lendE [] rfl rfl rfl rfl rfl rfl rfl (hsq) (heldFlat_ct R.places.length R.named.length (by omega) (by omega)) (by rintro r o ⟨rfl, rfl⟩; exact ⟨rfl, rfl⟩)) ?_
    rintro σ2 ⟨r, o', ⟨rfl, rfl⟩, hσ⟩
    obtain rfl := Option.some.inj hσ
    clear hσ
    refine rn rfl ?_
    refine goal_cond rfl (fun h => ?_) (fun h => ?_) <;> simp only [decide_eq_true_eq, decide_eq_false_iff_not] at h
    · omega
    refine rn rfl ?_
    refine goal_cond rfl (fun h => by simp at h) (fun _ => ?_)
    exact rn rfl (fin_is [] rfl ⟨rfl, rfl⟩)
end

end Go.Proofs.YtocdfakomfifbaaGreat
