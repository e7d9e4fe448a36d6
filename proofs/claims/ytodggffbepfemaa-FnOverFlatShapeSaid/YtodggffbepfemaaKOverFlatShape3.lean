/- Part 3 of the proof: an abstract machine over the model; contracts of the functions that the law reaches. -/
import Derived.Test.YtodggffbepfemaaKOverFlatShape2
set_option linter.unusedVariables false
set_option linter.unusedSimpArgs false
namespace Go.Proofs.Ytodggffbepfemaa
open Go
set_option maxRecDepth 100000
set_option maxHeartbeats 1000000

/-- The reader, at position 'k'. -/
def oR (bs : Str) (k : Int) : Option AObj := some ⟨2, [[.fs (bs.map rowB), .int .i64 k]], false, false, true⟩

theorem rowB_len (b : UInt8) : (rowB b).length = 1 := rfl

theorem tmod_range {a n : Int} (ha : 0 ≤ a) (hn : 1 ≤ n) : 0 ≤ a.tmod n ∧ a.tmod n < n := by
  rw [Int.tmod_eq_emod_of_nonneg ha]
  exact ⟨Int.emod_nonneg _ (by omega), Int.emod_lt_of_pos _ (by omega)⟩

theorem pick_ct (bs : Str) (k n : Int) (hb : bs.length ≤ 2000) (hk : 0 ≤ k) (hk' : k ≤ 1073741824) (hn : n ≤ 1073741824) :
    ACalls pk 69 [.one (.op 0 0 0), .one (.int .i64 n)] [oR bs k] (fun r o => (∃ z, r = .one (.int .i64 z) ∧ (1 ≤ n → 0 ≤ z ∧ z < n) ∧ (n < 1 → z = 0)) ∧ o = [oR bs (k + 1)]) := by
  refine acalls_of_body Try.func69 rfl (by kernel_rfl) rfl ?_
  have hw : IntKind.i64.wrap (k + 1) = k + 1 := wrap64 (by omega) (by omega)
  have hw1 : IntKind.i64.wrap (k + 1 - 1) = k := by rw [wrap64] <;> omega
  refine rn rfl ?_
  rw [hw]
  refine goal_guard rfl rfl rfl (fun h => ?_) (fun h => ?_) <;> simp only [decide_eq_true_eq, decide_eq_false_iff_not] at h
  · refine rn rfl ?_
    exact rn rfl (fin_is [] rfl ⟨⟨0, rfl, fun h' => by omega, fun _ => rfl⟩, rfl⟩)
  · refine rn rfl ?_
    refine goal_cond rfl (fun h2 => ?_) (fun h2 => ?_) <;> simp only [List.length_map, beq_iff_eq, beq_eq_false_iff_ne, ne_eq] at h2
    · exact rn rfl (fin_is [] rfl ⟨⟨0, rfl, fun h' => by omega, fun _ => rfl⟩, rfl⟩)
    · refine rn rfl ?_
      rw [hw1]
      refine goal_cond rfl (fun h3 => ?_) (fun h3 => ?_) <;> simp only [List.length_map, decide_eq_true_eq, decide_eq_false_iff_not] at h3
      · obtain ⟨b, hbk⟩ := at_some (xs := bs) (i := k.toNat) (by omega)
        refine rn rfl ?_
        refine goal_did rfl rfl (dA_index (rowB b) rfl rfl rfl rfl rfl rfl rfl hk (by simpa using h3) (map_at hbk) rfl) ?_
        refine rn rfl ?_
        have hwb : IntKind.i64.wrap (b.toNat : Int) = b.toNat := by
          have := b.toNat_lt
          rw [wrap64] <;> omega
        refine goal_did rfl rfl (dA_rem (Int.tmod (b.toNat : Int) n) rfl rfl rfl (by omega) (by rw [hwb]) rfl) ?_
        have ht := tmod_range (a := (b.toNat : Int)) (n := n) (by omega) (by omega)
        exact rn rfl (fin_is [] rfl ⟨⟨_, rfl, fun _ => ht, fun h' => by omega⟩, rfl⟩)
      · have hL : (0 : Int) < bs.length := by omega
        obtain ⟨kn, rfl⟩ : ∃ m : Nat, k = m := ⟨k.toNat, by omega⟩
        have hLe : ((bs.map rowB).length : Int) = bs.length := by simp
        have r1 := tmod_range (a := (kn : Int)) (n := bs.length) (by omega) (by omega)
        have hw7 : IntKind.i64.wrap ((kn : Int) * 7) = kn * 7 := by rw [wrap64] <;> omega
        have hw73 : IntKind.i64.wrap ((kn : Int) * 7 + 3) = kn * 7 + 3 := by rw [wrap64] <;> omega
        have r2 := tmod_range (a := (kn : Int) * 7 + 3) (n := bs.length) (by omega) (by omega)
        obtain ⟨b1, hb1⟩ := at_some (xs := bs) (i := ((kn : Int).tmod bs.length).toNat) (by omega)
        obtain ⟨b2, hb2⟩ := at_some (xs := bs) (i := (((kn : Int) * 7 + 3).tmod bs.length).toNat) (by omega)
        have l1 := b1.toNat_lt
        have l2 := b2.toNat_lt
        refine rn rfl ?_
        refine goal_draw' [0] 46 rfl ?_
        refine drn [0, 1, 2, 3, 4, 5, 6, 7, 8, 9, 15, 16, 17, 18, 19, 20, 21, 22, 23, 24, 25, 26, 33, 34, 36, 37, 38, 39, 40, 41] (by kernel_rfl) (by kernel_rfl) rfl rfl ?_
        refine AH_did 10 rfl (by kernel_rfl) (by kernel_rfl) (by kernel_rfl) rfl rfl (dA_rem ((kn : Int).tmod bs.length) rfl rfl rfl (by rw [hLe]; omega) (by rw [hLe]) rfl) ?_
        refine AH_did 11 rfl (by kernel_rfl) (by kernel_rfl) (by kernel_rfl) rfl rfl (dA_index (rowB b1) rfl rfl rfl rfl rfl rfl rfl (by omega) (by rw [hLe]; omega) (map_at hb1) rfl) ?_
        refine AH_did 27 rfl (by kernel_rfl) (by kernel_rfl) (by kernel_rfl) rfl rfl (dA_rem (((kn : Int) * 7 + 3).tmod bs.length) rfl rfl rfl (by rw [hLe]; omega) (by rw [hLe, hw7, hw73]) rfl) ?_
        refine AH_did 28 rfl (by kernel_rfl) (by kernel_rfl) (by kernel_rfl) rfl rfl (dA_index (rowB b2) rfl rfl rfl rfl rfl rfl rfl (by omega) (by rw [hLe]; omega) (map_at hb2) rfl) ?_
        obtain ⟨qn, hqn⟩ : ∃ qn : Nat, qn = kn / bs.length := ⟨_, rfl⟩
        have hq : (kn : Int).tdiv bs.length = (qn : Int) := by rw [Int.tdiv_eq_ediv_of_nonneg (by omega), hqn]; simp
        have hql : qn ≤ kn := by rw [hqn]; exact Nat.div_le_self _ _
        refine AH_did 42 rfl (by kernel_rfl) (by kernel_rfl) (by kernel_rfl) rfl rfl (dA_quo (qn : Int) rfl rfl rfl (by rw [hLe]; omega) (by rw [hLe, hq, wrap64] <;> omega) rfl) ?_
        refine drn [12, 13, 14, 29, 30, 31, 32, 35, 43, 44, 45] (by kernel_rfl) (by kernel_rfl) rfl rfl ?_
        refine AH_end (by kernel_rfl) ?_
        have e0 : IntKind.i64.wrap (b1.toNat : Int) = b1.toNat := by rw [wrap64] <;> omega
        have e1 : IntKind.i64.wrap ((b1.toNat : Int) * 131) = b1.toNat * 131 := by rw [wrap64] <;> omega
        have e2 : IntKind.i64.wrap (b2.toNat : Int) = b2.toNat := by rw [wrap64] <;> omega
        have e3 : IntKind.i64.wrap ((b2.toNat : Int) * 1117) = b2.toNat * 1117 := by rw [wrap64] <;> omega
        have e4 : IntKind.i64.wrap ((b1.toNat : Int) * 131 + b2.toNat * 1117) = b1.toNat * 131 + b2.toNat * 1117 := by rw [wrap64] <;> omega
        have e5 : IntKind.i64.wrap ((kn : Int) * 29) = kn * 29 := by rw [wrap64] <;> omega
        have e6 : IntKind.i64.wrap ((b1.toNat : Int) * 131 + b2.toNat * 1117 + kn * 29) = b1.toNat * 131 + b2.toNat * 1117 + kn * 29 := by rw [wrap64] <;> omega
        have e7 : IntKind.i64.wrap ((qn : Int) * 53) = qn * 53 := by rw [wrap64] <;> omega
        have e8 : IntKind.i64.wrap ((b1.toNat : Int) * 131 + b2.toNat * 1117 + kn * 29 + qn * 53) = ((b1.toNat * 131 + b2.toNat * 1117 + kn * 29 + qn * 53 : Nat) : Int) := by rw [wrap64] <;> omega
        rw [e0, e1, e2, e3, e4, e5, e6, e7, e8]
        generalize hX : b1.toNat * 131 + b2.toNat * 1117 + kn * 29 + qn * 53 = Xn
        have hXl : Xn < 2 ^ 40 := by omega
        refine rn rfl ?_
        have hd64 : IntKind.i64.wrap (Int.tdiv (Xn : Int) (Int.ofNat (63 + 1))) = ((Xn / 64 : Nat) : Int) := by
          have : Int.tdiv (Xn : Int) (Int.ofNat (63 + 1)) = ((Xn / 64 : Nat) : Int) := by rw [Int.tdiv_eq_ediv_of_nonneg (by omega)]; simp
          rw [this, wrap64] <;> omega
        refine goal_did rfl rfl (dA_xor Xn (Xn / 64) rfl rfl rfl rfl hd64 (by omega) (by omega) rfl) ?_
        refine rn rfl ?_
        refine goal_did rfl rfl (dA_rem (Int.tmod ((Xn ^^^ (Xn / 64) : Nat) : Int) n) rfl rfl rfl (by omega) rfl rfl) ?_
        have ht := tmod_range (a := ((Xn ^^^ (Xn / 64) : Nat) : Int)) (n := n) (by omega) (by omega)
        exact rn rfl (fin_is [] rfl ⟨⟨_, rfl, fun _ => ht, fun h' => by omega⟩, rfl⟩)

def eS (s : Str) : List C := [.str s]

theorem one_ct (bs : Str) (k : Int) (xs : List Int) (hb : bs.length ≤ 2000) (hk : 0 ≤ k) (hk' : k ≤ 1073741824) (hx : 0 < xs.length) (hx' : xs.length ≤ 1000) :
    ACalls pk 141 [.one (.op 0 0 0), .one (.fs (xs.map eI))] [oR bs k] (fun r o => (∃ v ∈ xs, r = .one (.int .i64 v)) ∧ o = [oR bs (k + 1)]) := by
  refine acalls_of_body Try.func141 rfl (by kernel_rfl) rfl ?_
  refine rn rfl ?_
  have hL : (((xs.map eI).length : Nat) : Int) = xs.length := by simp
  rw [hL]
  refine goal_step (step_call [0] rfl rfl rfl rfl rfl rfl (pick_ct bs k xs.length hb hk hk' (by omega))) ?_
  rintro σ2 ⟨r, o', ⟨⟨z, rfl, hz, _⟩, rfl⟩, hσ⟩
  obtain rfl := Option.some.inj hσ
  clear hσ
  obtain ⟨z0, z1⟩ := hz (by omega)
  obtain ⟨v, hv⟩ := at_some (xs := xs) (i := z.toNat) (by omega)
  refine goal_did rfl rfl (dA_index (eI v) rfl rfl rfl rfl rfl rfl rfl z0 (by rw [hL]; exact z1) (map_at hv) rfl) ?_
  exact rn rfl (fin_is [] rfl ⟨⟨v, List.mem_of_getElem? hv, rfl⟩, rfl⟩)

theorem of_ct (bs : Str) (k : Int) (xs : List Str) (hb : bs.length ≤ 2000) (hk : 0 ≤ k) (hk' : k ≤ 1073741824) (hx : 0 < xs.length) (hx' : xs.length ≤ 1000) :
    ACalls pk 143 [.one (.op 0 0 0), .one (.fs (xs.map eS))] [oR bs k] (fun r o => (∃ v ∈ xs, r = .one (.str v)) ∧ o = [oR bs (k + 1)]) := by
  refine acalls_of_body Try.func143 rfl (by kernel_rfl) rfl ?_
  refine rn rfl ?_
  have hL : (((xs.map eS).length : Nat) : Int) = xs.length := by simp
  rw [hL]
  refine goal_step (step_call [0] rfl rfl rfl rfl rfl rfl (pick_ct bs k xs.length hb hk hk' (by omega))) ?_
  rintro σ2 ⟨r, o', ⟨⟨z, rfl, hz, _⟩, rfl⟩, hσ⟩
  obtain rfl := Option.some.inj hσ
  clear hσ
  obtain ⟨z0, z1⟩ := hz (by omega)
  obtain ⟨v, hv⟩ := at_some (xs := xs) (i := z.toNat) (by omega)
  refine goal_did rfl rfl (dA_index (eS v) rfl rfl rfl rfl rfl rfl rfl z0 (by rw [hL]; exact z1) (map_at hv) rfl) ?_
  exact rn rfl (fin_is [] rfl ⟨⟨v, List.mem_of_getElem? hv, rfl⟩, rfl⟩)

theorem aNumber_ct (bs : Str) (k : Int) (hb : bs.length ≤ 2000) (hk : 0 ≤ k) (hk' : k ≤ 1073741824) :
    ACalls pk 123 [.one (.op 0 0 0)] [oR bs k] (fun r o => (∃ v : Int, -100 ≤ v ∧ v ≤ 100 ∧ r = .one (.int .i64 v)) ∧ o = [oR bs (k + 1)]) := by
  refine acalls_of_body Try.func123 rfl (by kernel_rfl) rfl ?_
  refine rn rfl ?_
  refine goal_step (step_callE [0] rfl rfl rfl rfl rfl rfl rfl (one_ct bs k [1, 2, 3, 0, 5, -1, 7, 99, -99] hb hk hk' (by decide) (by decide))) ?_
  rintro σ2 ⟨r, o', ⟨⟨v, hv, rfl⟩, rfl⟩, hσ⟩
  obtain rfl := Option.some.inj hσ
  clear hσ
  refine rn rfl (fin_is [] rfl ⟨⟨v, ?_, ?_, rfl⟩, rfl⟩) <;> (simp at hv; omega)

theorem aName_ct (bs : Str) (k : Int) (hb : bs.length ≤ 2000) (hk : 0 ≤ k) (hk' : k ≤ 1073741824) :
    ACalls pk 122 [.one (.op 0 0 0)] [oR bs k] (fun r o => (∃ v : Str, v.length ≤ 7 ∧ r = .one (.str v)) ∧ o = [oR bs (k + 1)]) := by
  refine acalls_of_body Try.func122 rfl (by kernel_rfl) rfl ?_
  refine rn rfl ?_
  refine goal_step (step_callE [0] rfl rfl rfl rfl rfl rfl rfl (of_ct bs k [[97], [98], [99], [100], [120], [121], [97], [98], [99]] hb hk hk' (by decide) (by decide))) ?_
  rintro σ2 ⟨r, o', ⟨⟨v, hv, rfl⟩, rfl⟩, hσ⟩
  obtain rfl := Option.some.inj hσ
  clear hσ
  refine rn rfl (fin_is [] rfl ⟨⟨v, ?_, rfl⟩, rfl⟩)
  simp at hv
  rcases hv with rfl | rfl | rfl | rfl | rfl | rfl | rfl | rfl | rfl <;> decide

theorem anyNumber_ct (bs : Str) (k : Int) (hb : bs.length ≤ 2000) (hk : 0 ≤ k) (hk' : k ≤ 1073741000) :
    ACalls pk 142 [.one (.op 0 0 0)] [oR bs k] (fun r o => (∃ v : Int, -100 ≤ v ∧ v ≤ 100 ∧ r = .one (.int .i64 v)) ∧ o = [oR bs (k + 2)]) := by
  refine acalls_of_body Try.func142 rfl (by kernel_rfl) rfl ?_
  refine rn rfl ?_
  refine goal_step (step_call [0] rfl rfl rfl rfl rfl rfl (pick_ct bs k 16 hb hk (by omega) (by omega))) ?_
  rintro σ2 ⟨r, o', ⟨⟨z, rfl, _, _⟩, rfl⟩, hσ⟩
  obtain rfl := Option.some.inj hσ
  clear hσ
  have hk2 : k + 1 + 1 = k + 2 := by omega
  refine rn rfl ?_
  refine goal_cond rfl (fun h => ?_) (fun h => ?_)
  · refine rn rfl ?_
    refine goal_step (step_callE [0] rfl rfl rfl rfl rfl rfl rfl (one_ct bs (k + 1) [100, -100] hb (by omega) (by omega) (by decide) (by decide))) ?_
    rintro σ2 ⟨r, o', ⟨⟨v, hv, rfl⟩, rfl⟩, hσ⟩
    obtain rfl := Option.some.inj hσ
    clear hσ
    rw [hk2]
    refine rn rfl (fin_is [] rfl ⟨⟨v, ?_, ?_, rfl⟩, rfl⟩) <;> (simp at hv; omega)
  · refine rn rfl ?_
    refine goal_step (step_call [0] rfl rfl rfl rfl rfl rfl (aNumber_ct bs (k + 1) hb (by omega) (by omega))) ?_
    rintro σ2 ⟨r, o', ⟨⟨v, v1, v2, rfl⟩, rfl⟩, hσ⟩
    obtain rfl := Option.some.inj hσ
    clear hσ
    rw [hk2]
    exact rn rfl (fin_is [] rfl ⟨⟨v, v1, v2, rfl⟩, rfl⟩)

theorem anyName_ct (bs : Str) (k : Int) (hb : bs.length ≤ 2000) (hk : 0 ≤ k) (hk' : k ≤ 1073741000) :
    ACalls pk 70 [.one (.op 0 0 0)] [oR bs k] (fun r o => (∃ v : Str, v.length ≤ 7 ∧ r = .one (.str v)) ∧ o = [oR bs (k + 2)]) := by
  refine acalls_of_body Try.func70 rfl (by kernel_rfl) rfl ?_
  refine rn rfl ?_
  refine goal_step (step_call [0] rfl rfl rfl rfl rfl rfl (pick_ct bs k 16 hb hk (by omega) (by omega))) ?_
  rintro σ2 ⟨r, o', ⟨⟨z, rfl, _, _⟩, rfl⟩, hσ⟩
  obtain rfl := Option.some.inj hσ
  clear hσ
  have hk2 : k + 1 + 1 = k + 2 := by omega
  refine rn rfl ?_
  refine goal_cond rfl (fun h => ?_) (fun h => ?_)
  · refine rn rfl ?_
    refine goal_step (step_callE [0] rfl rfl rfl rfl rfl rfl rfl (of_ct bs (k + 1) [[], [65], [116, 111, 111, 108, 111, 110, 103], [97, 49], [97, 98, 99, 100, 101, 102]] hb (by omega) (by omega) (by decide) (by decide))) ?_
    rintro σ2 ⟨r, o', ⟨⟨v, hv, rfl⟩, rfl⟩, hσ⟩
    obtain rfl := Option.some.inj hσ
    clear hσ
    rw [hk2]
    refine rn rfl (fin_is [] rfl ⟨⟨v, ?_, rfl⟩, rfl⟩)
    simp at hv
    rcases hv with rfl | rfl | rfl | rfl | rfl <;> decide
  · refine rn rfl ?_
    refine goal_step (step_call [0] rfl rfl rfl rfl rfl rfl (aName_ct bs (k + 1) hb (by omega) (by omega))) ?_
    rintro σ2 ⟨r, o', ⟨⟨v, v1, rfl⟩, rfl⟩, hσ⟩
    obtain rfl := Option.some.inj hσ
    clear hσ
    rw [hk2]
    exact rn rfl (fin_is [] rfl ⟨⟨v, v1, rfl⟩, rfl⟩)

theorem newReader_ct (bs : Str) : ACalls pk 57 [.one (.fs (bs.map rowB))] [] (fun r o => r = .one (.op 0 0 0) ∧ o = [oR (bs.take 2000) 0]) := by
  refine acalls_of_body Try.func57 rfl (by kernel_rfl) rfl ?_
  refine rn rfl ?_
  refine goal_cond rfl (fun h => ?_) (fun h => ?_) <;> simp only [List.length_map, gt_iff_lt, decide_eq_true_eq, decide_eq_false_iff_not] at h
  · refine rn rfl ?_
    refine goal_did rfl rfl (dA_slice 0 2000 ((bs.take 2000).map rowB) rfl rfl rfl rfl rfl Bnd.none_ (Bnd.some_ rfl rfl) (rows_len rowB_len _) (by omega) (by simp; omega) rfl (by simp)) ?_
    exact rn rfl (fin_is [0] rfl ⟨rfl, rfl⟩)
  · rw [List.take_of_length_le (by omega)]
    exact rn rfl (fin_is [0] rfl ⟨rfl, rfl⟩)

/-- A pair put into a copy, zs the reference does it. -/
def spPair (ps : List Pair) (p : Pair) : List Pair := if ps.any (nameIs p.name) then ps.set (ps.findIdx (nameIs p.name)) p else ps ++ [p]

theorem putPair_ct (ps : List Pair) (p : Pair) (h : ps.length ≤ 1000) :
    ACalls pk 121 [.one (.fs (ps.map eP)), .agg (eP p)] [] (fun r o => r = .one (.os 0 0 (spPair ps p).length (spPair ps p).length) ∧ o = [ownP (spPair ps p)]) := by
  refine acalls_of_body Try.func121 rfl (by kernel_rfl) rfl ?_
  refine rn rfl ?_
  refine goal_did rfl rfl (dA_append (old := []) (ps.map eP) ps.length true (Dst.own rfl rfl rfl rfl rfl (Nat.le_refl 0) rfl) (Src.fs rfl) rfl rfl rfl rfl rfl rfl rfl rfl (by simp) (rows_len eP_len _) (by simp only [List.length_map, List.length_nil]; show _ * 24 ≤ _; omega) (by simp; omega) rfl (by simp) (fun _ => noOwnR_map _ eP_noOwn _)) ?_
  refine rn rfl ?_
  have hfr : [T.one (C.fs (List.take ps.length (List.drop 0 (ps.map eP)))), T.one (.str p.name)] = [T.one (C.fs (ps.map eP)), T.one (.str p.name)] := by simp [List.take_of_length_le]
  refine goal_step (step_lendE [] rfl rfl rfl rfl rfl rfl rfl hfr (spairAt_ct ps p.name (by omega)) (by rintro r o ⟨rfl, rfl⟩; exact ⟨rfl, rfl⟩)) ?_
  rintro σ2 ⟨r, o', ⟨rfl, rfl⟩, hσ⟩
  obtain rfl := Option.some.inj hσ
  clear hσ
  refine rn rfl ?_
  refine goal_cond rfl (fun h => ?_) (fun h => ?_) <;> simp only [ge_iff_le, decide_eq_true_eq, decide_eq_false_iff_not] at h
  · have hyes : ps.any (nameIs p.name) = true := by rw [any_nameIs, ← pairIx_ge]; omega
    obtain ⟨hix, hlt⟩ := pairIx_some hyes
    have hsp : spPair ps p = ps.set (ps.findIdx (nameIs p.name)) p := by simp [spPair, hyes]
    rw [hsp, hix, List.length_set]
    generalize ps.findIdx (nameIs p.name) = i at *
    obtain ⟨q, hq⟩ := at_some hlt
    refine rn rfl ?_
    refine goal_did rfl rfl (dA_indexOwn rfl rfl rfl rfl rfl rfl rfl rfl rfl (by omega) (by omega)) ?_
    refine goal_did rfl rfl (dA_storeEl (eP q) ((ps.set i p).map eP) true rfl rfl rfl rfl rfl (map_at (by simpa using hq)) rfl rfl (by simp [eP]) (by rw [map_set]; simp [patch, eP]) (fun _ => noOwnR_map _ eP_noOwn _)) ?_
    exact rn rfl (fin_is [2] rfl ⟨rfl, rfl⟩)
  · have hno : ps.any (nameIs p.name) = false := by
      cases hb : ps.any (nameIs p.name) with
      | false => rfl
      | true => have := (pairIx_some hb).1; omega
    have hsp : spPair ps p = ps ++ [p] := by simp [spPair, hno]
    rw [hsp]
    refine rn rfl ?_
    refine goal_did rfl rfl (dA_append (old := ps.map eP) (rows := [p].map eP) ((ps ++ [p]).map eP) (ps.length + 1) true (Dst.own rfl rfl rfl rfl rfl (by simp) (whole (by simp))) (Src.os rfl rfl (Nat.le_refl 1) rfl) rfl rfl rfl rfl rfl rfl rfl rfl (rows_len eP_len _) (rows_len eP_len _) (by simp only [List.length_map, List.length_cons, List.length_nil]; show _ * 24 ≤ _; omega) (by simp; omega) (by simp) (by simp) (fun _ => noOwnR_map _ eP_noOwn _)) ?_
    exact rn rfl (fin_is [4] rfl ⟨by simp only [List.length_append, List.length_cons, List.length_nil]; done, rfl⟩)

theorem spPair_len (ps : List Pair) (p : Pair) : (spPair ps p).length ≤ ps.length + 1 := by
  unfold spPair; split <;> simp

theorem spPair_mem {ps : List Pair} {p q : Pair} (h : q ∈ spPair ps p) : q = p ∨ q ∈ ps := by
  unfold spPair at h; split at h
  · rcases List.mem_or_eq_of_mem_set h with h | h
    · exact .inr h
    · exact .inl h
  · simp at h; exact h.symm

theorem asPP (ps : List Pair) (p : Pair) : [T.one (C.fs (List.take ps.length (List.drop 0 (ps.map eP)))), T.agg (eP p)] = [T.one (C.fs (ps.map eP)), T.agg (eP p)] := by simp [List.take_of_length_le]

/-- A flat of own slices, objects 'b' and 'b + 1'. -/
def rFa (b : Nat) (f : Flat) : T := .agg [.os b 0 f.places.length f.places.length, .os (b + 1) 0 f.named.length f.named.length]

/-- What draws give: small flats. -/
structure Small (f : Flat) (a b : Nat) : Prop where
  places : f.places.length ≤ a
  named : f.named.length ≤ b
  names : ∀ p ∈ f.named, p.name.length ≤ 7
  vals : ∀ p ∈ f.named, -100 ≤ p.value ∧ p.value ≤ 100
  nums : ∀ n ∈ f.places, -100 ≤ n ∧ n ≤ 100

theorem goodFlat_ct (bs : Str) (k : Int) (hb : bs.length ≤ 2000) (hk : 0 ≤ k) (hk' : k ≤ 1073740000) :
    ACalls pk 140 [.one (.op 0 0 0)] [oR bs k] (fun r o => ∃ f k', Small f 8 3 ∧ k ≤ k' ∧ k' ≤ k + 30 ∧ r = rFa 1 f ∧ o = [oR bs k', ownI f.places, ownP f.named]) := by
  refine acalls_of_body Try.func140 rfl (by kernel_rfl) rfl ?_
  refine rn rfl ?_
  refine goal_step (step_callE [0] rfl rfl rfl rfl rfl rfl rfl (one_ct bs k [2, 1, 3, 0, 4, 8] hb hk (by omega) (by decide) (by decide))) ?_
  rintro σ2 ⟨r, o', ⟨⟨v, hv, rfl⟩, rfl⟩, hσ⟩
  obtain rfl := Option.some.inj hσ
  clear hσ
  have hv8 : 0 ≤ v ∧ v ≤ 8 := by simp at hv; omega
  refine rn rfl ?_
  refine goal_loop_keep (fun m σ => ∃ (q k1 : Int) (ns : List Int) (L : Nat), q = m ∧ L = ns.length ∧ ns.length + m ≤ 8 ∧ (∀ n ∈ ns, -100 ≤ n ∧ n ≤ 100) ∧ k ≤ k1 ∧ k1 + m ≤ k + 9 ∧
      σ = ⟨[(4, .one (.int .i64 q)), (3, .one (.op 2 0 0)), (2, .one (.op 1 0 0)), (0, .one (.op 0 0 0))], [oR bs k1, some ⟨2, [[.fs [], .fs []]], false, false, true⟩, some ⟨2, [[.os 3 0 L L, .os 4 0 0 0]], false, false, true⟩, ownI ns, ownP []], []⟩) v.toNat [4, 3, 2, 0] [1, 4, 2, 3] rfl
    ⟨_, _, [], 0, ?_, rfl, ?_, by simp, ?_, ?_, rfl⟩ ?_
  · omega
  · simp; omega
  · omega
  · omega
  · rintro m σ ⟨q, k1, ns, L, rfl, rfl, hnl, hns, hk1, hk2, rfl⟩
    refine rn rfl ?_
    refine goal_cond rfl (fun h => ?_) (fun h => ?_) <;> simp only [gt_iff_lt, decide_eq_true_eq, decide_eq_false_iff_not] at h
    · refine rn rfl ?_
      refine goal_drawL [2] [7] 8 rfl ?_
      refine drnL [0, 1, 2] (by kernel_rfl) (by kernel_rfl) rfl rfl ?_
      refine AHL_one (i := 3) (by kernel_rfl) rfl (step_callE [0] rfl rfl rfl rfl rfl rfl (rfl) (aNumber_ct bs k1 hb (by omega) (by omega))) (by simp) ?_
      rintro σ2 ⟨r, o', ⟨⟨v, hv1, hv2, rfl⟩, rfl⟩, hσ⟩
      obtain rfl := Option.some.inj hσ
      clear hσ
      refine AHL_oneDid 4 rfl (by kernel_rfl) rfl rfl (dA_step rfl) (mdOk rfl) ?_
      refine AHL_oneDid 5 rfl (by kernel_rfl) rfl rfl (dA_append (old := (ns).map eI) (rows := ([v] : List Int).map eI) (((ns) ++ ([v] : List Int)).map eI) (ns.length + 1) true (Dst.own rfl rfl rfl rfl rfl (by first | (simp; done) | (simp; omega)) (whole (by first | (simp; done) | (simp; omega)))) (Src.os rfl rfl (Nat.le_refl 1) rfl) rfl rfl rfl rfl rfl rfl rfl rfl (rows_len eI_len _) (rows_len eI_len _) (by (try simp only [List.length_map, List.length_append, List.length_cons, List.length_nil, List.length_take, List.length_drop]); show _ * 8 ≤ _; omega) (by first | (simp; done) | (simp; omega)) (by simp) (by first | (simp; done) | (simp; omega)) (fun _ => noOwnR_map _ eI_noOwn _)) (mdOk rfl) ?_
      refine drnL [6] (by kernel_rfl) (by kernel_rfl) rfl rfl ?_
      refine AHL_lateDid 7 rfl (by kernel_rfl) rfl rfl (dA_step rfl) ?_
      refine AH_end (by kernel_rfl) ?_
      refine rn rfl ?_
      refine round_keep (m - 1) [4, 3, 2, 0] [1, 2, 6, 4] (by omega) rfl ⟨_, _, ns ++ [v], ns.length + 1, ?_, by simp, ?_, ?_, ?_, ?_, rfl⟩
      · rw [wrap64 (by omega) (by omega)]; omega
      · simp; omega
      · intro n hn; simp at hn; rcases hn with hn | rfl
        · exact hns n hn
        · exact ⟨hv1, hv2⟩
      · omega
      · omega
    · refine rn rfl ?_
      refine round_ext ?_
      refine rn rfl ?_
      refine goal_step (step_callE [0] rfl rfl rfl rfl rfl rfl (rfl) (one_ct bs k1 [1, 2, 0, 3, 0] hb (by omega) (by omega) (by decide) (by decide))) ?_
      rintro σ2 ⟨r, o', ⟨⟨w, hw, rfl⟩, rfl⟩, hσ⟩
      obtain rfl := Option.some.inj hσ
      clear hσ
      refine rn rfl ?_
      have hw3 : 0 ≤ w ∧ w ≤ 3 := by simp at hw; omega
      refine goal_loop_keep (fun m σ => ∃ (q k2 : Int) (ps : List Pair) (L : Nat), q = m ∧ L = ps.length ∧ ps.length + m ≤ 3 ∧ (∀ p ∈ ps, p.name.length ≤ 7 ∧ -100 ≤ p.value ∧ p.value ≤ 100) ∧ k ≤ k2 ∧ k2 + 2 * m ≤ k + 30 ∧
          σ = ⟨[(5, .one (.int .i64 q)), (3, .one (.op 2 0 0)), (2, .one (.op 1 0 0)), (0, .one (.op 0 0 0))], [oR bs k2, some ⟨2, [[.fs [], .fs []]], false, false, true⟩, some ⟨2, [[.os 3 0 ns.length ns.length, .os 4 0 L L]], false, false, true⟩, ownI ns, ownP ps], []⟩) w.toNat [5, 3, 2, 0] [1, 2, 3, 4] rfl
        ⟨_, _, [], 0, ?_, rfl, ?_, by simp, ?_, ?_, rfl⟩ ?_
      · omega
      · simp; omega
      · omega
      · omega
      rintro m σ ⟨q, k2, ps, L, rfl, rfl, hpl, hps, hk3, hk4, rfl⟩
      refine rn rfl ?_
      refine goal_cond rfl (fun h => ?_) (fun h => ?_) <;> (try simp only [gt_iff_lt, ge_iff_le, bne_iff_ne, ne_eq, bne_eq_false_iff_eq, beq_iff_eq, beq_eq_false_iff_ne, Bool.not_eq_true', Bool.not_eq_false', decide_eq_true_eq, decide_eq_false_iff_not, List.length_map] at h)
      · refine rn rfl ?_
        refine goal_drawL [2] [9] 10 rfl ?_
        refine drnL [0, 1, 2, 4] (by kernel_rfl) (by kernel_rfl) rfl rfl ?_
        refine AHL_one (i := 3) (by kernel_rfl) rfl (step_callE [0] rfl rfl rfl rfl rfl rfl (rfl) (aName_ct bs k2 hb (by omega) (by omega))) (by simp) ?_
        rintro σ2 ⟨r, o', ⟨⟨v, hv1, rfl⟩, rfl⟩, hσ⟩
        obtain rfl := Option.some.inj hσ
        clear hσ
        refine AHL_one (i := 5) (by kernel_rfl) rfl (step_callE [0] rfl rfl rfl rfl rfl rfl (rfl) (aNumber_ct bs (k2 + 1) hb (by omega) (by omega))) (by simp) ?_
        rintro σ2 ⟨r, o', ⟨⟨v', hv2, hv3, rfl⟩, rfl⟩, hσ⟩
        obtain rfl := Option.some.inj hσ
        clear hσ
        refine drnL [6] (by kernel_rfl) (by kernel_rfl) rfl rfl ?_
        refine AHL_one (i := 7) (by kernel_rfl) rfl (step_callE [] rfl rfl rfl rfl rfl rfl (asPP ps ⟨v, v'⟩) (putPair_ct ps ⟨v, v'⟩ (by omega))) (by simp) ?_
        rintro σ2 ⟨r, o', ⟨rfl, rfl⟩, hσ⟩
        obtain rfl := Option.some.inj hσ
        clear hσ
        refine drnL [8] (by kernel_rfl) (by kernel_rfl) rfl rfl ?_
        refine AHL_lateDid 9 rfl (by kernel_rfl) rfl rfl (dA_step rfl) ?_
        refine AH_end (by kernel_rfl) ?_
        refine rn rfl ?_
        have hsp := spPair_len ps ⟨v, v'⟩
        refine round_keep (m - 1) [5, 3, 2, 0] [1, 2, 3, 5] (by omega) rfl ⟨_, _, spPair ps ⟨v, v'⟩, _, ?_, rfl, ?_, ?_, ?_, ?_, rfl⟩
        · rw [wrap64 (by omega) (by omega)]; omega
        · omega
        · intro p hp; rcases spPair_mem hp with rfl | hp
          · exact ⟨hv1, hv2, hv3⟩
          · exact hps p hp
        · omega
        · omega
      · refine rn rfl ?_
        refine round_ext ?_
        refine rn rfl (fin_is [3, 4] rfl ⟨⟨ns, ps⟩, k2, ⟨by simp; omega, by simp; omega, fun p hp => (hps p hp).1, fun p hp => (hps p hp).2, hns⟩, hk3, by omega, rfl, rfl⟩)

theorem takeAll {α : Type} (enc : α → List C) (xs : List α) (n : Nat) (h : xs.length = n) : List.take n (List.drop 0 (xs.map enc)) = xs.map enc := by
  subst h; simp [List.take_of_length_le]

theorem someFlat_ct (bs : Str) (k : Int) (hb : bs.length ≤ 2000) (hk : 0 ≤ k) (hk' : k ≤ 1073740000) :
    ACalls pk 68 [.one (.op 0 0 0)] [oR bs k] (fun r o => ∃ f k', Small f 9 4 ∧ k ≤ k' ∧ k' ≤ k + 40 ∧ r = .agg (eF f) ∧ o = [oR bs k']) := by
  refine acalls_of_body Try.func68 rfl (by kernel_rfl) rfl ?_
  refine rn rfl ?_
  refine goal_step (step_callE [0] rfl rfl rfl rfl rfl rfl (rfl) (goodFlat_ct bs k hb hk hk')) ?_
  rintro σ2 ⟨r, o', ⟨f, k1, hf, hk1, hk2, rfl, rfl⟩, hσ⟩
  obtain rfl := Option.some.inj hσ
  clear hσ
  refine rn rfl ?_
  refine goal_step (step_callE [0] rfl rfl rfl rfl rfl rfl (rfl) (pick_ct bs k1 24 hb (by omega) (by omega) (by omega))) ?_
  rintro σ2 ⟨r, o', ⟨⟨z, rfl, _, _⟩, rfl⟩, hσ⟩
  obtain rfl := Option.some.inj hσ
  clear hσ
  refine rn rfl ?_
  have hp := hf.places
  have hn := hf.named
  refine goal_cond rfl (fun h => ?_) (fun h => ?_) <;> (try simp only [gt_iff_lt, ge_iff_le, bne_iff_ne, ne_eq, bne_eq_false_iff_eq, beq_iff_eq, beq_eq_false_iff_ne, Bool.not_eq_true', Bool.not_eq_false', decide_eq_true_eq, decide_eq_false_iff_not, List.length_map] at h)
  · refine rn rfl ?_
    refine goal_drawL [4] [8] 9 rfl ?_
    refine drnL [0, 1, 2] (by kernel_rfl) (by kernel_rfl) rfl rfl ?_
    refine AHL_oneDid 3 rfl (by kernel_rfl) rfl rfl (dA_step rfl) (mdOk rfl) ?_
    refine AHL_one (i := 4) (by kernel_rfl) rfl (step_callE [0] rfl rfl rfl rfl rfl rfl (rfl) (one_ct bs (k1 + 1) [100, -100] hb (by omega) (by omega) (by decide) (by decide))) (by simp) ?_
    rintro σ2 ⟨r, o', ⟨⟨v, hv, rfl⟩, rfl⟩, hσ⟩
    obtain rfl := Option.some.inj hσ
    clear hσ
    refine AHL_oneDid 5 rfl (by kernel_rfl) rfl rfl (dA_step rfl) (mdOk rfl) ?_
    refine AHL_oneDid 6 rfl (by kernel_rfl) rfl rfl (dA_append (old := (f.places).map eI) (rows := ([v] : List Int).map eI) (((f.places) ++ ([v] : List Int)).map eI) (f.places.length + 1) true (Dst.own rfl rfl rfl rfl rfl (by first | (simp; done) | (simp; omega)) (whole (by first | (simp; done) | (simp; omega)))) (Src.os rfl rfl (Nat.le_refl 1) rfl) rfl rfl rfl rfl rfl rfl rfl rfl (rows_len eI_len _) (rows_len eI_len _) (by (try simp only [List.length_map, List.length_append, List.length_cons, List.length_nil, List.length_take, List.length_drop]); show _ * 8 ≤ _; omega) (by first | (simp; done) | (simp; omega)) (by simp) (by first | (simp; done) | (simp; omega)) (fun _ => noOwnR_map _ eI_noOwn _)) (mdOk rfl) ?_
    refine drnL [7] (by kernel_rfl) (by kernel_rfl) rfl rfl ?_
    refine AHL_lateDid 8 rfl (by kernel_rfl) rfl rfl (dA_step rfl) ?_
    refine AH_end (by kernel_rfl) ?_
    refine rn rfl ?_
    refine rn rfl (fin_is [] rfl ⟨⟨f.places ++ [v], f.named⟩, _, ⟨by simp; omega, by simp; omega, hf.names, hf.vals, ?_⟩, ?_, ?_, ?_, rfl⟩)
    · intro n hn; simp at hn; rcases hn with hn | rfl
      · exact hf.nums n hn
      · simp at hv; omega
    · omega
    · omega
    · rw [takeAll eI _ _ (by simp), takeAll eP _ _ rfl]; rfl
  · refine rn rfl ?_
    refine goal_cond rfl (fun h2 => ?_) (fun h2 => ?_) <;> (try simp only [gt_iff_lt, ge_iff_le, bne_iff_ne, ne_eq, bne_eq_false_iff_eq, beq_iff_eq, beq_eq_false_iff_ne, Bool.not_eq_true', Bool.not_eq_false', decide_eq_true_eq, decide_eq_false_iff_not, List.length_map] at h2)
    · refine rn rfl ?_
      refine goal_drawL [4] [10] 11 rfl ?_
      refine drnL [0, 1, 2, 4] (by kernel_rfl) (by kernel_rfl) rfl rfl ?_
      refine AHL_one (i := 3) (by kernel_rfl) rfl (step_callE [0] rfl rfl rfl rfl rfl rfl (rfl) (anyName_ct bs (k1 + 1) hb (by omega) (by omega))) (by simp) ?_
      rintro σ2 ⟨r, o', ⟨⟨v, hv, rfl⟩, rfl⟩, hσ⟩
      obtain rfl := Option.some.inj hσ
      clear hσ
      refine AHL_one (i := 5) (by kernel_rfl) rfl (step_callE [0] rfl rfl rfl rfl rfl rfl (rfl) (anyNumber_ct bs (k1 + 1 + 2) hb (by omega) (by omega))) (by simp) ?_
      rintro σ2 ⟨r, o', ⟨⟨v', hv2, hv3, rfl⟩, rfl⟩, hσ⟩
      obtain rfl := Option.some.inj hσ
      clear hσ
      refine drnL [6] (by kernel_rfl) (by kernel_rfl) rfl rfl ?_
      refine AHL_oneDid 7 rfl (by kernel_rfl) rfl rfl (dA_step rfl) (mdOk rfl) ?_
      refine AHL_oneDid 8 rfl (by kernel_rfl) rfl rfl (dA_append (old := (f.named).map eP) (rows := ([⟨v, v'⟩] : List Pair).map eP) (((f.named) ++ ([⟨v, v'⟩] : List Pair)).map eP) (f.named.length + 1) true (Dst.own rfl rfl rfl rfl rfl (by first | (simp; done) | (simp; omega)) (whole (by first | (simp; done) | (simp; omega)))) (Src.os rfl rfl (Nat.le_refl 1) rfl) rfl rfl rfl rfl rfl rfl rfl rfl (rows_len eP_len _) (rows_len eP_len _) (by (try simp only [List.length_map, List.length_append, List.length_cons, List.length_nil, List.length_take, List.length_drop]); show _ * 24 ≤ _; omega) (by first | (simp; done) | (simp; omega)) (by simp) (by first | (simp; done) | (simp; omega)) (fun _ => noOwnR_map _ eP_noOwn _)) (mdOk rfl) ?_
      refine drnL [9] (by kernel_rfl) (by kernel_rfl) rfl rfl ?_
      refine AHL_lateDid 10 rfl (by kernel_rfl) rfl rfl (dA_step rfl) ?_
      refine AH_end (by kernel_rfl) ?_
      refine rn rfl ?_
      refine rn rfl (fin_is [] rfl ⟨⟨f.places, f.named ++ [⟨v, v'⟩]⟩, _, ⟨by simp; omega, by simp; omega, ?_, ?_, hf.nums⟩, ?_, ?_, ?_, rfl⟩)
      · intro p hp; simp at hp; rcases hp with hp | rfl
        · exact hf.names p hp
        · exact hv
      · intro p hp; simp at hp; rcases hp with hp | rfl
        · exact hf.vals p hp
        · exact ⟨hv2, hv3⟩
      · omega
      · omega
      · rw [takeAll eI _ _ rfl, takeAll eP _ _ (by simp)]; rfl
    · refine rn rfl ?_
      refine goal_cond rfl (fun h3 => ?_) (fun h3 => ?_) <;> (try simp only [gt_iff_lt, ge_iff_le, bne_iff_ne, ne_eq, bne_eq_false_iff_eq, beq_iff_eq, beq_eq_false_iff_ne, Bool.not_eq_true', Bool.not_eq_false', decide_eq_true_eq, decide_eq_false_iff_not, List.length_map] at h3)
      · refine rn rfl ?_
        refine goal_did rfl rfl (dA_make 9 ((List.replicate 9 (0 : Int)).map eI) rfl rfl rfl rfl rfl rfl rfl rfl rfl rfl (by decide) (by omega) rfl) ?_
        refine rn rfl ?_
        refine rn rfl (fin_is [] rfl ⟨⟨List.replicate 9 0, f.named⟩, _, ⟨by simp, by simp; omega, hf.names, hf.vals, ?_⟩, ?_, ?_, ?_, rfl⟩)
        · intro n hn; simp at hn; omega
        · omega
        · omega
        · rw [takeAll eP _ _ rfl]; rfl
      · refine rn rfl ?_
        refine rn rfl (fin_is [] rfl ⟨f, _, ⟨by omega, by omega, hf.names, hf.vals, hf.nums⟩, ?_, ?_, ?_, rfl⟩)
        · omega
        · omega
        · rw [takeAll eI _ _ rfl, takeAll eP _ _ rfl]; rfl

theorem Small.long {f : Flat} {a b : Nat} (h : Small f a b) : ∀ p ∈ f.named, p.name.length ≤ 9223372036854775807 := fun p hp => by have := h.names p hp; omega

theorem tellF (f : Flat) (b : Bool) : T.tup [.agg [.fs (List.take f.places.length (List.drop 0 (f.places.map eI))), .fs (List.take f.named.length (List.drop 0 (f.named.map eP)))], .one (.bool b)] = .tup [.agg (eF f), .one (.bool b)] := by
  rw [takeAll eI _ _ rfl, takeAll eP _ _ rfl]; rfl

structure OkF (f : Flat) : Prop where
  pairs : ∀ p ∈ f.named, okPair p = true
  nodup : (namesOf f.named).Nodup
  vals : ∀ n ∈ f.places, okVal n = true
  places : f.places.length ≤ 8
  named : f.named.length ≤ 8

theorem okFlat_iff {f : Flat} : okFlat f = true ↔ OkF f := by
  simp only [okFlat, Bool.and_eq_true, List.all_eq_true, decide_eq_true_eq]
  exact ⟨fun ⟨⟨⟨⟨a, b⟩, c⟩, d⟩, e⟩ => ⟨a, b, c, d, e⟩, fun ⟨a, b, c, d, e⟩ => ⟨⟨⟨⟨a, b⟩, c⟩, d⟩, e⟩⟩

structure Param where
  name : Str
  kind : Int
  hasD : Bool
  dflt : Int
deriving DecidableEq

abbrev Sig := List Param

theorem eS_len (p : Str) : (eS p).length = 1 := rfl

theorem eS_noOwn (p : Str) : noOwnL (eS p) = true := rfl

def ownS (xs : List Str) : Option AObj := some ⟨1, xs.map eS, true, false, false⟩

def placedQ (p : Param) : Bool := p.kind == 0 || p.kind == 1

def singleQ (p : Param) : Bool := placedQ p || p.kind == 3

def okQ (p : Param) : Bool := okName p.name && inR p.kind 0 4 && okVal p.dflt && (p.hasD || p.dflt == 0) && (singleQ p || !p.hasD)

def nextQ (l p : Param) : Bool := decide (l.kind ≤ p.kind) && (p.kind != l.kind || singleQ p) && (!placedQ p || !l.hasD || p.hasD)

theorem take_snoc {α : Type} {xs : List α} {i : Nat} {x : α} (h : xs[i]? = some x) : xs.take i ++ [x] = xs.take (i + 1) := by
  rw [List.take_add_one, h]; rfl

theorem clipS_ct (xs : List Str) (kc : Nat) (hk : xs.length ≤ kc) :
    ACalls pk 93 [.one (.os 0 0 xs.length kc)] [ownS xs] (fun r o => r = .one (.os 0 0 xs.length xs.length) ∧ o = [ownS xs]) := by
  refine acalls_of_body Try.func93 rfl (by kernel_rfl) rfl ?_
  refine rn rfl ?_
  refine goal_did rfl rfl (dA_sliceOwn 0 xs.length xs.length 0 xs.length xs.length rfl rfl rfl rfl rfl rfl rfl Bnd.none_ (Bnd.some_ rfl rfl) (.inr ⟨by simp, by simp, Bnd.some_ rfl rfl⟩) (by omega) (by omega) hk (by simp) rfl rfl rfl rfl) ?_
  exact rn rfl (fin_is [] rfl ⟨rfl, rfl⟩)

structure OkS (s : Sig) : Prop where
  params : ∀ p ∈ s, okQ p = true
  nodup : (s.map Param.name).Nodup
  next : ∀ (i : Nat) (l p : Param), s[i]? = some l → s[i + 1]? = some p → nextQ l p = true
  len : s.length ≤ 8

theorem nextQ_kind {l p : Param} (h : nextQ l p = true) : l.kind ≤ p.kind ∧ (singleQ p = false → l.kind < p.kind) ∧ (placedQ p = true → l.hasD = true → p.hasD = true) := by
  simp only [nextQ, Bool.and_eq_true, decide_eq_true_eq, Bool.or_eq_true, bne_iff_ne, ne_eq, Bool.not_eq_true'] at h
  refine ⟨h.1.1, fun hs => ?_, fun h1 h2 => ?_⟩
  · rcases h.1.2 with h3 | h3
    · omega
    · rw [hs] at h3; cases h3
  · rcases h.2 with (h3 | h3) | h3
    · rw [h1] at h3; cases h3
    · rw [h2] at h3; cases h3
    · exact h3

theorem OkS.sorted {s : Sig} (h : OkS s) : ∀ (d i : Nat) (l p : Param), s[i]? = some l → s[i + d]? = some p → l.kind ≤ p.kind
  | 0, i, l, p, hl, hp => by rw [Nat.add_zero, hl] at hp; cases hp; exact Int.le_refl _
  | d + 1, i, l, p, hl, hp => by
    obtain ⟨q, hq⟩ := at_some (xs := s) (i := i + d) (by have := lt_of_some hp; omega)
    have h1 := OkS.sorted h d i l q hl hq
    have h2 := (nextQ_kind (h.next (i + d) q p hq hp)).1
    omega

theorem OkS.sortedLt {s : Sig} (h : OkS s) {i j : Nat} {l p : Param} (hij : i < j) (hl : s[i]? = some l) (hp : s[j]? = some p) (hs : singleQ p = false) : l.kind < p.kind := by
  obtain ⟨q, hq⟩ := at_some (xs := s) (i := j - 1) (by have := lt_of_some hp; omega)
  have h1 := h.sorted (j - 1 - i) i l q hl (by rw [show i + (j - 1 - i) = j - 1 by omega]; exact hq)
  have h2 := (nextQ_kind (h.next (j - 1) q p hq (by rw [show j - 1 + 1 = j by omega]; exact hp))).2.1 hs
  omega

theorem single_kind {p : Param} : singleQ p = true ↔ p.kind = 0 ∨ p.kind = 1 ∨ p.kind = 3 := by
  simp only [singleQ, placedQ, Bool.or_eq_true, beq_iff_eq]; omega

/-- Of the kinds of which there is one parameter at most. -/
theorem OkS.one {s : Sig} (h : OkS s) {i j : Nat} {l p : Param} (hl : s[i]? = some l) (hp : s[j]? = some p) (hk : l.kind = p.kind) (hs : singleQ p = false) : i = j := by
  have hs' : singleQ l = false := by
    cases hx : singleQ l with
    | false => rfl
    | true => rw [single_kind, hk, ← single_kind, hs] at hx; cases hx
  rcases Nat.lt_trichotomy i j with h1 | h1 | h1
  · have := h.sortedLt h1 hl hp hs; omega
  · exact h1
  · have := h.sortedLt h1 hp hl hs'; omega

structure Slot where
  given : Bool
  list : List Int
  pairs : List Pair
deriving DecidableEq

abbrev Bnds := List Slot

variable {N np : Nat} {σ : State}

theorem single_four {p : Param} (h : p.kind = 4) : singleQ p = false := by
  cases hz : singleQ p with
  | false => rfl
  | true => rw [single_kind] at hz; omega

/-- What the map has got. -/
def MapHas (s : Sig) (b : Bnds) (ps : List Pair) : Prop := ∀ (i : Nat) (p : Param) (x : Slot), s[i]? = some p → b[i]? = some x → p.kind = 4 → x.pairs = ps

theorem MapHas.set {s : Sig} {b : Bnds} {ps : List Pair} (h : MapHas s b ps) {i : Nat} {p : Param} {y : Slot} (hp : s[i]? = some p) (hk : p.kind ≠ 4) : MapHas s (b.set i y) ps := by
  intro j q x hq hx hqk
  rw [List.getElem?_set] at hx
  by_cases hij : i = j
  · subst hij; rw [hp] at hq; cases hq; exact absurd hqk hk
  · rw [if_neg hij] at hx; exact h j q x hq hx hqk

theorem MapHas.put {s : Sig} (hs : OkS s) {b : Bnds} {ps : List Pair} {i : Nat} {p : Param} {y : Slot} (hp : s[i]? = some p) (hk : p.kind = 4) (hy : y.pairs = ps) : MapHas s (b.set i y) ps := by
  intro j q x hq hx hqk
  have hij : i = j := hs.one hp hq (by omega) (single_four hqk)
  subst hij
  rw [List.getElem?_set] at hx
  split at hx
  · split at hx
    · cases hx; exact hy
    · cases hx
  · rename_i h0; exact absurd rfl h0

structure LenF (f : Flat) : Prop where
  places : f.places.length ≤ 1048576
  named : f.named.length ≤ 1048576
  names : ∀ p ∈ f.named, p.name.length ≤ 9223372036854775807

theorem OkF.len {f : Flat} (h : OkF f) : LenF f := ⟨by have := h.places; omega, by have := h.named; omega, fun p hp => by
  have := h.pairs p hp
  simp only [okPair, okName, inR, Bool.and_eq_true, decide_eq_true_eq] at this
  omega⟩

theorem take_snoc' {α : Type} {xs : List α} {i : Nat} {x : α} (h : xs[i]? = some x) : xs.take i ++ [x] = xs.take (i + 1) := take_snoc h

theorem growI_ct (n : Nat) (hn : n ≤ 4194304) : ACalls pk 155 [.one nilSl, .one (.int .i64 n)] [] (fun r o => ∃ rows kc, r = .one (.os 0 0 0 kc) ∧ o = [some ⟨1, rows, true, false, false⟩] ∧ (n = 0 → rows = [] ∧ kc = 0)) := by
  have hw : IntKind.i64.wrap ((n : Int) - IntKind.i64.wrap (0 - 0)) = n := by rw [show IntKind.i64.wrap (0 - 0) = 0 from rfl, wrap64] <;> omega
  refine acalls_of_body Try.func155 rfl (by kernel_rfl) rfl ?_
  refine rn rfl ?_
  refine goal_cond rfl (fun h => ?_) (fun h => ?_) <;> (try simp only [gt_iff_lt, ge_iff_le, bne_iff_ne, ne_eq, bne_eq_false_iff_eq, beq_iff_eq, beq_eq_false_iff_ne, Bool.not_eq_true', Bool.not_eq_false', decide_eq_true_eq, decide_eq_false_iff_not, List.length_map] at h)
  · omega
  · refine rn rfl ?_
    refine goal_did rfl rfl (dA_capNil rfl rfl rfl rfl rfl) ?_
    refine rn rfl ?_
    rw [hw]
    refine goal_cond rfl (fun h2 => ?_) (fun h2 => ?_) <;> (try simp only [gt_iff_lt, ge_iff_le, bne_iff_ne, ne_eq, bne_eq_false_iff_eq, beq_iff_eq, beq_eq_false_iff_ne, Bool.not_eq_true', Bool.not_eq_false', decide_eq_true_eq, decide_eq_false_iff_not, List.length_map] at h2)
    · refine rn rfl ?_
      refine goal_did rfl rfl (dA_capNil rfl rfl rfl rfl rfl) ?_
      refine rn rfl ?_
      refine goal_did rfl rfl (dA_sliceNil rfl rfl rfl rfl rfl rfl rfl) ?_
      refine rn rfl ?_
      refine goal_did rfl rfl (dA_growMake n (List.replicate n (eI (0 : Int))) rfl rfl rfl (by omega) rfl rfl rfl rfl rfl rfl rfl rfl (by show n * 8 ≤ _; omega) (by omega) rfl) ?_
      refine rn rfl ?_
      refine goal_did rfl rfl (dA_sliceOwn 0 0 n 0 0 n rfl rfl rfl rfl rfl rfl rfl Bnd.none_ (Bnd.some_ rfl rfl) (.inl ⟨rfl, rfl⟩) (by omega) (by omega) (by omega) (by simp) rfl rfl rfl rfl) ?_
      refine rn rfl ?_
      exact fin_is [0] rfl ⟨_, _, rfl, rfl, fun h0 => by omega⟩
    · refine rn rfl ?_
      exact fin_adopt 4 0 1 [0] rfl ⟨_, _, rfl, rfl, fun _ => ⟨rfl, rfl⟩⟩

theorem concatI_ct (xss : List (List Int)) (hn : xss.length ≤ 1000) (hl : xss.flatten.length ≤ 4194304) :
    ACalls pk 90 [.one (.fs (xss.map fun xs => [.fs (xs.map eI)]))] [] (fun r o => r = .one (.os 0 0 xss.flatten.length xss.flatten.length) ∧ o = [ownI xss.flatten]) := by
  have hpre : ∀ i, (xss.take i).flatten.length ≤ xss.flatten.length := fun i => by
    conv => rhs; rw [← List.take_append_drop i xss, List.flatten_append, List.length_append]
    omega
  have hsucc : ∀ (i : Nat) (xs : List Int), xss[i]? = some xs → (xss.take (i + 1)).flatten = (xss.take i).flatten ++ xs := fun i xs h => by
    rw [← take_snoc' h, List.flatten_append]; simp
  refine acalls_of_body Try.func90 rfl (by kernel_rfl) rfl ?_
  refine rn rfl ?_
  refine goal_loop_keep (fun m σ => ∃ (n L q : Int) (i : Nat), n = i ∧ L = xss.length ∧ i ≤ xss.length ∧ m = xss.length - i ∧ q = ((xss.take i).flatten.length : Nat) ∧
      σ = ⟨[(11, .one (.int .i64 n)), (10, .one (.int .i64 L)), (9, .one (.fs (xss.map fun xs => [.fs (xs.map eI)]))), (3, .one (.int .i64 q)), (0, .one (.fs (xss.map fun xs => [.fs (xs.map eI)])))], [], []⟩) xss.length [11, 10, 9, 3, 0] [] rfl
    ⟨_, _, _, 0, rfl, by simp, by omega, by omega, rfl, rfl⟩ ?_
  rintro m σ ⟨n, L, q, i, rfl, rfl, hi, rfl, rfl, rfl⟩
  refine rn rfl ?_
  refine goal_cond rfl (fun h => ?_) (fun h => ?_) <;> (try simp only [gt_iff_lt, ge_iff_le, bne_iff_ne, ne_eq, bne_eq_false_iff_eq, beq_iff_eq, beq_eq_false_iff_ne, Bool.not_eq_true', Bool.not_eq_false', decide_eq_true_eq, decide_eq_false_iff_not, List.length_map] at h)
  · obtain ⟨xs, hxs⟩ := at_some (xs := xss) (i := i) (by omega)
    have h1 := hpre (i + 1)
    have h2 := hsucc i xs hxs
    rw [h2, List.length_append] at h1
    have hw : IntKind.i64.wrap (((xss.take i).flatten.length : Nat) + (xs.length : Int)) = (((xss.take i).flatten ++ xs).length : Nat) := by rw [List.length_append, wrap64] <;> omega
    refine rn rfl ?_
    refine goal_did rfl rfl (dA_index [.fs (xs.map eI)] rfl rfl rfl rfl rfl rfl rfl (by omega) (by simp; omega) (map_at (enc := fun xs : List Int => [C.fs (xs.map eI)]) (by simpa using hxs)) rfl) ?_
    refine rn rfl ?_
    refine goal_cond rfl (fun h0 => ?_) (fun _ => ?_)
    · simp only [List.length_map, decide_eq_true_eq] at h0; rw [hw] at h0; omega
    · refine rn rfl ?_
      refine round_keep (xss.length - (i + 1)) [11, 10, 9, 3, 0] [] (by omega) rfl ⟨_, _, _, i + 1, wrap64 (by omega) (by omega), rfl, by omega, rfl, ?_, rfl⟩
      rw [List.length_map, hw, h2]
  · rw [show i = xss.length by omega, List.take_length]
    refine rn rfl ?_
    refine round_ext ?_
    refine rn rfl ?_
    refine goal_step (step_callRaw rfl rfl rfl rfl rfl rfl (growI_ct xss.flatten.length hl)) ?_
    rintro σ2 ⟨r, o', ⟨rows0, kc0, rfl, rfl, hz⟩, hσ⟩
    obtain rfl := Option.some.inj hσ
    clear hσ
    refine rn rfl ?_
    refine goal_loop_keep (fun m σ => ∃ (n L : Int) (i l kc : Nat) (rows : List (List C)), n = i ∧ L = xss.length ∧ i ≤ xss.length ∧ m = xss.length - i ∧ l = (xss.take i).flatten.length ∧ ((rows = (xss.take i).flatten.map eI ∧ kc = l) ∨ (i = 0 ∧ rows = rows0 ∧ kc = kc0)) ∧
        σ = ⟨[(27, .one (.int .i64 n)), (26, .one (.int .i64 L)), (25, .one (.fs (xss.map fun xs => [.fs (xs.map eI)]))), (6, .one (.os 0 0 l kc))], [some ⟨1, rows, true, false, false⟩], []⟩) xss.length [27, 26, 25, 6] [0] rfl
      ⟨_, ((xss.map fun xs => [C.fs (xs.map eI)]).length : Int), 0, 0, kc0, rows0, rfl, by simp, by omega, by omega, rfl, .inr ⟨rfl, rfl, rfl⟩, rfl⟩ ?_
    rintro m σ ⟨n, L, i, l, kc, rows, rfl, rfl, hi, rfl, rfl, hrows, rfl⟩
    have hold : (xss.take i).flatten.map eI = rows.take (xss.take i).flatten.length := by
      rcases hrows with ⟨rfl, _⟩ | ⟨rfl, _, _⟩
      · exact (List.take_of_length_le (by rw [List.length_map]; exact Nat.le_refl _)).symm
      · simp
    have hle : (xss.take i).flatten.length ≤ rows.length := by
      have := congrArg List.length hold
      simp only [List.length_map, List.length_take] at this; omega
    refine rn rfl ?_
    refine goal_cond rfl (fun h => ?_) (fun h => ?_) <;> (try simp only [gt_iff_lt, ge_iff_le, bne_iff_ne, ne_eq, bne_eq_false_iff_eq, beq_iff_eq, beq_eq_false_iff_ne, Bool.not_eq_true', Bool.not_eq_false', decide_eq_true_eq, decide_eq_false_iff_not, List.length_map] at h)
    · obtain ⟨xs, hxs⟩ := at_some (xs := xss) (i := i) (by omega)
      have h1 := hpre (i + 1)
      have h2 := hsucc i xs hxs
      rw [h2, List.length_append] at h1
      refine rn rfl ?_
      refine goal_did rfl rfl (dA_index [.fs (xs.map eI)] rfl rfl rfl rfl rfl rfl rfl (by omega) (by simp; omega) (map_at (enc := fun xs : List Int => [C.fs (xs.map eI)]) (by simpa using hxs)) rfl) ?_
      refine rn rfl ?_
      refine goal_did rfl rfl (dA_append (old := (xss.take i).flatten.map eI) (rows := xs.map eI) (((xss.take i).flatten ++ xs).map eI) (((xss.take i).flatten ++ xs).length) true (Dst.own rfl rfl rfl rfl rfl hle hold) (Src.fs rfl) rfl rfl rfl rfl rfl rfl rfl rfl (rows_len eI_len _) (rows_len eI_len _) (by simp only [List.length_map]; show _ * 8 ≤ _; omega) (by simp only [List.length_map]; omega) (by rw [List.map_append]) (by rw [List.length_map]) (fun _ => noOwnR_map _ eI_noOwn _)) ?_
      refine rn rfl ?_
      refine round_keep (xss.length - (i + 1)) [27, 26, 25, 6] [1] (by omega) rfl ⟨_, _, i + 1, ((xss.take i).flatten ++ xs).length, ((xss.take i).flatten ++ xs).length, ((xss.take i).flatten ++ xs).map eI, wrap64 (by omega) (by omega), rfl, by omega, rfl, by rw [h2], .inl ⟨by rw [h2], rfl⟩, rfl⟩
    · rw [show i = xss.length by omega, List.take_length] at hrows hold ⊢
      refine rn rfl ?_
      refine round_ext ?_
      have hfin : rows = xss.flatten.map eI ∧ kc = xss.flatten.length := by
        rcases hrows with hr | ⟨h0, hr, hk⟩
        · exact hr
        · have hx : xss = [] := List.eq_nil_of_length_eq_zero (by omega)
          subst hx
          obtain ⟨q1, q2⟩ := hz rfl
          exact ⟨by rw [hr, q1]; rfl, by rw [hk, q2]; rfl⟩
      obtain ⟨rfl, rfl⟩ := hfin
      exact rn rfl (fin_is [0] rfl ⟨rfl, rfl⟩)

theorem spPair_eq (ps : List Pair) (p : Pair) : spPair ps p = putP ps p.name p.value := by
  unfold spPair putP
  split
  · rename_i h
    obtain ⟨_, hlt⟩ := pairIx_some h
    obtain ⟨q, hq⟩ := at_some hlt
    have hqn : q.name = p.name := by
      have := List.findIdx_getElem (w := hlt)
      rw [List.getElem?_eq_getElem hlt] at hq
      simp only [Option.some.injEq] at hq
      rw [hq] at this
      simpa [nameIs] using this
    rw [modify_set _ hq, hqn]
  · rfl

def overN (ps qs : List Pair) : List Pair := qs.foldl (fun ps p => putP ps p.name p.value) ps

def overQ (f g : Flat) : Flat := ⟨f.places ++ g.places, overN f.named g.named⟩

def OverF (f g : Flat) : Flat × Bool := if okFlat f && okFlat g then checkF (overQ f g) true else (zF, false)

theorem overN_len : ∀ (qs ps : List Pair), (overN ps qs).length ≤ ps.length + qs.length
  | [], ps => by simp [overN]
  | q :: qs, ps => by
    have h1 := overN_len qs (putP ps q.name q.value)
    have h2 := putP_length ps q.name q.value
    simp only [overN, List.foldl_cons, List.length_cons] at h1 ⊢
    omega

theorem overN_mem : ∀ {qs ps : List Pair} {p : Pair}, p ∈ overN ps qs → (∃ q ∈ ps, p.name = q.name) ∨ ∃ q ∈ qs, p.name = q.name
  | [], ps, p, h => .inl ⟨p, h, rfl⟩
  | q :: qs, ps, p, h => by
    rcases overN_mem (qs := qs) (ps := putP ps q.name q.value) h with ⟨r, hr, hn⟩ | ⟨r, hr, hn⟩
    · rcases putP_mem hr with h1 | ⟨r', hr', h1⟩
      · exact .inr ⟨q, by simp, by rw [hn, h1]⟩
      · exact .inl ⟨r', hr', by rw [hn, h1]⟩
    · exact .inr ⟨r, by simp [hr], hn⟩

theorem LenF.over {f g : Flat} (hf : LenF f) (hg : LenF g) : (overQ f g).places.length ≤ 2097152 ∧ (overQ f g).named.length ≤ 2097152 ∧ ∀ p ∈ (overQ f g).named, p.name.length ≤ 9223372036854775807 := by
  refine ⟨by have := hf.places; have := hg.places; simp [overQ]; omega, by have h := overN_len g.named f.named; have := hf.named; have := hg.named; simp only [overQ]; omega, fun p hp => ?_⟩
  rcases overN_mem hp with ⟨q, hq, hn⟩ | ⟨q, hq, hn⟩
  · rw [hn]; exact hf.names q hq
  · rw [hn]; exact hg.names q hq

theorem tellFl (f : Flat) : T.agg [.fs (List.take f.places.length (List.drop 0 (f.places.map eI))), .fs (List.take f.named.length (List.drop 0 (f.named.map eP)))] = .agg (eF f) := by
  rw [takeAll eI _ _ rfl, takeAll eP _ _ rfl]; rfl

theorem put_d (f : Flat) (n : Str) (v : Int) (h1 : f.places.length ≤ 1048576) (h2 : f.named.length ≤ 1048576) :
    ACalls pk 82 [.agg (eF f), .one (.str n), .one (.int .i64 v)] [] (fun r o => r = .agg (eF (putF f n v)) ∧ o = []) :=
  (put_ct f n v h1 h2).told [] (by rintro r o ⟨rfl, rfl⟩; exact ⟨_, _, rfl, tellFl _, rfl⟩)

theorem concatI_d (xss : List (List Int)) (hn : xss.length ≤ 1000) (hl : xss.flatten.length ≤ 4194304) :
    ACalls pk 90 [.one (.fs (xss.map fun xs => [.fs (xs.map eI)]))] [] (fun r o => r = .one (.fs (xss.flatten.map eI)) ∧ o = []) :=
  (concatI_ct xss hn hl).told [] (by rintro r o ⟨rfl, rfl⟩; exact ⟨_, _, rfl, congrArg (fun x => T.one (C.fs x)) (takeAll eI _ _ rfl), rfl⟩)

theorem iover_ct (f g : Flat) (hf : LenF f) (hg : LenF g) : ACalls pk 32 [.agg (eF f), .agg (eF g)] [] (fun r o => r = .tup [rF (OverF f g).1, .one (.bool (OverF f g).2)] ∧ o = oF (OverF f g).1) := by
  have a1 := hf.places
  have a2 := hf.named
  have b1 := hg.places
  have b2 := hg.named
  refine acalls_of_body Try.func32 rfl (by kernel_rfl) rfl ?_
  refine rn rfl ?_
  refine goal_step (step_call [] rfl rfl rfl rfl rfl rfl (ivalidFlat_ct f (by omega) (by omega) hf.names)) ?_
  rintro σ2 ⟨r, o', ⟨rfl, rfl⟩, hσ⟩
  obtain rfl := Option.some.inj hσ
  clear hσ
  refine rn rfl ?_
  refine goal_guard rfl rfl rfl (fun h => ?_) (fun h => ?_) <;> (try simp only [gt_iff_lt, ge_iff_le, bne_iff_ne, ne_eq, bne_eq_false_iff_eq, beq_iff_eq, beq_eq_false_iff_ne, Bool.not_eq_true', Bool.not_eq_false', decide_eq_true_eq, decide_eq_false_iff_not, List.length_map] at h)
  · refine rn rfl ?_
    refine fin_weak (Weak.adoptO 2 0 1) (fin_weak (Weak.adoptO 2 1 2) (fin_is [3, 4] rfl ⟨?_, ?_⟩))
    · simp [OverF, h]; rfl
    · simp [OverF, h]; rfl
  refine rn rfl ?_
  refine goal_step (step_call [] rfl rfl rfl rfl rfl rfl (ivalidFlat_ct g (by omega) (by omega) hg.names)) ?_
  rintro σ2 ⟨r, o', ⟨rfl, rfl⟩, hσ⟩
  obtain rfl := Option.some.inj hσ
  clear hσ
  refine rn rfl ?_
  refine goal_cond rfl (fun h2 => ?_) (fun h2 => ?_) <;> (try simp only [gt_iff_lt, ge_iff_le, bne_iff_ne, ne_eq, bne_eq_false_iff_eq, beq_iff_eq, beq_eq_false_iff_ne, Bool.not_eq_true', Bool.not_eq_false', decide_eq_true_eq, decide_eq_false_iff_not, List.length_map] at h2)
  · refine rn rfl ?_
    refine fin_weak (Weak.adoptO 2 0 1) (fin_weak (Weak.adoptO 2 1 2) (fin_is [3, 4] rfl ⟨?_, ?_⟩))
    · simp [OverF, h2]; rfl
    · simp [OverF, h2]; rfl
  have hF := okFlat_iff.1 h
  have hG := okFlat_iff.1 h2
  have f1 := hF.named
  have g1 := hG.named
  have f2 := hF.places
  have g2 := hG.places
  refine rt1 3 rfl ?_
  refine goal_cutR (fun σ => σ = ⟨[(6, .one (.op 3 0 0)), (4, .one (.op 2 0 0)), (3, .one (.op 1 0 0)), (2, .one (.op 0 0 0))],
      [some ⟨2, [eF f], false, false, true⟩, some ⟨2, [eF g], false, false, true⟩, some ⟨2, [[.fs [], .fs []]], false, false, true⟩, some ⟨2, [eF ⟨f.places ++ g.places, f.named⟩], false, false, true⟩], []⟩) ?_ ?_
  · have hc := concatI_d [f.places, g.places] (by simp) (by simp; omega)
    have hfl : [f.places, g.places].flatten = f.places ++ g.places := by simp
    rw [hfl] at hc
    refine goal_draw' [0, 1] 11 rfl ?_
    refine drn [0, 1, 2, 3, 6, 7] (by kernel_rfl) (by kernel_rfl) rfl rfl ?_
    refine AH_two (i := 4) (j := 9) (by kernel_rfl) (step_did rfl rfl (dA_step rfl)) (mdOk rfl) (step_did rfl rfl (dA_step rfl)) (mdOk rfl) ?_ ?_
    · rintro _ rfl
      refine AH_two (i := 5) (j := 9) (by kernel_rfl) (step_call [] rfl rfl rfl rfl rfl rfl (hc)) (by simp) (step_did rfl rfl (dA_step rfl)) (mdOk rfl) ?_ ?_
      · rintro σ2 ⟨r, o', ⟨rfl, rfl⟩, hσ⟩
        obtain rfl := Option.some.inj hσ
        clear hσ
        refine drn [8] (by kernel_rfl) (by kernel_rfl) rfl rfl ?_
        refine AH_oneDid 9 rfl (by kernel_rfl) rfl (dA_step rfl) (mdOk rfl) ?_
        refine AH_oneDid 10 rfl (by kernel_rfl) rfl (dA_step rfl) (mdOk rfl) ?_
        refine AH_end (by kernel_rfl) ?_
        refine rn rfl ?_
        exact cut_nrm [6, 4, 3, 2] [0, 1, 2, 4] rfl rfl
      · rintro _ rfl
        refine AH_one (i := 5) (by kernel_rfl) (step_call [] rfl rfl rfl rfl rfl rfl (hc)) (by simp) ?_
        rintro σ2 ⟨r, o', ⟨rfl, rfl⟩, hσ⟩
        obtain rfl := Option.some.inj hσ
        clear hσ
        refine drn [8] (by kernel_rfl) (by kernel_rfl) rfl rfl ?_
        refine AH_oneDid 10 rfl (by kernel_rfl) rfl (dA_step rfl) (mdOk rfl) ?_
        refine AH_end (by kernel_rfl) ?_
        refine rn rfl ?_
        exact cut_nrm [6, 4, 3, 2] [0, 1, 2, 4] rfl rfl
    · rintro _ rfl
      refine AH_oneDid 4 rfl (by kernel_rfl) rfl (dA_step rfl) (mdOk rfl) ?_
      refine AH_one (i := 5) (by kernel_rfl) (step_call [] rfl rfl rfl rfl rfl rfl (hc)) (by simp) ?_
      rintro σ2 ⟨r, o', ⟨rfl, rfl⟩, hσ⟩
      obtain rfl := Option.some.inj hσ
      clear hσ
      refine drn [8] (by kernel_rfl) (by kernel_rfl) rfl rfl ?_
      refine AH_oneDid 10 rfl (by kernel_rfl) rfl (dA_step rfl) (mdOk rfl) ?_
      refine AH_end (by kernel_rfl) ?_
      refine rn rfl ?_
      exact cut_nrm [6, 4, 3, 2] [0, 1, 2, 3] rfl rfl
  rintro _ rfl
  refine rn rfl ?_
  refine goal_loop_keep (fun m σ => ∃ (n L : Int) (i : Nat) (ps : List Pair), n = i ∧ L = g.named.length ∧ i ≤ g.named.length ∧ m = g.named.length - i ∧ ps = overN f.named (g.named.take i) ∧
      σ = ⟨[(30, .one (.int .i64 n)), (29, .one (.int .i64 L)), (28, .one (.fs (g.named.map eP))), (6, .one (.op 3 0 0)), (4, .one (.op 2 0 0)), (3, .one (.op 1 0 0)), (2, .one (.op 0 0 0))],
        [some ⟨2, [eF f], false, false, true⟩, some ⟨2, [eF g], false, false, true⟩, some ⟨2, [[.fs [], .fs []]], false, false, true⟩, some ⟨2, [eF ⟨f.places ++ g.places, ps⟩], false, false, true⟩], []⟩) g.named.length
    [30, 29, 28, 6, 4, 3, 2] [0, 1, 2, 3] rfl ⟨_, ((g.named.map eP).length : Int), 0, f.named, rfl, by simp, by omega, by omega, rfl, ?_⟩ ?_
  · rfl
  rintro m σ ⟨n, L, i, ps, rfl, rfl, hi, rfl, rfl, rfl⟩
  have hol := overN_len (g.named.take i) f.named
  rw [List.length_take] at hol
  refine rn rfl ?_
  refine goal_cond rfl (fun h => ?_) (fun h => ?_) <;> (try simp only [gt_iff_lt, ge_iff_le, bne_iff_ne, ne_eq, bne_eq_false_iff_eq, beq_iff_eq, beq_eq_false_iff_ne, Bool.not_eq_true', Bool.not_eq_false', decide_eq_true_eq, decide_eq_false_iff_not, List.length_map] at h)
  · obtain ⟨q, hq⟩ := at_some (xs := g.named) (i := i) (by omega)
    refine rn rfl ?_
    refine goal_did rfl rfl (dA_index (eP q) rfl rfl rfl rfl rfl rfl rfl (by omega) (by (try simp); omega) (map_at (by simpa using hq)) rfl) ?_
    refine rn rfl ?_
    refine goal_step (step_call [] rfl rfl rfl rfl rfl rfl (put_d ⟨f.places ++ g.places, overN f.named (g.named.take i)⟩ q.name q.value (by simp; omega) (by simp only; omega))) ?_
    rintro σ2 ⟨r, o', ⟨rfl, rfl⟩, hσ⟩
    obtain rfl := Option.some.inj hσ
    clear hσ
    refine rn rfl ?_
    refine round_keep (g.named.length - (i + 1)) [30, 29, 28, 6, 4, 3, 2] [0, 1, 2, 3] (by omega) rfl ⟨_, _, i + 1, _, wrap64 (by omega) (by omega), rfl, by omega, rfl, rfl, ?_⟩
    rw [show overN f.named (g.named.take (i + 1)) = putP (overN f.named (g.named.take i)) q.name q.value by unfold overN; rw [foldl_take_succ _ _ hq]]
    rfl
  · rw [show i = g.named.length by omega, List.take_length]
    obtain ⟨l1, l2, l3⟩ := hf.over hg
    have ho : OverF f g = checkF (overQ f g) true := by unfold OverF; rw [if_pos (by simp [h, h2, okFlat_iff.2 hF, okFlat_iff.2 hG])]
    rw [ho]
    refine rn rfl ?_
    refine round_ext ?_
    refine rn rfl ?_
    refine goal_step (step_call [] rfl rfl rfl rfl rfl rfl (checked_ct (overQ f g) true l1 l2 l3)) ?_
    rintro σ2 ⟨r, o', ⟨rfl, rfl⟩, hσ⟩
    obtain rfl := Option.some.inj hσ
    clear hσ
    refine rn rfl ?_
    exact rn rfl (fin_is [4, 5] rfl ⟨rfl, rfl⟩)

theorem checkedFlat_ct (f : Flat) (h1 : f.places.length ≤ 2097152) (h2 : f.named.length ≤ 2097152) (hn : ∀ p ∈ f.named, p.name.length ≤ 9223372036854775807) :
    ACalls pk 91 [.agg (eF f)] [] (fun r o => r = .tup [.agg (eF (checkF f true).1), .one (.bool (checkF f true).2)] ∧ o = []) := by
  refine acalls_of_body Try.func91 rfl (by kernel_rfl) rfl ?_
  refine rn rfl ?_
  refine goal_step (step_call [] rfl rfl rfl rfl rfl rfl (svalidFlat_ct f h1 h2 hn)) ?_
  rintro σ2 ⟨r, o', ⟨rfl, rfl⟩, hσ⟩
  obtain rfl := Option.some.inj hσ
  clear hσ
  refine rn rfl ?_
  refine goal_cond rfl (fun h => ?_) (fun h => ?_) <;> (try simp only [gt_iff_lt, ge_iff_le, bne_iff_ne, ne_eq, bne_eq_false_iff_eq, beq_iff_eq, beq_eq_false_iff_ne, Bool.not_eq_true', Bool.not_eq_false', decide_eq_true_eq, decide_eq_false_iff_not, List.length_map] at h)
  · refine rn rfl (fin_is [] rfl ⟨?_, rfl⟩)
    simp [checkF, h]; rfl
  · refine rn rfl (fin_is [] rfl ⟨?_, rfl⟩)
    simp [checkF, h]; rfl

/-- The flat's own copy, its places own memory, its names told zs data. -/
theorem sover_ct (f g : Flat) (hf : LenF f) (hg : LenF g) (hfn : f.named.length ≤ 100) (hgn : g.named.length ≤ 100) : ACalls pk 92 [.agg (eF f), .agg (eF g)] [] (fun r o => r = .agg (eF (overQ f g)) ∧ o = []) := by
  have a1 := hf.places
  have a2 := hf.named
  have b1 := hg.places
  have b2 := hg.named
  refine acalls_of_body Try.func92 rfl (by kernel_rfl) rfl ?_
  refine rn rfl ?_
  refine goal_step (step_call [] rfl rfl rfl rfl rfl rfl (copyFlat_ct f (by omega) (by omega))) ?_
  rintro σ2 ⟨r, o', ⟨rfl, rfl⟩, hσ⟩
  obtain rfl := Option.some.inj hσ
  clear hσ
  refine rn rfl ?_
  refine goal_did rfl rfl (dA_append (old := (f.places).map eI) (rows := (g.places : List Int).map eI) (((f.places) ++ (g.places : List Int)).map eI) (f.places.length + g.places.length) true (Dst.own rfl rfl rfl rfl rfl (by first | (simp; done) | (simp; omega)) (whole (by first | (simp; done) | (simp; omega)))) (Src.fs rfl) rfl rfl rfl rfl rfl rfl rfl rfl (rows_len eI_len _) (rows_len eI_len _) (by (try simp only [List.length_map, List.length_append, List.length_cons, List.length_nil, List.length_take, List.length_drop]); show _ * 8 ≤ _; omega) (by first | (simp; done) | (simp; omega)) (by simp) (by first | (simp; done) | (simp; omega)) (fun _ => noOwnR_map _ eI_noOwn _)) ?_
  refine rn rfl ?_
  refine goal_keepE [6, 5, 4, 3, 2] [0, 1, 2, 5, 6] [4] rfl rfl rfl (cons_eq rfl (cons_eq rfl (cons_eq rfl (cons_eq (b := some ⟨2, [[.os 4 0 (f.places.length + g.places.length) (f.places.length + g.places.length), .fs (f.named.map eP)]], false, false, true⟩) ?_ (cons_eq rfl rfl))))) ?_
  · exact congrArg (fun c => some (AObj.mk 2 [[.os 4 0 (f.places.length + g.places.length) (f.places.length + g.places.length), c]] false false true)) (congrArg C.fs (takeAll eP _ _ rfl))
  refine goal_loop_keep (fun m σ => ∃ (n : Int) (i : Nat) (ps : List Pair), n = i ∧ i ≤ g.named.length ∧ m = g.named.length - i ∧ ps = overN f.named (g.named.take i) ∧
      σ = ⟨[(6, .one (.int .i64 n)), (5, .one (.op 3 0 0)), (4, .one (.op 2 0 0)), (3, .one (.op 1 0 0)), (2, .one (.op 0 0 0))],
        [some ⟨2, [eF f], false, false, true⟩, some ⟨2, [eF g], false, false, true⟩, some ⟨2, [[.fs [], .fs []]], false, false, true⟩, some ⟨2, [[.os 4 0 (f.places.length + g.places.length) (f.places.length + g.places.length), .fs (ps.map eP)]], false, false, true⟩, ownI (f.places ++ g.places)], []⟩) g.named.length
    [6, 5, 4, 3, 2] [0, 1, 2, 3, 4] rfl ⟨_, 0, f.named, rfl, by omega, by omega, rfl, ?_⟩ ?_
  · rfl
  rintro m σ ⟨n, i, ps, rfl, hi, rfl, rfl, rfl⟩
  have hol := overN_len (g.named.take i) f.named
  rw [List.length_take] at hol
  refine rn rfl ?_
  refine goal_cond rfl (fun h => ?_) (fun h => ?_) <;> (try simp only [gt_iff_lt, ge_iff_le, bne_iff_ne, ne_eq, bne_eq_false_iff_eq, beq_iff_eq, beq_eq_false_iff_ne, Bool.not_eq_true', Bool.not_eq_false', decide_eq_true_eq, decide_eq_false_iff_not, List.length_map] at h)
  · obtain ⟨q, hq⟩ := at_some (xs := g.named) (i := i) (by omega)
    have hst : spPair (overN f.named (g.named.take i)) q = overN f.named (g.named.take (i + 1)) := by
      rw [spPair_eq]; unfold overN; rw [foldl_take_succ _ _ hq]
    have hput := putPair_ct (overN f.named (g.named.take i)) q (by omega)
    rw [hst] at hput
    refine rn rfl ?_
    refine goal_drawL [0, 1, 3] [9] 10 rfl ?_
    refine drnL [0, 1, 2, 3, 4] (by kernel_rfl) (by kernel_rfl) rfl rfl ?_
    refine AHL_did 5 rfl (by kernel_rfl) (by kernel_rfl) (by kernel_rfl) (by kernel_rfl) rfl rfl (dA_index (eP q) rfl rfl rfl rfl rfl rfl rfl (by omega) (by (try simp); omega) (map_at (by simpa using hq)) rfl) ?_
    refine drnL [6] (by kernel_rfl) (by kernel_rfl) rfl rfl ?_
    refine AHL_one (i := 7) (by kernel_rfl) rfl (step_call [] rfl rfl rfl rfl rfl rfl (hput)) (by simp) ?_
    rintro σ2 ⟨r, o', ⟨rfl, rfl⟩, hσ⟩
    obtain rfl := Option.some.inj hσ
    clear hσ
    refine drnL [8] (by kernel_rfl) (by kernel_rfl) rfl rfl ?_
    refine AHL_lateDid 9 rfl (by kernel_rfl) rfl rfl (dA_step rfl) ?_
    refine AH_end (by kernel_rfl) ?_
    refine rn rfl ?_
    refine round_keepF (g.named.length - (i + 1)) [6, 5, 4, 3, 2] [0, 1, 2, 3, 4] [5] (by omega) rfl rfl ⟨_, i + 1, _, wrap64 (by omega) (by omega), by omega, rfl, rfl, keepS_eq rfl (cons_eq rfl (cons_eq rfl (cons_eq rfl (cons_eq ?_ (cons_eq rfl rfl)))))⟩
    exact congrArg (fun c => some (AObj.mk 2 [[.os 4 0 (f.places.length + g.places.length) (f.places.length + g.places.length), c]] false false true)) (congrArg C.fs (takeAll eP _ _ rfl))
  · rw [show i = g.named.length by omega, List.take_length]
    refine rn rfl ?_
    refine round_ext ?_
    refine rn rfl (fin_is [] rfl ⟨?_, rfl⟩)
    rw [takeAll eI _ _ (by simp)]; rfl

theorem soverFlat_ct (f g : Flat) (hf : LenF f) (hg : LenF g) : ACalls pk 33 [.agg (eF f), .agg (eF g)] [] (fun r o => r = .tup [.agg (eF (OverF f g).1), .one (.bool (OverF f g).2)] ∧ o = []) := by
  have a1 := hf.places
  have a2 := hf.named
  have b1 := hg.places
  have b2 := hg.named
  refine acalls_of_body Try.func33 rfl (by kernel_rfl) rfl ?_
  refine rn rfl ?_
  refine goal_step (step_call [] rfl rfl rfl rfl rfl rfl (svalidFlat_ct f (by omega) (by omega) hf.names)) ?_
  rintro σ2 ⟨r, o', ⟨rfl, rfl⟩, hσ⟩
  obtain rfl := Option.some.inj hσ
  clear hσ
  refine rn rfl ?_
  refine goal_guard rfl rfl rfl (fun h => ?_) (fun h => ?_) <;> (try simp only [gt_iff_lt, ge_iff_le, bne_iff_ne, ne_eq, bne_eq_false_iff_eq, beq_iff_eq, beq_eq_false_iff_ne, Bool.not_eq_true', Bool.not_eq_false', decide_eq_true_eq, decide_eq_false_iff_not, List.length_map] at h)
  · refine rn rfl (fin_is [] rfl ⟨?_, rfl⟩)
    simp [OverF, h]; rfl
  refine rn rfl ?_
  refine goal_step (step_call [] rfl rfl rfl rfl rfl rfl (svalidFlat_ct g (by omega) (by omega) hg.names)) ?_
  rintro σ2 ⟨r, o', ⟨rfl, rfl⟩, hσ⟩
  obtain rfl := Option.some.inj hσ
  clear hσ
  refine rn rfl ?_
  refine goal_cond rfl (fun h2 => ?_) (fun h2 => ?_) <;> (try simp only [gt_iff_lt, ge_iff_le, bne_iff_ne, ne_eq, bne_eq_false_iff_eq, beq_iff_eq, beq_eq_false_iff_ne, Bool.not_eq_true', Bool.not_eq_false', decide_eq_true_eq, decide_eq_false_iff_not, List.length_map] at h2)
  · refine rn rfl (fin_is [] rfl ⟨?_, rfl⟩)
    simp [OverF, h2]; rfl
  have hF := okFlat_iff.1 h
  have hG := okFlat_iff.1 h2
  have ho : OverF f g = checkF (overQ f g) true := by unfold OverF; rw [if_pos (by simp [h, h2, okFlat_iff.2 hF, okFlat_iff.2 hG])]
  obtain ⟨l1, l2, l3⟩ := hf.over hg
  rw [ho]
  refine rn rfl ?_
  refine goal_step (step_call [] rfl rfl rfl rfl rfl rfl (sover_ct f g hf hg (by have := hF.named; omega) (by have := hG.named; omega))) ?_
  rintro σ2 ⟨r, o', ⟨rfl, rfl⟩, hσ⟩
  obtain rfl := Option.some.inj hσ
  clear hσ
  refine rn rfl ?_
  refine goal_step (step_call [] rfl rfl rfl rfl rfl rfl (checkedFlat_ct (overQ f g) l1 l2 l3)) ?_
  rintro σ2 ⟨r, o', ⟨rfl, rfl⟩, hσ⟩
  obtain rfl := Option.some.inj hσ
  clear hσ
  refine rn rfl ?_
  exact rn rfl (fin_is [] rfl ⟨rfl, rfl⟩)

structure Shp where
  count : Int
  names : List Str

def eX (x : Shp) : List C := [.int .i64 x.count, .fs (x.names.map eS)]

def rX (x : Shp) : T := .agg [.int .i64 x.count, .os 0 0 x.names.length x.names.length]

def oX (x : Shp) : List (Option AObj) := [ownS x.names]

def shapeF (f : Flat) : Shp := if okFlat f then ⟨f.places.length, namesOf (sortL f.named)⟩ else ⟨0, []⟩

theorem byNameD_ct (xs : List Pair) (hl : xs.length ≤ 12) : ACalls pk 85 [.one (.fs (xs.map eP))] [] (fun r o => r = .one (.fs ((isortL ltN xs).map eP)) ∧ o = []) :=
  (byName_ct xs hl).told [] (by rintro r o ⟨rfl, rfl⟩; exact ⟨_, _, rfl, congrArg (fun x => T.one (C.fs x)) (takeAll eP _ _ (isortL_length _ _)), rfl⟩)

theorem namesOf_take_succ {xs : List Pair} {i : Nat} {x : Pair} (h : xs[i]? = some x) : namesOf (xs.take (i + 1)) = namesOf (xs.take i) ++ [x.name] := by
  rw [← take_snoc h]; simp [namesOf]

theorem ishape_ct (f : Flat) (h1 : f.places.length ≤ 1048576) (h2 : f.named.length ≤ 1048576) (hn : ∀ p ∈ f.named, p.name.length ≤ 9223372036854775807) :
    ACalls pk 34 [.agg (eF f)] [] (fun r o => r = rX (shapeF f) ∧ o = oX (shapeF f)) := by
  refine acalls_of_body Try.func34 rfl (by kernel_rfl) rfl ?_
  refine rn rfl ?_
  refine goal_step (step_call [] rfl rfl rfl rfl rfl rfl (ivalidFlat_ct f (by omega) (by omega) hn)) ?_
  rintro σ2 ⟨r, o', ⟨rfl, rfl⟩, hσ⟩
  obtain rfl := Option.some.inj hσ
  clear hσ
  refine rn rfl ?_
  refine goal_cond rfl (fun h => ?_) (fun h => ?_) <;> (try simp only [gt_iff_lt, ge_iff_le, bne_iff_ne, ne_eq, bne_eq_false_iff_eq, beq_iff_eq, beq_eq_false_iff_ne, Bool.not_eq_true', Bool.not_eq_false', decide_eq_true_eq, decide_eq_false_iff_not, List.length_map] at h)
  · refine rn rfl ?_
    refine fin_weak (Weak.adoptO 1 1 1) (fin_is [2] rfl ⟨?_, ?_⟩)
    · simp [shapeF, h]; rfl
    · simp [shapeF, h]; rfl
  · have hle : f.named.length ≤ 8 := by simp [okFlat] at h; omega
    have hnd : (namesOf f.named).Nodup := by simp [okFlat] at h; exact h.1.1.1.2
    have hsl := sortL_length f.named
    refine rn rfl ?_
    refine goal_step (step_call [] rfl rfl rfl rfl rfl rfl (byNameD_ct f.named (by omega))) ?_
    rintro σ2 ⟨r, o', ⟨rfl, rfl⟩, hσ⟩
    obtain rfl := Option.some.inj hσ
    clear hσ
    refine rn rfl ?_
    rw [sorts_eq _ hnd]
    refine rn rfl ?_
    refine goal_weakCod (Weak.adopt 3 0 1) ?_
    have hsh : shapeF f = ⟨f.places.length, namesOf (sortL f.named)⟩ := by simp [shapeF, h]
    rw [hsh]
    generalize sortL f.named = S at hsl ⊢
    refine goal_loop_keep (fun m σ => ∃ (n : Int) (i l : Nat) (acc : List Str), n = i ∧ i ≤ S.length ∧ m = S.length - i ∧ l = acc.length ∧ acc = namesOf (S.take i) ∧
      σ = ⟨[(14, .one (.int .i64 n)), (13, .one (.int .i64 (S.map eP).length)), (12, .one (.fs (S.map eP))), (3, .one (.os 2 0 l l)), (2, .one (.op 1 0 0)), (1, .one (.op 0 0 0))],
        [some ⟨2, [eF f], false, false, true⟩, some ⟨2, [[.int .i64 0, .fs []]], false, false, true⟩, ownS acc], []⟩) S.length [14, 13, 12, 3, 2, 1] [0, 1, 2] rfl
      ⟨_, 0, 0, [], rfl, by omega, by omega, rfl, rfl, rfl⟩ ?_
    rintro m σ ⟨n, i, l, acc, rfl, hi, rfl, rfl, hacc, rfl⟩
    have hlen : acc.length = i := by rw [hacc]; simp [namesOf]; omega
    refine rn rfl ?_
    refine goal_cond rfl (fun h3 => ?_) (fun h3 => ?_) <;> (try simp only [gt_iff_lt, ge_iff_le, bne_iff_ne, ne_eq, bne_eq_false_iff_eq, beq_iff_eq, beq_eq_false_iff_ne, Bool.not_eq_true', Bool.not_eq_false', decide_eq_true_eq, decide_eq_false_iff_not, List.length_map] at h3)
    · obtain ⟨p, hp⟩ := at_some (xs := S) (i := i) (by omega)
      refine rn rfl ?_
      refine goal_did rfl rfl (dA_index (eP p) rfl rfl rfl rfl rfl rfl rfl (by omega) (by (try simp); omega) (map_at (by simpa using hp)) rfl) ?_
      refine rn rfl ?_
      refine goal_did rfl rfl (dA_append (old := (acc).map eS) (rows := ([p.name] : List Str).map eS) (((acc) ++ ([p.name] : List Str)).map eS) (acc.length + 1) true (Dst.own rfl rfl rfl rfl rfl (by first | (simp; done) | (simp; omega)) (whole (by first | (simp; done) | (simp; omega)))) (Src.os rfl rfl (Nat.le_refl 1) rfl) rfl rfl rfl rfl rfl rfl rfl rfl (rows_len eS_len _) (rows_len eS_len _) (by (try simp only [List.length_map, List.length_append, List.length_cons, List.length_nil, List.length_take, List.length_drop]); show _ * 16 ≤ _; omega) (by first | (simp; done) | (simp; omega)) (by simp) (by first | (simp; done) | (simp; omega)) (fun _ => noOwnR_map _ eS_noOwn _)) ?_
      refine rn rfl ?_
      refine round_keep (S.length - (i + 1)) [14, 13, 12, 3, 2, 1] [0, 1, 5] (by omega) rfl ⟨_, i + 1, acc.length + 1, acc ++ [p.name], wrap64 (by omega) (by omega), by omega, rfl, by simp, by rw [namesOf_take_succ hp, hacc], rfl⟩
    · refine rn rfl ?_
      refine round_ext ?_
      refine rn rfl ?_
      have hi' : i = S.length := by omega
      have hacc' : acc = namesOf S := by rw [hacc, hi', List.take_length]
      rw [← hacc']
      refine goal_draw' [0] 7 rfl ?_
      refine drn [0, 1, 2, 3] (by kernel_rfl) (by kernel_rfl) rfl rfl ?_
      refine AH_one (i := 4) (by kernel_rfl) (step_call [2] rfl rfl rfl rfl rfl rfl (clipS_ct acc _ (by omega))) (by simp) ?_
      rintro σ2 ⟨r, o', ⟨rfl, rfl⟩, hσ⟩
      obtain rfl := Option.some.inj hσ
      clear hσ
      refine drn [5] (by kernel_rfl) (by kernel_rfl) rfl rfl ?_
      refine AH_oneDid 6 rfl (by kernel_rfl) rfl (dA_step rfl) (mdOk rfl) ?_
      refine AH_end (by kernel_rfl) ?_
      refine rn rfl ?_
      exact rn rfl (fin_is [2] rfl ⟨by simp [rX], rfl⟩)

theorem asX (x : Shp) : T.agg [C.int .i64 x.count, C.fs (List.take x.names.length (List.drop 0 (x.names.map eS)))] = T.agg (eX x) := by rw [takeAll eS _ _ rfl]; rfl

theorem ishapeD_ct (f : Flat) (h1 : f.places.length ≤ 1048576) (h2 : f.named.length ≤ 1048576) (hn : ∀ p ∈ f.named, p.name.length ≤ 9223372036854775807) :
    ACalls pk 34 [.agg (eF f)] [] (fun r o => r = .agg (eX (shapeF f)) ∧ o = []) :=
  (ishape_ct f h1 h2 hn).told [] (by rintro r o ⟨rfl, rfl⟩; exact ⟨_, _, rfl, asX _, rfl⟩)

theorem shape_len (f : Flat) (h2 : f.named.length ≤ 1048576) : (shapeF f).names.length ≤ 1048576 := by
  unfold shapeF
  split
  · simpa [namesOf, sortL_length] using h2
  · simp

theorem copyFlatD_ct (f : Flat) (h1 : f.places.length ≤ 2097152) (h2 : f.named.length ≤ 2097152) :
    ACalls pk 77 [.agg (eF f)] [] (fun r o => r = .agg (eF f) ∧ o = []) :=
  (copyFlat_ct f h1 h2).told [] (by rintro r o ⟨rfl, rfl⟩; exact ⟨_, _, rfl, by rw [takeAll eI _ _ rfl, takeAll eP _ _ rfl]; rfl, rfl⟩)

theorem twoFlats_ct (bs : Str) (k : Int) (hb : bs.length ≤ 2000) (hk : 0 ≤ k) (hk' : k ≤ 1073730000) :
    ACalls pk 89 [.one (.op 0 0 0)] [oR bs k] (fun r o => ∃ f g k', Small f 9 4 ∧ Small g 9 4 ∧ k ≤ k' ∧ k' ≤ k + 100 ∧ r = .tup [.agg (eF f), .agg (eF g)] ∧ o = [oR bs k']) := by
  refine acalls_of_body Try.func89 rfl (by kernel_rfl) rfl ?_
  refine rn rfl ?_
  refine goal_step (step_callE [0] rfl rfl rfl rfl rfl rfl (rfl) (someFlat_ct bs k hb hk (by omega))) ?_
  rintro σ2 ⟨r, o', ⟨f, k1, hf, hk1, hk2, rfl, rfl⟩, hσ⟩
  obtain rfl := Option.some.inj hσ
  clear hσ
  refine rn rfl ?_
  have a1 := hf.places
  have a2 := hf.named
  refine goal_guard rfl rfl rfl (fun h => ?_) (fun h => ?_) <;> (try simp only [gt_iff_lt, ge_iff_le, bne_iff_ne, ne_eq, bne_eq_false_iff_eq, beq_iff_eq, beq_eq_false_iff_ne, Bool.not_eq_true', Bool.not_eq_false', decide_eq_true_eq, decide_eq_false_iff_not, List.length_map] at h)
  · refine rn rfl ?_
    refine goal_step (step_callE [0] rfl rfl rfl rfl rfl rfl (rfl) (pick_ct bs k1 2 hb (by omega) (by omega) (by omega))) ?_
    rintro σ2 ⟨r, o', ⟨⟨z, rfl, _, _⟩, rfl⟩, hσ⟩
    obtain rfl := Option.some.inj hσ
    clear hσ
    refine rn rfl ?_
    refine goal_cond rfl (fun h2 => ?_) (fun h2 => ?_) <;> (try simp only [gt_iff_lt, ge_iff_le, bne_iff_ne, ne_eq, bne_eq_false_iff_eq, beq_iff_eq, beq_eq_false_iff_ne, Bool.not_eq_true', Bool.not_eq_false', decide_eq_true_eq, decide_eq_false_iff_not, List.length_map] at h2)
    · obtain ⟨p, ps, hps⟩ : ∃ p ps, f.named = p :: ps := by
        cases hn : f.named with
        | nil => rw [hn] at h; simp at h
        | cons p ps => exact ⟨p, ps, rfl⟩
      refine rn rfl ?_
      refine goal_step (step_call [] rfl rfl rfl rfl rfl rfl (copyFlatD_ct f (by omega) (by omega))) ?_
      rintro σ2 ⟨r, o', ⟨rfl, rfl⟩, hσ⟩
      obtain rfl := Option.some.inj hσ
      clear hσ
      refine rn rfl ?_
      refine rn rfl ?_
      have hsm : Small ⟨f.places, ps ++ [p]⟩ 9 4 := ⟨a1, by rw [hps] at a2; simpa using a2, fun q hq => hf.names q (by rw [hps]; simp at hq ⊢; rcases hq with hq | hq <;> simp [hq]), fun q hq => hf.vals q (by rw [hps]; simp at hq ⊢; rcases hq with hq | hq <;> simp [hq]), hf.nums⟩
      have e4 : T.agg (eF f) = .agg [.fs (f.places.map eI), .fs ((p :: ps).map eP)] := by rw [← hps]; rfl
      simp only [hps, List.map_cons, List.length_cons] at *
      refine goal_drawL [3] [12] 13 rfl ?_
      refine drnL [1, 2, 5, 6] (by kernel_rfl) (by kernel_rfl) rfl rfl ?_
      refine AHL_did 3 rfl (by kernel_rfl) (by kernel_rfl) (by kernel_rfl) (by kernel_rfl) rfl rfl (dA_slice 1 (ps.length + 1) (ps.map eP) rfl rfl rfl rfl rfl (Bnd.some_ rfl rfl) (by simp [Bnd]) (rows_len eP_len (p :: ps)) (by omega) (by simp) rfl (by simp [List.take_of_length_le])) ?_
      refine AHL_did 7 rfl (by kernel_rfl) (by kernel_rfl) (by kernel_rfl) (by kernel_rfl) rfl rfl (dA_index (eP p) rfl rfl rfl rfl rfl rfl rfl (by omega) (by simp) rfl rfl) ?_
      refine drnL [8] (by kernel_rfl) (by kernel_rfl) rfl rfl ?_
      refine AHL_two (i := 0) (j := 9) (by kernel_rfl) rfl rfl (step_did rfl rfl (dA_step rfl)) (mdOk rfl) (step_did rfl rfl (dA_step rfl)) (mdOk rfl) ?_ ?_
      · rintro _ rfl
        refine AHL_two (i := 4) (j := 9) (by kernel_rfl) rfl rfl (step_did rfl rfl (dA_append (old := []) (rows := (ps : List Pair).map eP) ((ps : List Pair).map eP) (ps.length) true (Dst.own rfl rfl rfl rfl rfl (Nat.le_refl 0) rfl) (Src.fs rfl) rfl rfl rfl rfl rfl rfl rfl rfl (by simp) (rows_len eP_len _) (by (try simp only [List.length_map, List.length_append, List.length_cons, List.length_nil, List.length_take, List.length_drop]); show _ * 24 ≤ _; omega) (by first | (simp; done) | (simp; omega)) (by simp) (by first | (simp; done) | (simp; omega)) (fun _ => noOwnR_map _ eP_noOwn _))) (mdOk rfl) (step_did rfl rfl (dA_step rfl)) (mdOk rfl) ?_ ?_
        · rintro _ rfl
          refine AHL_oneDid 9 rfl (by kernel_rfl) rfl rfl (dA_step rfl) (mdOk rfl) ?_
          refine AHL_oneDid 10 rfl (by kernel_rfl) rfl rfl (dA_append (old := (ps).map eP) (rows := ([p] : List Pair).map eP) (((ps) ++ ([p] : List Pair)).map eP) (ps.length + 1) true (Dst.own rfl rfl rfl rfl rfl (by first | (simp; done) | (simp; omega)) (whole (by first | (simp; done) | (simp; omega)))) (Src.os rfl rfl (Nat.le_refl 1) rfl) rfl rfl rfl rfl rfl rfl rfl rfl (rows_len eP_len _) (rows_len eP_len _) (by (try simp only [List.length_map, List.length_append, List.length_cons, List.length_nil, List.length_take, List.length_drop]); show _ * 24 ≤ _; omega) (by first | (simp; done) | (simp; omega)) (by simp) (by first | (simp; done) | (simp; omega)) (fun _ => noOwnR_map _ eP_noOwn _)) (mdOk rfl) ?_
          refine drnL [11] (by kernel_rfl) (by kernel_rfl) rfl rfl ?_
          refine AHL_lateDid 12 rfl (by kernel_rfl) rfl rfl (dA_step rfl) ?_
          refine AH_end (by kernel_rfl) ?_
          refine rn rfl ?_
          refine rn rfl ?_
          refine goal_draw' [3, 4] 4 rfl ?_
          refine drn [0, 1] (by kernel_rfl) (by kernel_rfl) rfl rfl ?_
          refine AH_oneDid 2 rfl (by kernel_rfl) rfl (dA_step rfl) (mdOk rfl) ?_
          refine AH_oneDid 3 rfl (by kernel_rfl) rfl (dA_step rfl) (mdOk rfl) ?_
          refine AH_end (by kernel_rfl) ?_
          refine rn rfl ?_
          refine rn rfl (fin_is [] rfl ⟨f, ⟨f.places, ps ++ [p]⟩, k1 + 1, hf, hsm, by omega, by omega, ?_, rfl⟩)
          rw [e4]; simp [eF, List.take_of_length_le]
        · rintro _ rfl
          refine AHL_oneDid 4 rfl (by kernel_rfl) rfl rfl (dA_append (old := []) (rows := (ps : List Pair).map eP) ((ps : List Pair).map eP) (ps.length) true (Dst.own rfl rfl rfl rfl rfl (Nat.le_refl 0) rfl) (Src.fs rfl) rfl rfl rfl rfl rfl rfl rfl rfl (by simp) (rows_len eP_len _) (by (try simp only [List.length_map, List.length_append, List.length_cons, List.length_nil, List.length_take, List.length_drop]); show _ * 24 ≤ _; omega) (by first | (simp; done) | (simp; omega)) (by simp) (by first | (simp; done) | (simp; omega)) (fun _ => noOwnR_map _ eP_noOwn _)) (mdOk rfl) ?_
          refine AHL_oneDid 10 rfl (by kernel_rfl) rfl rfl (dA_append (old := (ps).map eP) (rows := ([p] : List Pair).map eP) (((ps) ++ ([p] : List Pair)).map eP) (ps.length + 1) true (Dst.own rfl rfl rfl rfl rfl (by first | (simp; done) | (simp; omega)) (whole (by first | (simp; done) | (simp; omega)))) (Src.os rfl rfl (Nat.le_refl 1) rfl) rfl rfl rfl rfl rfl rfl rfl rfl (rows_len eP_len _) (rows_len eP_len _) (by (try simp only [List.length_map, List.length_append, List.length_cons, List.length_nil, List.length_take, List.length_drop]); show _ * 24 ≤ _; omega) (by first | (simp; done) | (simp; omega)) (by simp) (by first | (simp; done) | (simp; omega)) (fun _ => noOwnR_map _ eP_noOwn _)) (mdOk rfl) ?_
          refine drnL [11] (by kernel_rfl) (by kernel_rfl) rfl rfl ?_
          refine AHL_lateDid 12 rfl (by kernel_rfl) rfl rfl (dA_step rfl) ?_
          refine AH_end (by kernel_rfl) ?_
          refine rn rfl ?_
          refine rn rfl ?_
          refine goal_draw' [3, 4] 4 rfl ?_
          refine drn [0, 1] (by kernel_rfl) (by kernel_rfl) rfl rfl ?_
          refine AH_oneDid 2 rfl (by kernel_rfl) rfl (dA_step rfl) (mdOk rfl) ?_
          refine AH_oneDid 3 rfl (by kernel_rfl) rfl (dA_step rfl) (mdOk rfl) ?_
          refine AH_end (by kernel_rfl) ?_
          refine rn rfl ?_
          refine rn rfl (fin_is [] rfl ⟨f, ⟨f.places, ps ++ [p]⟩, k1 + 1, hf, hsm, by omega, by omega, ?_, rfl⟩)
          rw [e4]; simp [eF, List.take_of_length_le]
      · rintro _ rfl
        refine AHL_oneDid 0 rfl (by kernel_rfl) rfl rfl (dA_step rfl) (mdOk rfl) ?_
        refine AHL_oneDid 4 rfl (by kernel_rfl) rfl rfl (dA_append (old := []) (rows := (ps : List Pair).map eP) ((ps : List Pair).map eP) (ps.length) true (Dst.own rfl rfl rfl rfl rfl (Nat.le_refl 0) rfl) (Src.fs rfl) rfl rfl rfl rfl rfl rfl rfl rfl (by simp) (rows_len eP_len _) (by (try simp only [List.length_map, List.length_append, List.length_cons, List.length_nil, List.length_take, List.length_drop]); show _ * 24 ≤ _; omega) (by first | (simp; done) | (simp; omega)) (by simp) (by first | (simp; done) | (simp; omega)) (fun _ => noOwnR_map _ eP_noOwn _)) (mdOk rfl) ?_
        refine AHL_oneDid 10 rfl (by kernel_rfl) rfl rfl (dA_append (old := (ps).map eP) (rows := ([p] : List Pair).map eP) (((ps) ++ ([p] : List Pair)).map eP) (ps.length + 1) true (Dst.own rfl rfl rfl rfl rfl (by first | (simp; done) | (simp; omega)) (whole (by first | (simp; done) | (simp; omega)))) (Src.os rfl rfl (Nat.le_refl 1) rfl) rfl rfl rfl rfl rfl rfl rfl rfl (rows_len eP_len _) (rows_len eP_len _) (by (try simp only [List.length_map, List.length_append, List.length_cons, List.length_nil, List.length_take, List.length_drop]); show _ * 24 ≤ _; omega) (by first | (simp; done) | (simp; omega)) (by simp) (by first | (simp; done) | (simp; omega)) (fun _ => noOwnR_map _ eP_noOwn _)) (mdOk rfl) ?_
        refine drnL [11] (by kernel_rfl) (by kernel_rfl) rfl rfl ?_
        refine AHL_lateDid 12 rfl (by kernel_rfl) rfl rfl (dA_step rfl) ?_
        refine AH_end (by kernel_rfl) ?_
        refine rn rfl ?_
        refine rn rfl ?_
        refine goal_draw' [3, 4] 4 rfl ?_
        refine drn [0, 1] (by kernel_rfl) (by kernel_rfl) rfl rfl ?_
        refine AH_oneDid 2 rfl (by kernel_rfl) rfl (dA_step rfl) (mdOk rfl) ?_
        refine AH_oneDid 3 rfl (by kernel_rfl) rfl (dA_step rfl) (mdOk rfl) ?_
        refine AH_end (by kernel_rfl) ?_
        refine rn rfl ?_
        refine rn rfl (fin_is [] rfl ⟨f, ⟨f.places, ps ++ [p]⟩, k1 + 1, hf, hsm, by omega, by omega, ?_, rfl⟩)
        rw [e4]; simp [eF, List.take_of_length_le]
    · refine rn rfl ?_
      refine goal_draw' [3] 5 rfl ?_
      refine drn [0, 1] (by kernel_rfl) (by kernel_rfl) rfl rfl ?_
      refine AH_one (i := 2) (by kernel_rfl) (step_callE [0] rfl rfl rfl rfl rfl rfl (rfl) (someFlat_ct bs (k1 + 1) hb (by omega) (by omega))) (by simp) ?_
      rintro σ2 ⟨r, o', ⟨g, k2, hg, hk3, hk4, rfl, rfl⟩, hσ⟩
      obtain rfl := Option.some.inj hσ
      clear hσ
      refine AH_oneDid 3 rfl (by kernel_rfl) rfl (dA_step rfl) (mdOk rfl) ?_
      refine AH_oneDid 4 rfl (by kernel_rfl) rfl (dA_step rfl) (mdOk rfl) ?_
      refine AH_end (by kernel_rfl) ?_
      refine rn rfl ?_
      exact rn rfl (fin_is [] rfl ⟨f, g, k2, hf, hg, by omega, by omega, rfl, rfl⟩)
  · refine rn rfl ?_
    refine goal_draw' [3] 5 rfl ?_
    refine drn [0, 1] (by kernel_rfl) (by kernel_rfl) rfl rfl ?_
    refine AH_one (i := 2) (by kernel_rfl) (step_callE [0] rfl rfl rfl rfl rfl rfl (rfl) (someFlat_ct bs k1 hb (by omega) (by omega))) (by simp) ?_
    rintro σ2 ⟨r, o', ⟨g, k2, hg, hk3, hk4, rfl, rfl⟩, hσ⟩
    obtain rfl := Option.some.inj hσ
    clear hσ
    refine AH_oneDid 3 rfl (by kernel_rfl) rfl (dA_step rfl) (mdOk rfl) ?_
    refine AH_oneDid 4 rfl (by kernel_rfl) rfl (dA_step rfl) (mdOk rfl) ?_
    refine AH_end (by kernel_rfl) ?_
    refine rn rfl ?_
    exact rn rfl (fin_is [] rfl ⟨f, g, k2, hf, hg, by omega, by omega, rfl, rfl⟩)

section

variable {X : Pk} {N np : Nat} {G : Ctx} {D : Nat → Prop} {e : List ALoc} {σ σ' : State} {a : Act} {w : World} {K : KP}

/-- max of two whole numbers. -/
theorem dA_max {o : Oper} {x y : Operand} {t t2 : TypeId} {n m : Int} (ho : o.op = .call ⟨.builtin .max, #[x, y], #[t, t2]⟩) (hx : evalO σ x = .one (.int .i64 n)) (hy : evalO σ y = .one (.int .i64 m)) (hd : dstB N o.dst = true) :
    DidA X N np o (.q none) σ (putS o.dst (.one (.int .i64 (if m > n then m else n))) σ) := fun {G D e a w} H => by
  have hxv := one_int (hx ▸ H.ev x)
  have hyv := one_int (hy ▸ H.ev y)
  refine Did.pure H (v := .int .i64 (if m > n then m else n)) (fun w _ => ?_) (by simp only [TR, CR]) (putS_eq hd)
  simp [execOp, ho, resolve, invoke, Go.builtin, hxv, hyv, Builtin.max_, Builtin.max2]

end

theorem hasText_ct (xs : List Str) (n : Str) (hb : xs.length ≤ 9223372036854775807) :
    ACalls pk 35 [.one (.fs (xs.map eS)), .one (.str n)] [] (fun r o => r = .one (.bool (decide (n ∈ xs))) ∧ o = []) := by
  refine acalls_of_body Try.func35 rfl (by kernel_rfl) rfl ?_
  refine rn rfl ?_
  refine goal_loop_keep (fun m σ => ∃ (q : Int) (i : Nat), q = i ∧ i ≤ xs.length ∧ m = xs.length - i ∧ n ∉ xs.take i ∧
      σ = ⟨[(5, .one (.int .i64 q)), (1, .one (.str n)), (0, .one (.fs (xs.map eS)))], [], []⟩) xs.length [5, 1, 0] [] rfl
    ⟨_, 0, rfl, by omega, by omega, by simp, rfl⟩ ?_
  rintro m σ ⟨q, i, rfl, hi, rfl, hidx, rfl⟩
  refine rn rfl ?_
  refine goal_cond rfl (fun h => ?_) (fun h => ?_) <;> (try simp only [gt_iff_lt, ge_iff_le, bne_iff_ne, ne_eq, bne_eq_false_iff_eq, beq_iff_eq, beq_eq_false_iff_ne, Bool.not_eq_true', Bool.not_eq_false', decide_eq_true_eq, decide_eq_false_iff_not, List.length_map] at h)
  · obtain ⟨p, hp⟩ := at_some (xs := xs) (i := i) (by omega)
    refine rn rfl ?_
    refine goal_did rfl rfl (dA_index (eS p) rfl rfl rfl rfl rfl rfl rfl (by omega) (by (try simp); omega) (map_at (by simpa using hp)) rfl) ?_
    refine rn rfl ?_
    refine goal_cond rfl (fun h2 => ?_) (fun h2 => ?_) <;> (try simp only [gt_iff_lt, ge_iff_le, bne_iff_ne, ne_eq, bne_eq_false_iff_eq, beq_iff_eq, beq_eq_false_iff_ne, Bool.not_eq_true', Bool.not_eq_false', decide_eq_true_eq, decide_eq_false_iff_not, List.length_map] at h2)
    · refine rn rfl (round_ret (fin_is [] rfl ⟨?_, rfl⟩))
      have : n ∈ xs := by rw [← h2]; exact List.mem_of_getElem? hp
      simp [this]
    · refine rn rfl ?_
      refine round_keep (xs.length - (i + 1)) [5, 1, 0] [] (by omega) rfl ⟨_, i + 1, wrap64 (by omega) (by omega), by omega, rfl, ?_, rfl⟩
      rw [← take_snoc hp]; simp only [List.mem_append, List.mem_singleton, not_or]; exact ⟨hidx, fun h0 => h2 h0.symm⟩
  · refine rn rfl (round_ext ?_)
    refine rn rfl (fin_is [] rfl ⟨?_, rfl⟩)
    rw [List.take_of_length_le (by omega)] at hidx
    simp [hidx]

theorem drawOverFlat_ct (bs : Str) : ACalls pk 31 [.one (.fs (bs.map rowB))] [] (fun r o => ∃ f g, Small f 9 4 ∧ Small g 9 4 ∧ r = .tup [.agg (eF f), .agg (eF g)] ∧ o = []) := by
  have hb : (bs.take 2000).length ≤ 2000 := by simp; omega
  refine acalls_of_body Try.func31 rfl (by kernel_rfl) rfl ?_
  refine rn rfl ?_
  refine goal_step (step_call [] rfl rfl rfl rfl rfl rfl (newReader_ct bs)) ?_
  rintro σ2 ⟨r, o', ⟨rfl, rfl⟩, hσ⟩
  obtain rfl := Option.some.inj hσ
  clear hσ
  refine rn rfl ?_
  refine goal_step (step_callE [2] rfl rfl rfl rfl rfl rfl (rfl) (twoFlats_ct (bs.take 2000) 0 hb (by omega) (by omega))) ?_
  rintro σ2 ⟨r, o', ⟨f, g, k1, hf, hg, hk1, hk2, rfl, rfl⟩, hσ⟩
  obtain rfl := Option.some.inj hσ
  clear hσ
  refine rn rfl ?_
  exact rn rfl (fin_is [] rfl ⟨f, g, hf, hg, rfl, rfl⟩)

theorem iover_d (f g : Flat) (hf : LenF f) (hg : LenF g) : ACalls pk 32 [.agg (eF f), .agg (eF g)] [] (fun r o => r = .tup [.agg (eF (OverF f g).1), .one (.bool (OverF f g).2)] ∧ o = []) :=
  (iover_ct f g hf hg).told [] (by rintro r o ⟨rfl, rfl⟩; exact ⟨_, _, rfl, tellF _ _, rfl⟩)

theorem Small.lenF {f : Flat} (h : Small f 9 4) : LenF f := ⟨by have := h.places; omega, by have := h.named; omega, h.long⟩

theorem nodup_sub {α : Type} [DecidableEq α] : ∀ {l m : List α}, l.Nodup → (∀ x ∈ l, x ∈ m) → l.length ≤ m.length
  | [], m, _, _ => by simp
  | x :: l, m, hn, hs => by
    have hx : x ∈ m := hs x (by simp)
    have hn' := List.nodup_cons.1 hn
    have h1 := nodup_sub (m := m.erase x) hn'.2 (fun y hy => by
      have hne : y ≠ x := fun h0 => hn'.1 (h0 ▸ hy)
      exact (List.mem_erase_of_ne hne).2 (hs y (by simp [hy])))
    rw [List.length_erase_of_mem hx] at h1
    have : 0 < m.length := List.length_pos_of_mem hx
    simp only [List.length_cons]; omega

theorem putP_names (ps : List Pair) (n : Str) (v : Int) : ∀ x, x ∈ namesOf (putP ps n v) ↔ x = n ∨ x ∈ namesOf ps := by
  intro x
  unfold putP
  split
  · rename_i h
    have hn : n ∈ namesOf ps := by
      rw [List.any_eq_true] at h
      obtain ⟨p, hp, hpn⟩ := h
      simp only [nameIs, beq_iff_eq] at hpn
      rw [← hpn]; exact List.mem_map_of_mem hp
    have : namesOf (ps.modify (ps.findIdx (nameIs n)) (fun p => ⟨p.name, v⟩)) = namesOf ps := by
      apply List.ext_getElem?
      intro i
      simp only [namesOf, List.getElem?_map, List.getElem?_modify]
      cases ps[i]? with
      | none => rfl
      | some p => simp only [Option.map_some]; split <;> rfl
    rw [this]
    constructor
    · exact .inr
    · rintro (rfl | h)
      · exact hn
      · exact h
  · simp only [namesOf, List.map_append, List.map_cons, List.map_nil, List.mem_append, List.mem_singleton]; exact or_comm

theorem overN_names : ∀ (qs ps : List Pair) (x : Str), x ∈ namesOf (overN ps qs) ↔ x ∈ namesOf ps ∨ x ∈ namesOf qs
  | [], ps, x => by simp [overN, namesOf]
  | q :: qs, ps, x => by
    show x ∈ namesOf (overN (putP ps q.name q.value) qs) ↔ _
    rw [overN_names qs, putP_names]
    simp only [namesOf, List.map_cons, List.mem_cons]
    constructor
    · rintro ((h | h) | h) <;> simp [h]
    · rintro (h | h | h) <;> simp [h]

theorem sortL_names (xs : List Pair) (x : Str) : x ∈ namesOf (sortL xs) ↔ x ∈ namesOf xs := by
  have key : ∀ (xs S : List Pair), x ∈ namesOf (xs.foldl (fun out p => insL p out) S) ↔ x ∈ namesOf S ∨ x ∈ namesOf xs := by
    intro xs
    induction xs with
    | nil => intro S; simp [namesOf]
    | cons p xs ih =>
      intro S
      rw [List.foldl_cons, ih]
      simp only [namesOf, List.mem_map, List.mem_cons, insL_mem]
      constructor
      · rintro (⟨q, rfl | hq, rfl⟩ | h)
        · exact .inr ⟨_, .inl rfl, rfl⟩
        · exact .inl ⟨q, hq, rfl⟩
        · obtain ⟨q, hq, rfl⟩ := h; exact .inr ⟨q, .inr hq, rfl⟩
      · rintro (⟨q, hq, rfl⟩ | ⟨q, rfl | hq, rfl⟩)
        · exact .inl ⟨q, .inr hq, rfl⟩
        · exact .inl ⟨_, .inl rfl, rfl⟩
        · exact .inr ⟨q, hq, rfl⟩
  have := key xs []
  simpa [sortL, namesOf] using this

theorem shape_count (f : Flat) : 0 ≤ (shapeF f).count ∧ (shapeF f).count ≤ f.places.length := by
  unfold shapeF; split <;> simp <;> omega

/-- What is said of the shapes of two flats and of both together. -/
theorem over_shape {f g : Flat} (h : (OverF f g).2 = true) :
    (∀ x ∈ (shapeF (OverF f g).1).names, x ∈ (shapeF f).names ∨ x ∈ (shapeF g).names) ∧ (shapeF (OverF f g).1).count = (shapeF f).count + (shapeF g).count ∧
    (shapeF f).names.length ≤ (shapeF (OverF f g).1).names.length ∧ (shapeF g).names.length ≤ (shapeF (OverF f g).1).names.length := by
  have hh : okFlat f = true ∧ okFlat g = true ∧ okFlat (overQ f g) = true ∧ (OverF f g).1 = overQ f g := by
    unfold OverF at h ⊢
    split at h
    · rename_i h1
      simp only [Bool.and_eq_true] at h1
      unfold checkF at h ⊢
      split at h
      · rename_i h2
        simp only [Bool.true_and] at h2
        exact ⟨h1.1, h1.2, h2, by simp [h1, h2]⟩
      · cases h
    · cases h
  obtain ⟨h1, h2, h3, h4⟩ := hh
  have ndf : (namesOf f.named).Nodup := by simp [okFlat] at h1; exact h1.1.1.1.2
  have ndg : (namesOf g.named).Nodup := by simp [okFlat] at h2; exact h2.1.1.1.2
  rw [h4]
  simp only [shapeF, h1, h2, h3, if_true]
  refine ⟨fun x hx => ?_, ?_, ?_, ?_⟩
  · rw [sortL_names, overQ, overN_names] at hx
    simpa only [sortL_names] using hx
  · simp [overQ]
  · simp only [namesOf, List.length_map, sortL_length]
    have := nodup_sub (m := namesOf (overN f.named g.named)) ndf (fun x hx => (overN_names ..).2 (.inl hx))
    simpa [namesOf, overQ] using this
  · simp only [namesOf, List.length_map, sortL_length]
    have := nodup_sub (m := namesOf (overN f.named g.named)) ndg (fun x hx => (overN_names ..).2 (.inr hx))
    simpa [namesOf, overQ] using this

theorem fnOverFlatShape_ct (bs : Str) (hl : bs.length ≤ 9223372036854775807) : ACalls pk 6 [.one (.fs (bs.map rowB))] [] (fun r o => r = .one (.bool true) ∧ o = []) := by
  refine acalls_of_body Try.func6 rfl (by kernel_rfl) rfl ?_
  refine rn rfl ?_
  refine goal_cond rfl (fun h => ?_) (fun h => ?_) <;> (try simp only [gt_iff_lt, ge_iff_le, bne_iff_ne, ne_eq, bne_eq_false_iff_eq, beq_iff_eq, beq_eq_false_iff_ne, Bool.not_eq_true', Bool.not_eq_false', decide_eq_true_eq, decide_eq_false_iff_not, List.length_map] at h)
  · exact rn rfl (fin_is [] rfl ⟨rfl, rfl⟩)
  · refine rn rfl ?_
    refine goal_step (step_call [] rfl rfl rfl rfl rfl rfl (drawOverFlat_ct bs)) ?_
    rintro σ2 ⟨r, o', ⟨f, g, hf, hg, rfl, rfl⟩, hσ⟩
    obtain rfl := Option.some.inj hσ
    clear hσ
    refine rn rfl ?_
    have lf := hf.lenF
    have lg := hg.lenF
    have hp := hf.places
    have hq := hf.named
    have hp' := hg.places
    have hq' := hg.named
    have hol := overN_len g.named f.named
    have hd : (OverF f g).1.places.length ≤ 18 ∧ (OverF f g).1.named.length ≤ 8 := by
      unfold OverF checkF
      split
      · split
        · simp [overQ]; omega
        · simp [zF]
      · simp [zF]
    have hdn : ∀ p ∈ (OverF f g).1.named, p.name.length ≤ 9223372036854775807 := by
      unfold OverF checkF
      split
      · split
        · intro p hp
          have : p.name ∈ namesOf (overN f.named g.named) := List.mem_map_of_mem hp
          rw [overN_names] at this
          rcases this with h1 | h1
          · simp only [namesOf, List.mem_map] at h1
            obtain ⟨q, hq, h1⟩ := h1
            rw [← h1]; exact hf.long q hq
          · simp only [namesOf, List.mem_map] at h1
            obtain ⟨q, hq, h1⟩ := h1
            rw [← h1]; exact hg.long q hq
        · simp [zF]
      · simp [zF]
    have hsh : (OverF f g).2 = true → _ := over_shape (f := f) (g := g)
    have l1 := shape_len f (by omega)
    have l2 := shape_len g (by omega)
    have l3 := shape_len (OverF f g).1 (by omega)
    refine goal_step (step_call [] rfl rfl rfl rfl rfl rfl (iover_d f g lf lg)) ?_
    rintro σ2 ⟨r, o', ⟨rfl, rfl⟩, hσ⟩
    obtain rfl := Option.some.inj hσ
    clear hσ
    refine rn rfl ?_
    refine goal_step (step_call [] rfl rfl rfl rfl rfl rfl (soverFlat_ct f g lf lg)) ?_
    rintro σ2 ⟨r, o', ⟨rfl, rfl⟩, hσ⟩
    obtain rfl := Option.some.inj hσ
    clear hσ
    refine rn rfl ?_
    generalize (OverF f g).1 = out at hd hdn hsh l3 ⊢
    generalize (OverF f g).2 = ok at hsh ⊢
    refine goal_step (step_call [] rfl rfl rfl rfl rfl rfl (equalFlat_ct out out (by omega) (by omega))) ?_
    rintro σ2 ⟨r, o', ⟨rfl, rfl⟩, hσ⟩
    obtain rfl := Option.some.inj hσ
    clear hσ
    refine rn rfl ?_
    have e1 : (!(decide (out = out))) = false := by simp
    simp only [e1]
    refine goal_guard rfl rfl rfl (fun h1 => ?_) (fun h1 => ?_)
    · cases h1
    · refine rn rfl ?_
      refine goal_guard rfl rfl rfl (fun h2 => ?_) (fun h2 => ?_)
      · simp at h2
      · refine rn rfl ?_
        refine goal_cond rfl (fun h3 => ?_) (fun h3 => ?_)
        · refine rn rfl ?_
          refine goal_step (step_call [] rfl rfl rfl rfl rfl rfl (equalFlat_ct out out (by omega) (by omega))) ?_
          rintro σ2 ⟨r, o', ⟨rfl, rfl⟩, hσ⟩
          obtain rfl := Option.some.inj hσ
          clear hσ
          refine rn rfl ?_
          refine goal_guard rfl rfl rfl (fun h4 => ?_) (fun h4 => ?_)
          · refine rn rfl (fin_is [] rfl ⟨?_, rfl⟩)
            simp
          · simp at h4
        · have h3' : ok = true := by simpa using h3
          obtain ⟨s1, s2, s3, s4⟩ := hsh h3'
          refine rn rfl ?_
          refine goal_step (step_call [] rfl rfl rfl rfl rfl rfl (ishapeD_ct f (by omega) (by omega) hf.long)) ?_
          rintro σ2 ⟨r, o', ⟨rfl, rfl⟩, hσ⟩
          obtain rfl := Option.some.inj hσ
          clear hσ
          refine rn rfl ?_
          refine goal_step (step_call [] rfl rfl rfl rfl rfl rfl (ishapeD_ct g (by omega) (by omega) hg.long)) ?_
          rintro σ2 ⟨r, o', ⟨rfl, rfl⟩, hσ⟩
          obtain rfl := Option.some.inj hσ
          clear hσ
          refine rn rfl ?_
          refine goal_step (step_call [] rfl rfl rfl rfl rfl rfl (ishapeD_ct out (by omega) (by omega) hdn)) ?_
          rintro σ2 ⟨r, o', ⟨rfl, rfl⟩, hσ⟩
          obtain rfl := Option.some.inj hσ
          clear hσ
          refine rn rfl ?_
          have c1 := shape_count f
          have c2 := shape_count g
          generalize shapeF f = a at *
          generalize shapeF g = b at *
          generalize shapeF out = c at *
          refine rn rfl ?_
          refine goal_loop_keep (fun m σ => ∃ (q : Int) (i : Nat), q = i ∧ i ≤ c.names.length ∧ m = c.names.length - i ∧
              σ = ⟨[(12, .one (.int .i64 q)), (11, .one (.op 2 0 0)), (10, .one (.op 1 0 0)), (9, .one (.op 0 0 0))], [some ⟨2, [eX a], false, false, true⟩, some ⟨2, [eX b], false, false, true⟩, some ⟨2, [eX c], false, false, true⟩], []⟩) c.names.length [12, 11, 10, 9] [4, 5, 6] rfl
            ⟨_, 0, rfl, by omega, by omega, rfl⟩ ?_
          rintro m σ ⟨q, i, rfl, hi, rfl, rfl⟩
          refine rn rfl ?_
          refine goal_cond rfl (fun h => ?_) (fun h => ?_) <;> (try simp only [gt_iff_lt, ge_iff_le, bne_iff_ne, ne_eq, bne_eq_false_iff_eq, beq_iff_eq, beq_eq_false_iff_ne, Bool.not_eq_true', Bool.not_eq_false', decide_eq_true_eq, decide_eq_false_iff_not, List.length_map] at h)
          · obtain ⟨x, hx⟩ := at_some (xs := c.names) (i := i) (by omega)
            have hin := s1 x (List.mem_of_getElem? hx)
            refine rn rfl ?_
            refine goal_draw' [0, 1, 2] 20 rfl ?_
            refine drn [0, 1, 2, 3, 4] (by kernel_rfl) (by kernel_rfl) rfl rfl ?_
            refine AH_did 5 rfl (by kernel_rfl) (by kernel_rfl) (by kernel_rfl) rfl rfl (dA_index (eS x) rfl rfl rfl rfl rfl rfl rfl (by omega) (by (try simp); omega) (map_at (by simpa using hx)) rfl) ?_
            refine drn [6] (by kernel_rfl) (by kernel_rfl) rfl rfl ?_
            refine AH_one (i := 7) (by kernel_rfl) (step_call [] rfl rfl rfl rfl rfl rfl (hasText_ct a.names x (by omega))) (by simp) ?_
            rintro σ2 ⟨r, o', ⟨rfl, rfl⟩, hσ⟩
            obtain rfl := Option.some.inj hσ
            clear hσ
            refine drn [8, 9] (by kernel_rfl) (by kernel_rfl) rfl rfl ?_
            refine AH_guard (i := 10) rfl rfl rfl (fun h5 => ?_) (fun h5 => ?_) <;> (try simp only [gt_iff_lt, ge_iff_le, bne_iff_ne, ne_eq, bne_eq_false_iff_eq, beq_iff_eq, beq_eq_false_iff_ne, Bool.not_eq_true', Bool.not_eq_false', decide_eq_true_eq, decide_eq_false_iff_not, List.length_map] at h5)
            · refine drn [10, 11, 12, 13, 14] (by kernel_rfl) (by kernel_rfl) rfl rfl ?_
              refine AH_did 15 rfl (by kernel_rfl) (by kernel_rfl) (by kernel_rfl) rfl rfl (dA_index (eS x) rfl rfl rfl rfl rfl rfl rfl (by omega) (by (try simp); omega) (map_at (by simpa using hx)) rfl) ?_
              refine drn [16] (by kernel_rfl) (by kernel_rfl) rfl rfl ?_
              refine AH_one (i := 17) (by kernel_rfl) (step_call [] rfl rfl rfl rfl rfl rfl (hasText_ct b.names x (by omega))) (by simp) ?_
              rintro σ2 ⟨r, o', ⟨rfl, rfl⟩, hσ⟩
              obtain rfl := Option.some.inj hσ
              clear hσ
              refine drn [18, 19] (by kernel_rfl) (by kernel_rfl) rfl rfl ?_
              refine AH_end (by kernel_rfl) ?_
              refine rn rfl ?_
              have hb : x ∈ b.names := hin.resolve_left (by simpa using h5)
              refine goal_cond rfl (fun h6 => by simp [hb] at h6) (fun _ => ?_)
              refine rn rfl ?_
              refine round_keep (c.names.length - (i + 1)) [12, 11, 10, 9] [0, 1, 2] (by omega) rfl ⟨_, i + 1, wrap64 (by omega) (by omega), by omega, rfl, rfl⟩
            · refine drn [10, 11, 12, 13, 14, 15, 16, 17, 18, 19] (by kernel_rfl) (by kernel_rfl) rfl rfl ?_
              refine AH_end (by kernel_rfl) ?_
              refine rn rfl ?_
              refine rn rfl ?_
              refine round_keep (c.names.length - (i + 1)) [12, 11, 10, 9] [0, 1, 2] (by omega) rfl ⟨_, i + 1, wrap64 (by omega) (by omega), by omega, rfl, rfl⟩
          · refine rn rfl ?_
            refine round_ext ?_
            refine rn rfl ?_
            have hw : IntKind.i64.wrap (a.count + b.count) = c.count := by rw [wrap64 (by omega) (by omega), s2]
            simp only [hw, beq_self_eq_true]
            refine goal_guard rfl rfl rfl (fun h7 => ?_) (fun h7 => by cases h7)
            refine rn rfl ?_
            refine goal_did rfl rfl (dA_max rfl rfl rfl rfl) ?_
            refine rn rfl ?_
            refine rn rfl (fin_is [] rfl ⟨?_, rfl⟩)
            simp only [List.length_map]
            congr 1
            congr 1
            simp
            split <;> omega

/-- All of the memory, zs data. -/
def allD (w : World) (b : Nat) : Prop := b < w.heap.size

/-- A value of type 't' that can be read is some 'a', its cells told by 'enc'. -/
def Opens (P : Program) (t : TypeId) {α : Type} (enc : α → List C) (ok : α → Prop) : Prop :=
  ∀ (H : Type) (en : TypeId × Value → H) (w : World) (fuel : Nat) (cs : List Value) (x : DataW H × List MemPlace), DataW.trod en P w 0 (fun _ => true) true fuel t cs = some x →
    ∃ a : α, ok a ∧ CRp (allD w) w.heap [] (enc a) cs ∧ cs.length = (enc a).length

theorem opens_slice {P : Program} {t e : TypeId} {α : Type} {enc : α → List C} {ok : α → Prop} {sz : Nat} (ht : P.underlying t = some (.slice e)) (hc : P.cellsOf e = sz) (h0 : 0 < sz) (hl : ∀ a, (enc a).length = sz) (he : Opens P e enc ok) :
    Opens P t (fun xs : List α => [.fs (xs.map enc)]) (fun xs => xs.length ≤ 9223372036854775807 ∧ ∀ x ∈ xs, ok x) := by
  intro H en w fuel cs x h
  rcases DataW.trod_slice ht h with ⟨rfl, _⟩ | ⟨a, len, cap, elems, rest, n, _, rfl, _, _, hlc, hm, hlen, hel, _, _⟩
  · refine ⟨[], by simp, ?_, rfl⟩
    simp only [CRp, CR, List.map_nil, List.length_nil, and_true]
    exact ⟨none, 0, rfl, Nat.le_refl _, .inl trivial⟩
  · have each : ∀ i, i < len → ∃ cs' : List Value, w.cells? 0 (a.add (i * sz)) sz = some cs' ∧ ∃ b : α, ok b ∧ CRp (allD w) w.heap [] (enc b) cs' ∧ cs'.length = (enc b).length := by
      intro i hi
      have := hel i hi
      rw [hc] at this
      obtain ⟨y, hy⟩ : ∃ y, elems[i]? = some y := ⟨elems[i], by simp [hlen, hi]⟩
      rw [hy, Option.bind_eq_some_iff] at this
      obtain ⟨cs', h1, h2⟩ := this
      obtain ⟨b, hb⟩ := he H en w n cs' y h2
      exact ⟨cs', h1, b, hb⟩
    have hxs : ∀ k, k ≤ len → ∃ xs : List α, xs.length = k ∧ (∀ x ∈ xs, ok x) ∧ ∀ (i : Nat) (b : α), xs[i]? = some b → ∃ cs', w.cells? 0 (a.add (i * sz)) sz = some cs' ∧ CRp (allD w) w.heap [] (enc b) cs' := by
      intro k
      induction k with
      | zero => intro _; exact ⟨[], rfl, by simp, by simp⟩
      | succ k ih =>
        intro hk
        obtain ⟨xs, q1, q2, q3⟩ := ih (by omega)
        obtain ⟨cs', h1, b, hb1, hb2, _⟩ := each k (by omega)
        refine ⟨xs ++ [b], by simp [q1], ?_, ?_⟩
        · intro x hx
          rcases List.mem_append.1 hx with hx | hx
          · exact q2 x hx
          · simp at hx; subst hx; exact hb1
        · intro i b' hi
          rw [getElem?_app_one] at hi
          split at hi
          · exact q3 i b' hi
          · split at hi
            · rename_i heq
              simp at hi
              subst hi
              rw [heq, q1]
              exact ⟨cs', h1, hb2⟩
            · cases hi
    obtain ⟨xs, q1, q2, q3⟩ := hxs len (Nat.le_refl _)
    refine ⟨xs, ⟨?_, q2⟩, ?_, rfl⟩
    · rw [q1]; exact Nat.le_trans (Nat.le_trans hlc hm) (by decide)
    · simp only [CRp, CR, and_true]
      refine ⟨some a, cap, by simp [q1], by simpa [q1] using hlc, ?_⟩
      rcases Nat.eq_zero_or_pos len with hz | hz
      · left
        have : xs = [] := List.eq_nil_of_length_eq_zero (by omega)
        simp [this]
      · right
        obtain ⟨b0, hb0⟩ : ∃ b, xs[0]? = some b := ⟨xs[0], by simp [q1, hz]⟩
        obtain ⟨cs0, hc0, _⟩ := q3 0 b0 hb0
        have hcell0 := (World.cells?_some hc0).2.2 0 (by omega)
        have hl0 := (World.cells?_some hc0).1
        -- where the row lies
        obtain ⟨cells, tt, fr, hh, hs⟩ : ∃ cells tt fr, w.heap[a.block]? = some (.cells cells tt fr) ∧ a.spot = none := by
          have hv : ∃ v, w.cell? a = some v := by
            have h2 : a.add (0 * sz) = a := by simp [Addr.add]
            rw [h2] at hcell0
            have h3 : a.add 0 = a := by simp [Addr.add]
            rw [h3] at hcell0
            have : cs0[0]? ≠ none := by
              have h4 : cs0.length = sz := by
                have := World.cells?_some hc0
                first | exact this.1 | exact this.2.1
              rw [List.getElem?_eq_getElem (by omega)]; simp
            exact ⟨cs0[0]?.get (by cases hx : cs0[0]? with | none => exact absurd hx this | some v => rfl), by rw [hcell0]; simp⟩
          obtain ⟨v, hv⟩ := hv
          unfold World.cell? at hv
          split at hv
          · rename_i cells tt fr hh
            split at hv
            · cases hv
            · rename_i hsp
              exact ⟨cells, tt, fr, hh, by cases hq : a.spot with | none => rfl | some _ => rw [hq] at hsp; simp at hsp⟩
          · cases hv
        refine ⟨a, cells, tt, fr, sz, rfl, hs, (Array.getElem?_eq_some_iff.1 hh).1, hh, ?_⟩
        rw [CRr_iff]
        intro i r hi
        rw [List.getElem?_map] at hi
        cases hxi : xs[i]? with
        | none => rw [hxi] at hi; simp at hi
        | some b =>
          rw [hxi] at hi
          simp at hi
          subst hi
          obtain ⟨cs', hc', hr'⟩ := q3 i b hxi
          refine ⟨hl b, CRp.congr (fun j hj => ?_) hr'⟩
          rw [hl b] at hj
          have := (World.cells?_some hc').2.2 j hj
          rw [← this]
          have ha : (a.add (i * sz)).add j = ⟨a.block, a.off + i * sz + j, none⟩ := by rw [add_eq a _ hs, add_eq _ _ rfl]
          rw [ha, List.getElem?_drop]
          simp [World.cell?, hh, Nat.add_assoc]

section
open Go Go.ChangeShapes Go.WideShapes Go.ChangeAt Go.RowKit
theorem TIok.cellsOf {P : Program} {t : Nat} {ti : TI} (H : TIok P t ti) : P.cellsOf t = ti.size := by
  obtain ⟨i, z, hi, hs, _⟩ := H.info
  simp [Program.cellsOf, hi, hs]

section

variable {X : Pk} {t : Nat} {ti te : TI}

theorem xo_slice {α : Type} {enc : α → List C} {ok : α → Prop} (h : findTI X.L t = some ti) (hk : ti.kind = 2) (he : findTI X.L ti.elem = some te) (h0 : Nat.blt 0 te.size = true) (hl : ∀ a, (enc a).length = te.size) (hE : Opens X.P ti.elem enc ok) :
    Opens X.P t (fun xs : List α => [.fs (xs.map enc)]) (fun xs => xs.length ≤ 9223372036854775807 ∧ ∀ x ∈ xs, ok x) :=
  opens_slice ((X.tiok h).slice hk) (X.tiok he).cellsOf (by simpa [Nat.blt_eq] using h0) hl hE

end

theorem Opens.map {P : Program} {t : TypeId} {α β : Type} {enc : α → List C} {ok : α → Prop} {enc' : β → List C} {ok' : β → Prop} (h : Opens P t enc ok) (g : α → β) (he : ∀ a, enc' (g a) = enc a) (ho : ∀ a, ok a → ok' (g a)) : Opens P t enc' ok' := by
  intro H en w fuel cs x hx
  obtain ⟨a, h1, h2, h3⟩ := h H en w fuel cs x hx
  exact ⟨g a, ho a h1, by rw [he]; exact h2, by rw [he]; exact h3⟩

/-- A law's contract, zs a call from any memory. -/
theorem law_calls {X : Pk} {f : FuncId} {args : List T} {vals : Array Value} {w : World} (h : ACalls X f args [] (fun r o => r = .one (.bool true) ∧ o = [])) (ha : TRs (allD w) w.heap [] args vals.toList) :
    Calls X.P f vals w fun e w' => e = .returned (.bool true) ∧ Below w.heap.size w w' := by
  have hsr : SR (allD w) w.heap [] [] := ⟨rfl, by simp, by simp, by simp, fun b hb => hb⟩
  refine (h.2 (allD w) [] w vals.toList hsr ha (by simp)).mono ?_
  rintro en w' ⟨v, r, o', D', e', rfl, ⟨rfl, rfl⟩, htr, _, hext, _⟩
  simp only [TR, CR] at htr
  subst htr
  refine ⟨rfl, hext.os, hext.tape, hext.output, hext.size, fun k hk => hext.block k hk ?_⟩
  rintro ⟨id, a, esz, cap, n, he, _⟩
  simp at he
end

section
open Go Go.ChangeShapes
theorem cells_of_okWide {P : Program} {W : World} {r : Reach} {base : Nat} {t : TypeId} {v : Value} (hu : (∃ e, P.underlying t = some (.slice e)) ∨ (∃ k, P.underlying t = some (.int k)) ∨ P.underlying t = some .string)
    (h : Value.okWide P W r base t v) : v.cells.toList = [v] := by
  rcases hu with ⟨e, hu⟩ | ⟨k, hu⟩ | hu <;> cases v <;> first
    | rfl
    | (exfalso; simp [Value.okWide, hu, Cell.okWide, Cell.ok] at h)

theorem opens_u8 {P : Program} {t : TypeId} (ht : P.underlying t = some (.int .u8)) : Opens P t (fun b : UInt8 => [.int .u8 b.toNat]) (fun _ => True) := by
  intro H en w fuel cs x h
  obtain ⟨n, rfl, _, hw⟩ := DataW.trod_int ht h
  have hr : 0 ≤ n ∧ n < 256 := by
    simp [Lit.wf, IntKind.min, IntKind.max, IntKind.bits, IntKind.signed] at hw
    omega
  refine ⟨UInt8.ofNat n.toNat, trivial, ?_, rfl⟩
  simp only [CRp, CR, and_true]
  congr 1
  rw [UInt8.toNat_ofNat']
  omega

theorem xo_u8 {X : Pk} {t : Nat} {ti : TI} (h : findTI X.L t = some ti) (hk : ti.kind = 4) (hik : ti.ik = .u8) : Opens X.P t (fun b : UInt8 => [.int .u8 b.toNat]) (fun _ => True) := by
  have := (X.tiok h).int hk
  rw [hik] at this
  exact opens_u8 this

theorem openBytes : Opens pk.P 22 (fun bs : Str => [.fs (bs.map rowB)]) (fun bs => bs.length ≤ 9223372036854775807) :=
  Opens.map (xo_slice (enc := rowB) rfl rfl rfl rfl (fun _ => rfl) (xo_u8 rfl rfl rfl)) (fun x => x) (fun _ => rfl) (fun _ h => h.1)
end

end Go.Proofs.Ytodggffbepfemaa
