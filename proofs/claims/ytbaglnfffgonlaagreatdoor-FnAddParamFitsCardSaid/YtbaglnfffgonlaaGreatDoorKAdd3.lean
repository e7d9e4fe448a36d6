/- Part 3 of the proof: an abstract machine over the model; contracts of the functions that the law reaches. -/
import Derived.Test.YtbaglnfffgonlaaGreatDoorKAdd2
set_option linter.unusedVariables false
set_option linter.unusedSimpArgs false
namespace Go.Proofs.YtbaglnfffgonlaaGreatDoor
open Go
set_option maxRecDepth 100000
set_option maxHeartbeats 1000000

/-- The reader, at position 'k'. -/
def oR (bs : Str) (k : Int) : Option AObj := some ⟨2, [[.fs (bs.map rowB), .int .i64 k]], false, false, true⟩

theorem rowB_len (b : UInt8) : (rowB b).length = 1 := rfl

theorem tmod_range {a n : Int} (ha : 0 ≤ a) (hn : 1 ≤ n) : 0 ≤ a.tmod n ∧ a.tmod n < n := by
  rw [Int.tmod_eq_emod_of_nonneg ha]
  exact ⟨Int.emod_nonneg _ (by omega), Int.emod_lt_of_pos _ (by omega)⟩

theorem pick_ct (bs : Str) (k n : Int) (hb : bs.length ≤ 2000) (hk : 0 ≤ k) (hk' : k ≤ 1073741824) (hn : n ≤ 1073741824) :
    ACalls pk 48 [.one (.op 0 0 0), .one (.int .i64 n)] [oR bs k] (fun r o => (∃ z, r = .one (.int .i64 z) ∧ (1 ≤ n → 0 ≤ z ∧ z < n) ∧ (n < 1 → z = 0)) ∧ o = [oR bs (k + 1)]) := by
  refine acalls_of_body Tryz.func48 rfl (by kernel_rfl) rfl ?_
  have hw : IntKind.i64.wrap (k + 1) = k + 1 := wrap64 (by omega) (by omega)
  have hw1 : IntKind.i64.wrap (k + 1 - 1) = k := by rw [wrap64] <;> omega
  refine rn rfl ?_
  rw [hw]
  refine goal_guard rfl rfl rfl (fun h => ?_) (fun h => ?_) <;> simp only [decide_eq_true_eq, decide_eq_false_iff_not] at h
  · refine rn rfl ?_
    exact rn rfl (fin_is [] rfl ⟨⟨0, rfl, fun h' => by omega, fun _ => rfl⟩, rfl⟩)
  · refine rn rfl ?_
    refine goal_cond rfl (fun h2 => ?_) (fun h2 => ?_) <;> simp only [List.length_map, beq_iff_eq, beq_eq_false_iff_ne, ne_eq] at h2
    · exact rn rfl (fin_is [] rfl ⟨⟨0, rfl, fun h' => by omega, fun _ => rfl⟩, rfl⟩)
    · refine rn rfl ?_
      rw [hw1]
      refine goal_cond rfl (fun h3 => ?_) (fun h3 => ?_) <;> simp only [List.length_map, decide_eq_true_eq, decide_eq_false_iff_not] at h3
      · obtain ⟨b, hbk⟩ := at_some (xs := bs) (i := k.toNat) (by omega)
        refine rn rfl ?_
        refine goal_did rfl rfl (dA_index (rowB b) rfl rfl rfl rfl rfl rfl rfl hk (by simpa using h3) (map_at hbk) rfl) ?_
        refine rn rfl ?_
        have hwb : IntKind.i64.wrap (b.toNat : Int) = b.toNat := by
          have := b.toNat_lt
          rw [wrap64] <;> omega
        refine goal_did rfl rfl (dA_rem (Int.tmod (b.toNat : Int) n) rfl rfl rfl (by omega) (by rw [hwb]) rfl) ?_
        have ht := tmod_range (a := (b.toNat : Int)) (n := n) (by omega) (by omega)
        exact rn rfl (fin_is [] rfl ⟨⟨_, rfl, fun _ => ht, fun h' => by omega⟩, rfl⟩)
      · have hL : (0 : Int) < bs.length := by omega
        obtain ⟨kn, rfl⟩ : ∃ m : Nat, k = m := ⟨k.toNat, by omega⟩
        have hLe : ((bs.map rowB).length : Int) = bs.length := by simp
        have r1 := tmod_range (a := (kn : Int)) (n := bs.length) (by omega) (by omega)
        have hw7 : IntKind.i64.wrap ((kn : Int) * 7) = kn * 7 := by rw [wrap64] <;> omega
        have hw73 : IntKind.i64.wrap ((kn : Int) * 7 + 3) = kn * 7 + 3 := by rw [wrap64] <;> omega
        have r2 := tmod_range (a := (kn : Int) * 7 + 3) (n := bs.length) (by omega) (by omega)
        obtain ⟨b1, hb1⟩ := at_some (xs := bs) (i := ((kn : Int).tmod bs.length).toNat) (by omega)
        obtain ⟨b2, hb2⟩ := at_some (xs := bs) (i := (((kn : Int) * 7 + 3).tmod bs.length).toNat) (by omega)
        have l1 := b1.toNat_lt
        have l2 := b2.toNat_lt
        refine rn rfl ?_
        refine goal_draw' [0] 46 rfl ?_
        refine drn [0, 1, 2, 3, 4, 5, 6, 7, 8, 9, 15, 16, 17, 18, 19, 20, 21, 22, 23, 24, 25, 26, 33, 34, 36, 37, 38, 39, 40, 41] (by kernel_rfl) (by kernel_rfl) rfl rfl ?_
        refine AH_did 10 rfl (by kernel_rfl) (by kernel_rfl) (by kernel_rfl) rfl rfl (dA_rem ((kn : Int).tmod bs.length) rfl rfl rfl (by rw [hLe]; omega) (by rw [hLe]) rfl) ?_
        refine AH_did 11 rfl (by kernel_rfl) (by kernel_rfl) (by kernel_rfl) rfl rfl (dA_index (rowB b1) rfl rfl rfl rfl rfl rfl rfl (by omega) (by rw [hLe]; omega) (map_at hb1) rfl) ?_
        refine AH_did 27 rfl (by kernel_rfl) (by kernel_rfl) (by kernel_rfl) rfl rfl (dA_rem (((kn : Int) * 7 + 3).tmod bs.length) rfl rfl rfl (by rw [hLe]; omega) (by rw [hLe, hw7, hw73]) rfl) ?_
        refine AH_did 28 rfl (by kernel_rfl) (by kernel_rfl) (by kernel_rfl) rfl rfl (dA_index (rowB b2) rfl rfl rfl rfl rfl rfl rfl (by omega) (by rw [hLe]; omega) (map_at hb2) rfl) ?_
        obtain ⟨qn, hqn⟩ : ∃ qn : Nat, qn = kn / bs.length := ⟨_, rfl⟩
        have hq : (kn : Int).tdiv bs.length = (qn : Int) := by rw [Int.tdiv_eq_ediv_of_nonneg (by omega), hqn]; simp
        have hql : qn ≤ kn := by rw [hqn]; exact Nat.div_le_self _ _
        refine AH_did 42 rfl (by kernel_rfl) (by kernel_rfl) (by kernel_rfl) rfl rfl (dA_quo (qn : Int) rfl rfl rfl (by rw [hLe]; omega) (by rw [hLe, hq, wrap64] <;> omega) rfl) ?_
        refine drn [12, 13, 14, 29, 30, 31, 32, 35, 43, 44, 45] (by kernel_rfl) (by kernel_rfl) rfl rfl ?_
        refine AH_end (by kernel_rfl) ?_
        have e0 : IntKind.i64.wrap (b1.toNat : Int) = b1.toNat := by rw [wrap64] <;> omega
        have e1 : IntKind.i64.wrap ((b1.toNat : Int) * 131) = b1.toNat * 131 := by rw [wrap64] <;> omega
        have e2 : IntKind.i64.wrap (b2.toNat : Int) = b2.toNat := by rw [wrap64] <;> omega
        have e3 : IntKind.i64.wrap ((b2.toNat : Int) * 1117) = b2.toNat * 1117 := by rw [wrap64] <;> omega
        have e4 : IntKind.i64.wrap ((b1.toNat : Int) * 131 + b2.toNat * 1117) = b1.toNat * 131 + b2.toNat * 1117 := by rw [wrap64] <;> omega
        have e5 : IntKind.i64.wrap ((kn : Int) * 29) = kn * 29 := by rw [wrap64] <;> omega
        have e6 : IntKind.i64.wrap ((b1.toNat : Int) * 131 + b2.toNat * 1117 + kn * 29) = b1.toNat * 131 + b2.toNat * 1117 + kn * 29 := by rw [wrap64] <;> omega
        have e7 : IntKind.i64.wrap ((qn : Int) * 53) = qn * 53 := by rw [wrap64] <;> omega
        have e8 : IntKind.i64.wrap ((b1.toNat : Int) * 131 + b2.toNat * 1117 + kn * 29 + qn * 53) = ((b1.toNat * 131 + b2.toNat * 1117 + kn * 29 + qn * 53 : Nat) : Int) := by rw [wrap64] <;> omega
        rw [e0, e1, e2, e3, e4, e5, e6, e7, e8]
        generalize hX : b1.toNat * 131 + b2.toNat * 1117 + kn * 29 + qn * 53 = Xn
        have hXl : Xn < 2 ^ 40 := by omega
        refine rn rfl ?_
        have hd64 : IntKind.i64.wrap (Int.tdiv (Xn : Int) (Int.ofNat (63 + 1))) = ((Xn / 64 : Nat) : Int) := by
          have : Int.tdiv (Xn : Int) (Int.ofNat (63 + 1)) = ((Xn / 64 : Nat) : Int) := by rw [Int.tdiv_eq_ediv_of_nonneg (by omega)]; simp
          rw [this, wrap64] <;> omega
        refine goal_did rfl rfl (dA_xor Xn (Xn / 64) rfl rfl rfl rfl hd64 (by omega) (by omega) rfl) ?_
        refine rn rfl ?_
        refine goal_did rfl rfl (dA_rem (Int.tmod ((Xn ^^^ (Xn / 64) : Nat) : Int) n) rfl rfl rfl (by omega) rfl rfl) ?_
        have ht := tmod_range (a := ((Xn ^^^ (Xn / 64) : Nat) : Int)) (n := n) (by omega) (by omega)
        exact rn rfl (fin_is [] rfl ⟨⟨_, rfl, fun _ => ht, fun h' => by omega⟩, rfl⟩)

def eS (s : Str) : List C := [.str s]

theorem one_ct (bs : Str) (k : Int) (xs : List Int) (hb : bs.length ≤ 2000) (hk : 0 ≤ k) (hk' : k ≤ 1073741824) (hx : 0 < xs.length) (hx' : xs.length ≤ 1000) :
    ACalls pk 47 [.one (.op 0 0 0), .one (.fs (xs.map eI))] [oR bs k] (fun r o => (∃ v ∈ xs, r = .one (.int .i64 v)) ∧ o = [oR bs (k + 1)]) := by
  refine acalls_of_body Tryz.func47 rfl (by kernel_rfl) rfl ?_
  refine rn rfl ?_
  have hL : (((xs.map eI).length : Nat) : Int) = xs.length := by simp
  rw [hL]
  refine goal_step (step_call [0] rfl rfl rfl rfl rfl rfl (pick_ct bs k xs.length hb hk hk' (by omega))) ?_
  rintro σ2 ⟨r, o', ⟨⟨z, rfl, hz, _⟩, rfl⟩, hσ⟩
  obtain rfl := Option.some.inj hσ
  clear hσ
  obtain ⟨z0, z1⟩ := hz (by omega)
  obtain ⟨v, hv⟩ := at_some (xs := xs) (i := z.toNat) (by omega)
  refine goal_did rfl rfl (dA_index (eI v) rfl rfl rfl rfl rfl rfl rfl z0 (by rw [hL]; exact z1) (map_at hv) rfl) ?_
  exact rn rfl (fin_is [] rfl ⟨⟨v, List.mem_of_getElem? hv, rfl⟩, rfl⟩)

theorem of_ct (bs : Str) (k : Int) (xs : List Str) (hb : bs.length ≤ 2000) (hk : 0 ≤ k) (hk' : k ≤ 1073741824) (hx : 0 < xs.length) (hx' : xs.length ≤ 1000) :
    ACalls pk 46 [.one (.op 0 0 0), .one (.fs (xs.map eS))] [oR bs k] (fun r o => (∃ v ∈ xs, r = .one (.str v)) ∧ o = [oR bs (k + 1)]) := by
  refine acalls_of_body Tryz.func46 rfl (by kernel_rfl) rfl ?_
  refine rn rfl ?_
  have hL : (((xs.map eS).length : Nat) : Int) = xs.length := by simp
  rw [hL]
  refine goal_step (step_call [0] rfl rfl rfl rfl rfl rfl (pick_ct bs k xs.length hb hk hk' (by omega))) ?_
  rintro σ2 ⟨r, o', ⟨⟨z, rfl, hz, _⟩, rfl⟩, hσ⟩
  obtain rfl := Option.some.inj hσ
  clear hσ
  obtain ⟨z0, z1⟩ := hz (by omega)
  obtain ⟨v, hv⟩ := at_some (xs := xs) (i := z.toNat) (by omega)
  refine goal_did rfl rfl (dA_index (eS v) rfl rfl rfl rfl rfl rfl rfl z0 (by rw [hL]; exact z1) (map_at hv) rfl) ?_
  exact rn rfl (fin_is [] rfl ⟨⟨v, List.mem_of_getElem? hv, rfl⟩, rfl⟩)

theorem aNumber_ct (bs : Str) (k : Int) (hb : bs.length ≤ 2000) (hk : 0 ≤ k) (hk' : k ≤ 1073741824) :
    ACalls pk 79 [.one (.op 0 0 0)] [oR bs k] (fun r o => (∃ v : Int, -100 ≤ v ∧ v ≤ 100 ∧ r = .one (.int .i64 v)) ∧ o = [oR bs (k + 1)]) := by
  refine acalls_of_body Tryz.func79 rfl (by kernel_rfl) rfl ?_
  refine rn rfl ?_
  refine goal_step (step_callE [0] rfl rfl rfl rfl rfl rfl rfl (one_ct bs k [1, 2, 3, 0, 5, -1, 7, 99, -99] hb hk hk' (by decide) (by decide))) ?_
  rintro σ2 ⟨r, o', ⟨⟨v, hv, rfl⟩, rfl⟩, hσ⟩
  obtain rfl := Option.some.inj hσ
  clear hσ
  refine rn rfl (fin_is [] rfl ⟨⟨v, ?_, ?_, rfl⟩, rfl⟩) <;> (simp at hv; omega)

theorem aName_ct (bs : Str) (k : Int) (hb : bs.length ≤ 2000) (hk : 0 ≤ k) (hk' : k ≤ 1073741824) :
    ACalls pk 89 [.one (.op 0 0 0)] [oR bs k] (fun r o => (∃ v : Str, v.length ≤ 7 ∧ r = .one (.str v)) ∧ o = [oR bs (k + 1)]) := by
  refine acalls_of_body Tryz.func89 rfl (by kernel_rfl) rfl ?_
  refine rn rfl ?_
  refine goal_step (step_callE [0] rfl rfl rfl rfl rfl rfl rfl (of_ct bs k [[97], [98], [99], [100], [120], [121], [97], [98], [99]] hb hk hk' (by decide) (by decide))) ?_
  rintro σ2 ⟨r, o', ⟨⟨v, hv, rfl⟩, rfl⟩, hσ⟩
  obtain rfl := Option.some.inj hσ
  clear hσ
  refine rn rfl (fin_is [] rfl ⟨⟨v, ?_, rfl⟩, rfl⟩)
  simp at hv
  rcases hv with rfl | rfl | rfl | rfl | rfl | rfl | rfl | rfl | rfl <;> decide

theorem anyNumber_ct (bs : Str) (k : Int) (hb : bs.length ≤ 2000) (hk : 0 ≤ k) (hk' : k ≤ 1073741000) :
    ACalls pk 49 [.one (.op 0 0 0)] [oR bs k] (fun r o => (∃ v : Int, -100 ≤ v ∧ v ≤ 100 ∧ r = .one (.int .i64 v)) ∧ o = [oR bs (k + 2)]) := by
  refine acalls_of_body Tryz.func49 rfl (by kernel_rfl) rfl ?_
  refine rn rfl ?_
  refine goal_step (step_call [0] rfl rfl rfl rfl rfl rfl (pick_ct bs k 16 hb hk (by omega) (by omega))) ?_
  rintro σ2 ⟨r, o', ⟨⟨z, rfl, _, _⟩, rfl⟩, hσ⟩
  obtain rfl := Option.some.inj hσ
  clear hσ
  have hk2 : k + 1 + 1 = k + 2 := by omega
  refine rn rfl ?_
  refine goal_cond rfl (fun h => ?_) (fun h => ?_)
  · refine rn rfl ?_
    refine goal_step (step_callE [0] rfl rfl rfl rfl rfl rfl rfl (one_ct bs (k + 1) [100, -100] hb (by omega) (by omega) (by decide) (by decide))) ?_
    rintro σ2 ⟨r, o', ⟨⟨v, hv, rfl⟩, rfl⟩, hσ⟩
    obtain rfl := Option.some.inj hσ
    clear hσ
    rw [hk2]
    refine rn rfl (fin_is [] rfl ⟨⟨v, ?_, ?_, rfl⟩, rfl⟩) <;> (simp at hv; omega)
  · refine rn rfl ?_
    refine goal_step (step_call [0] rfl rfl rfl rfl rfl rfl (aNumber_ct bs (k + 1) hb (by omega) (by omega))) ?_
    rintro σ2 ⟨r, o', ⟨⟨v, v1, v2, rfl⟩, rfl⟩, hσ⟩
    obtain rfl := Option.some.inj hσ
    clear hσ
    rw [hk2]
    exact rn rfl (fin_is [] rfl ⟨⟨v, v1, v2, rfl⟩, rfl⟩)

theorem anyName_ct (bs : Str) (k : Int) (hb : bs.length ≤ 2000) (hk : 0 ≤ k) (hk' : k ≤ 1073741000) :
    ACalls pk 69 [.one (.op 0 0 0)] [oR bs k] (fun r o => (∃ v : Str, v.length ≤ 7 ∧ r = .one (.str v)) ∧ o = [oR bs (k + 2)]) := by
  refine acalls_of_body Tryz.func69 rfl (by kernel_rfl) rfl ?_
  refine rn rfl ?_
  refine goal_step (step_call [0] rfl rfl rfl rfl rfl rfl (pick_ct bs k 16 hb hk (by omega) (by omega))) ?_
  rintro σ2 ⟨r, o', ⟨⟨z, rfl, _, _⟩, rfl⟩, hσ⟩
  obtain rfl := Option.some.inj hσ
  clear hσ
  have hk2 : k + 1 + 1 = k + 2 := by omega
  refine rn rfl ?_
  refine goal_cond rfl (fun h => ?_) (fun h => ?_)
  · refine rn rfl ?_
    refine goal_step (step_callE [0] rfl rfl rfl rfl rfl rfl rfl (of_ct bs (k + 1) [[], [65], [116, 111, 111, 108, 111, 110, 103], [97, 49], [97, 98, 99, 100, 101, 102]] hb (by omega) (by omega) (by decide) (by decide))) ?_
    rintro σ2 ⟨r, o', ⟨⟨v, hv, rfl⟩, rfl⟩, hσ⟩
    obtain rfl := Option.some.inj hσ
    clear hσ
    rw [hk2]
    refine rn rfl (fin_is [] rfl ⟨⟨v, ?_, rfl⟩, rfl⟩)
    simp at hv
    rcases hv with rfl | rfl | rfl | rfl | rfl <;> decide
  · refine rn rfl ?_
    refine goal_step (step_call [0] rfl rfl rfl rfl rfl rfl (aName_ct bs (k + 1) hb (by omega) (by omega))) ?_
    rintro σ2 ⟨r, o', ⟨⟨v, v1, rfl⟩, rfl⟩, hσ⟩
    obtain rfl := Option.some.inj hσ
    clear hσ
    rw [hk2]
    exact rn rfl (fin_is [] rfl ⟨⟨v, v1, rfl⟩, rfl⟩)

theorem newReader_ct (bs : Str) : ACalls pk 38 [.one (.fs (bs.map rowB))] [] (fun r o => r = .one (.op 0 0 0) ∧ o = [oR (bs.take 2000) 0]) := by
  refine acalls_of_body Tryz.func38 rfl (by kernel_rfl) rfl ?_
  refine rn rfl ?_
  refine goal_cond rfl (fun h => ?_) (fun h => ?_) <;> simp only [List.length_map, gt_iff_lt, decide_eq_true_eq, decide_eq_false_iff_not] at h
  · refine rn rfl ?_
    refine goal_did rfl rfl (dA_slice 0 2000 ((bs.take 2000).map rowB) rfl rfl rfl rfl rfl Bnd.none_ (Bnd.some_ rfl rfl) (rows_len rowB_len _) (by omega) (by simp; omega) rfl (by simp)) ?_
    exact rn rfl (fin_is [0] rfl ⟨rfl, rfl⟩)
  · rw [List.take_of_length_le (by omega)]
    exact rn rfl (fin_is [0] rfl ⟨rfl, rfl⟩)

/-- What draws give: small flats. -/
structure Small (f : Flat) (a b : Nat) : Prop where
  places : f.places.length ≤ a
  named : f.named.length ≤ b
  names : ∀ p ∈ f.named, p.name.length ≤ 7
  vals : ∀ p ∈ f.named, -100 ≤ p.value ∧ p.value ≤ 100
  nums : ∀ n ∈ f.places, -100 ≤ n ∧ n ≤ 100

theorem takeAll {α : Type} (enc : α → List C) (xs : List α) (n : Nat) (h : xs.length = n) : List.take n (List.drop 0 (xs.map enc)) = xs.map enc := by
  subst h; simp [List.take_of_length_le]

theorem Small.long {f : Flat} {a b : Nat} (h : Small f a b) : ∀ p ∈ f.named, p.name.length ≤ 9223372036854775807 := fun p hp => by have := h.names p hp; omega

theorem insL_perm (p : Pair) (S : List Pair) : (insL p S).Perm (p :: S) := by
  unfold insL
  have h := List.takeWhile_append_dropWhile (p := fun q => ltN q p) (l := S)
  exact (List.perm_middle).trans (by rw [h])

theorem foldl_insL_sorted : ∀ (xs S : List Pair), Sorted S → (namesOf (xs ++ S)).Nodup → Sorted (xs.foldl (fun out p => insL p out) S)
  | [], S, h, _ => h
  | x :: xs, S, h, hn => by
    simp only [List.foldl_cons]
    have hx : ∀ q ∈ S, q.name ≠ x.name := by
      intro q hq he
      simp only [namesOf, List.cons_append, List.map_cons, List.nodup_cons, List.map_append, List.mem_append, not_or] at hn
      exact hn.1.2 (he ▸ List.mem_map_of_mem hq)
    refine foldl_insL_sorted xs _ (insL_sorted h hx) ?_
    refine (List.Perm.nodup_iff ?_).1 hn
    exact (List.Perm.map _ ((List.Perm.append_left xs (insL_perm x S)).trans List.perm_middle)).symm

theorem sortL_sorted {xs : List Pair} (h : (namesOf xs).Nodup) : Sorted (sortL xs) := foldl_insL_sorted xs [] List.Pairwise.nil (by simpa using h)

structure OkF (f : Flat) : Prop where
  pairs : ∀ p ∈ f.named, okPair p = true
  nodup : (namesOf f.named).Nodup
  vals : ∀ n ∈ f.places, okVal n = true
  places : f.places.length ≤ 8
  named : f.named.length ≤ 8

theorem okFlat_iff {f : Flat} : okFlat f = true ↔ OkF f := by
  simp only [okFlat, Bool.and_eq_true, List.all_eq_true, decide_eq_true_eq]
  exact ⟨fun ⟨⟨⟨⟨a, b⟩, c⟩, d⟩, e⟩ => ⟨a, b, c, d, e⟩, fun ⟨a, b, c, d, e⟩ => ⟨⟨⟨⟨a, b⟩, c⟩, d⟩, e⟩⟩

structure Param where
  name : Str
  kind : Int
  hasD : Bool
  dflt : Int
deriving DecidableEq

def eQ (p : Param) : List C := [.str p.name, .int .i64 p.kind, .bool p.hasD, .int .i64 p.dflt]

abbrev Sig := List Param

def eG (s : Sig) : List C := [.fs (s.map eQ)]

theorem eQ_len (p : Param) : (eQ p).length = 4 := rfl

theorem eQ_noOwn (p : Param) : noOwnL (eQ p) = true := rfl

theorem eS_len (p : Str) : (eS p).length = 1 := rfl

theorem eS_noOwn (p : Str) : noOwnL (eS p) = true := rfl

def ownQ (xs : List Param) : Option AObj := some ⟨4, xs.map eQ, true, false, false⟩

def ownS (xs : List Str) : Option AObj := some ⟨1, xs.map eS, true, false, false⟩

def zQ : Param := ⟨[], 0, false, 0⟩

def placedQ (p : Param) : Bool := p.kind == 0 || p.kind == 1

def namedQ (p : Param) : Bool := p.kind == 1 || p.kind == 3

def singleQ (p : Param) : Bool := placedQ p || p.kind == 3

theorem singleQ' (p : Param) : (placedQ p || namedQ p) = singleQ p := by
  simp only [singleQ, placedQ, namedQ]
  cases (p.kind == 0) <;> cases (p.kind == 1) <;> cases (p.kind == 3) <;> rfl

theorem iplaced_ct (p : Param) : ACalls pk 57 [.agg (eQ p)] [] (fun r o => r = .one (.bool (placedQ p)) ∧ o = []) := by
  refine acalls_of_body Tryz.func57 rfl (by kernel_rfl) rfl ?_
  refine rn rfl ?_
  refine goal_guard rfl rfl rfl (fun h => ?_) (fun h => ?_)
  · exact rn rfl (fin_is [] rfl ⟨by simp [placedQ, h], rfl⟩)
  · exact rn rfl (fin_is [] rfl ⟨by simp [placedQ, h], rfl⟩)

theorem splaced_ct (p : Param) : ACalls pk 92 [.agg (eQ p)] [] (fun r o => r = .one (.bool (placedQ p)) ∧ o = []) := by
  refine acalls_of_body Tryz.func92 rfl (by kernel_rfl) rfl ?_
  refine rn rfl ?_
  refine goal_guard rfl rfl rfl (fun h => ?_) (fun h => ?_)
  · exact rn rfl (fin_is [] rfl ⟨by simp [placedQ, h], rfl⟩)
  · exact rn rfl (fin_is [] rfl ⟨by simp [placedQ, h], rfl⟩)

theorem inamed_ct (p : Param) : ACalls pk 129 [.agg (eQ p)] [] (fun r o => r = .one (.bool (namedQ p)) ∧ o = []) := by
  refine acalls_of_body Tryz.func129 rfl (by kernel_rfl) rfl ?_
  refine rn rfl ?_
  refine goal_guard rfl rfl rfl (fun h => ?_) (fun h => ?_)
  · exact rn rfl (fin_is [] rfl ⟨by simp [namedQ, h], rfl⟩)
  · exact rn rfl (fin_is [] rfl ⟨by simp [namedQ, h], rfl⟩)

theorem snamed_ct (p : Param) : ACalls pk 114 [.agg (eQ p)] [] (fun r o => r = .one (.bool (namedQ p)) ∧ o = []) := by
  refine acalls_of_body Tryz.func114 rfl (by kernel_rfl) rfl ?_
  refine rn rfl ?_
  refine goal_guard rfl rfl rfl (fun h => ?_) (fun h => ?_)
  · exact rn rfl (fin_is [] rfl ⟨by simp [namedQ, h], rfl⟩)
  · exact rn rfl (fin_is [] rfl ⟨by simp [namedQ, h], rfl⟩)

theorem isingle_ct (p : Param) : ACalls pk 56 [.agg (eQ p)] [] (fun r o => r = .one (.bool (singleQ p)) ∧ o = []) := by
  refine acalls_of_body Tryz.func56 rfl (by kernel_rfl) rfl ?_
  refine rn rfl ?_
  refine goal_step (step_call [] rfl rfl rfl rfl rfl rfl (iplaced_ct p)) ?_
  rintro σ2 ⟨r, o', ⟨rfl, rfl⟩, hσ⟩
  obtain rfl := Option.some.inj hσ
  clear hσ
  refine rn rfl ?_
  refine goal_guard rfl rfl rfl (fun h => ?_) (fun h => ?_)
  · exact rn rfl (fin_is [] rfl ⟨by simp [singleQ, h], rfl⟩)
  · exact rn rfl (fin_is [] rfl ⟨by simp [singleQ, h], rfl⟩)

theorem ssingle_ct (p : Param) : ACalls pk 91 [.agg (eQ p)] [] (fun r o => r = .one (.bool (singleQ p)) ∧ o = []) := by
  refine acalls_of_body Tryz.func91 rfl (by kernel_rfl) rfl ?_
  refine rn rfl ?_
  refine goal_step (step_call [] rfl rfl rfl rfl rfl rfl (splaced_ct p)) ?_
  rintro σ2 ⟨r, o', ⟨rfl, rfl⟩, hσ⟩
  obtain rfl := Option.some.inj hσ
  clear hσ
  refine rn rfl ?_
  refine goal_guard rfl rfl rfl (fun h => ?_) (fun h => ?_)
  · exact rn rfl (fin_is [] rfl ⟨by simp [← singleQ', h], rfl⟩)
  · refine rn rfl ?_
    refine goal_step (step_call [] rfl rfl rfl rfl rfl rfl (snamed_ct p)) ?_
    rintro σ2 ⟨r, o', ⟨rfl, rfl⟩, hσ⟩
    obtain rfl := Option.some.inj hσ
    clear hσ
    refine rn rfl ?_
    exact rn rfl (fin_is [] rfl ⟨by simp [← singleQ', h], rfl⟩)

def qIs (n : Str) (p : Param) : Bool := p.name == n

def kIs (k : Int) (p : Param) : Bool := p.kind == k

theorem findC_ct (p : Param) (n : Str) : ACalls pk 73 [.agg (eQ p), .one (.fp [.str n])] [] (fun r o => r = .one (.bool (qIs n p)) ∧ o = []) := by
  refine acalls_of_body Tryz.func73 rfl (by kernel_rfl) rfl ?_
  refine rn rfl ?_
  exact rn rfl (fin_is [] rfl ⟨rfl, rfl⟩)

theorem hasC_ct (p : Param) (k : Int) : ACalls pk 84 [.agg (eQ p), .one (.fp [.int .i64 k])] [] (fun r o => r = .one (.bool (kIs k p)) ∧ o = []) := by
  refine acalls_of_body Tryz.func84 rfl (by kernel_rfl) rfl ?_
  refine rn rfl ?_
  exact rn rfl (fin_is [] rfl ⟨rfl, rfl⟩)

theorem takesC_ct (p : Param) : ACalls pk 130 [.agg (eQ p)] [] (fun r o => r = .one (.bool (kIs 4 p)) ∧ o = []) := by
  refine acalls_of_body Tryz.func130 rfl (by kernel_rfl) rfl ?_
  refine rn rfl ?_
  exact rn rfl (fin_is [] rfl ⟨rfl, rfl⟩)

theorem indexQ_ct (xs : List Param) (hb : xs.length ≤ 9223372036854775807) (pred : Param → Bool) (f : FuncId) (cs : List C)
    (hcl : ∀ p, ACalls pk f [.agg (eQ p), .one (.fp cs)] [] (fun r o => r = .one (.bool (pred p)) ∧ o = [])) :
    ACalls pk 72 [.one (.fs (xs.map eQ)), .one (.fn f [.fp cs])] [] (fun r o => r = .one (.int .i64 (idxI pred xs 0)) ∧ o = []) := by
  refine acalls_of_body Tryz.func72 rfl (by kernel_rfl) rfl ?_
  refine rn rfl ?_
  refine goal_loop_keep (fun m σ => ∃ (n L : Int) (i : Nat), n = i ∧ L = xs.length ∧ i ≤ xs.length ∧ m = xs.length - i ∧ idxI pred xs 0 = idxI pred (xs.drop i) i ∧
      σ = ⟨[(8, .one (.int .i64 n)), (7, .one (.int .i64 L)), (1, .one (.fn f [.fp cs])), (0, .one (.fs (xs.map eQ)))], [], []⟩) xs.length [8, 7, 1, 0] [] rfl
    ⟨_, _, 0, rfl, by simp, by omega, by omega, by simp, rfl⟩ ?_
  rintro m σ ⟨n, L, i, rfl, rfl, hi, rfl, hidx, rfl⟩
  refine rn rfl ?_
  refine goal_cond rfl (fun h => ?_) (fun h => ?_) <;> (try simp only [gt_iff_lt, ge_iff_le, bne_iff_ne, ne_eq, bne_eq_false_iff_eq, beq_iff_eq, beq_eq_false_iff_ne, Bool.not_eq_true', Bool.not_eq_false', decide_eq_true_eq, decide_eq_false_iff_not, List.length_map] at h)
  · obtain ⟨p, hp⟩ := at_some (xs := xs) (i := i) (by omega)
    refine rn rfl ?_
    refine goal_did rfl rfl (dA_index (eQ p) rfl rfl rfl rfl rfl rfl rfl (by omega) (by (try simp); omega) (map_at (by simpa using hp)) rfl) ?_
    refine rn rfl ?_
    refine goal_step (step_call [] rfl rfl rfl rfl rfl rfl (hcl p)) ?_
    rintro σ2 ⟨r, o', ⟨rfl, rfl⟩, hσ⟩
    obtain rfl := Option.some.inj hσ
    clear hσ
    refine rn rfl ?_
    refine goal_cond rfl (fun h2 => ?_) (fun h2 => ?_)
    · refine rn rfl (round_ret (fin_is [] rfl ⟨?_, rfl⟩))
      rw [hidx, drop_at hp]; simp [idxI, h2]
    · refine rn rfl ?_
      refine round_keep (xs.length - (i + 1)) [8, 7, 1, 0] [] (by omega) rfl ⟨_, _, i + 1, wrap64 (by omega) (by omega), rfl, by omega, rfl, ?_, rfl⟩
      rw [hidx, drop_at hp]; simp [idxI, h2]
  · refine rn rfl (round_ext ?_)
    refine rn rfl (fin_is [] rfl ⟨?_, rfl⟩)
    rw [hidx, List.drop_eq_nil_of_le (by omega)]; rfl

theorem indexQ0_ct (xs : List Param) (hb : xs.length ≤ 9223372036854775807) (pred : Param → Bool) (f : FuncId)
    (hcl : ∀ p, ACalls pk f [.agg (eQ p)] [] (fun r o => r = .one (.bool (pred p)) ∧ o = [])) :
    ACalls pk 72 [.one (.fs (xs.map eQ)), .one (.fn f [])] [] (fun r o => r = .one (.int .i64 (idxI pred xs 0)) ∧ o = []) := by
  refine acalls_of_body Tryz.func72 rfl (by kernel_rfl) rfl ?_
  refine rn rfl ?_
  refine goal_loop_keep (fun m σ => ∃ (n L : Int) (i : Nat), n = i ∧ L = xs.length ∧ i ≤ xs.length ∧ m = xs.length - i ∧ idxI pred xs 0 = idxI pred (xs.drop i) i ∧
      σ = ⟨[(8, .one (.int .i64 n)), (7, .one (.int .i64 L)), (1, .one (.fn f [])), (0, .one (.fs (xs.map eQ)))], [], []⟩) xs.length [8, 7, 1, 0] [] rfl
    ⟨_, _, 0, rfl, by simp, by omega, by omega, by simp, rfl⟩ ?_
  rintro m σ ⟨n, L, i, rfl, rfl, hi, rfl, hidx, rfl⟩
  refine rn rfl ?_
  refine goal_cond rfl (fun h => ?_) (fun h => ?_) <;> (try simp only [gt_iff_lt, ge_iff_le, bne_iff_ne, ne_eq, bne_eq_false_iff_eq, beq_iff_eq, beq_eq_false_iff_ne, Bool.not_eq_true', Bool.not_eq_false', decide_eq_true_eq, decide_eq_false_iff_not, List.length_map] at h)
  · obtain ⟨p, hp⟩ := at_some (xs := xs) (i := i) (by omega)
    refine rn rfl ?_
    refine goal_did rfl rfl (dA_index (eQ p) rfl rfl rfl rfl rfl rfl rfl (by omega) (by (try simp); omega) (map_at (by simpa using hp)) rfl) ?_
    refine rn rfl ?_
    refine goal_step (step_call [] rfl rfl rfl rfl rfl rfl (hcl p)) ?_
    rintro σ2 ⟨r, o', ⟨rfl, rfl⟩, hσ⟩
    obtain rfl := Option.some.inj hσ
    clear hσ
    refine rn rfl ?_
    refine goal_cond rfl (fun h2 => ?_) (fun h2 => ?_)
    · refine rn rfl (round_ret (fin_is [] rfl ⟨?_, rfl⟩))
      rw [hidx, drop_at hp]; simp [idxI, h2]
    · refine rn rfl ?_
      refine round_keep (xs.length - (i + 1)) [8, 7, 1, 0] [] (by omega) rfl ⟨_, _, i + 1, wrap64 (by omega) (by omega), rfl, by omega, rfl, ?_, rfl⟩
      rw [hidx, drop_at hp]; simp [idxI, h2]
  · refine rn rfl (round_ext ?_)
    refine rn rfl (fin_is [] rfl ⟨?_, rfl⟩)
    rw [hidx, List.drop_eq_nil_of_le (by omega)]; rfl

theorem containsQ_ct (xs : List Param) (hb : xs.length ≤ 9223372036854775807) (pred : Param → Bool) (f : FuncId) (cs : List C)
    (hcl : ∀ p, ACalls pk f [.agg (eQ p), .one (.fp cs)] [] (fun r o => r = .one (.bool (pred p)) ∧ o = [])) :
    ACalls pk 83 [.one (.fs (xs.map eQ)), .one (.fn f [.fp cs])] [] (fun r o => r = .one (.bool (xs.any pred)) ∧ o = []) := by
  refine acalls_of_body Tryz.func83 rfl (by kernel_rfl) rfl ?_
  refine rn rfl ?_
  refine goal_step (step_call [] rfl rfl rfl rfl rfl rfl (indexQ_ct xs hb pred f cs hcl)) ?_
  rintro σ2 ⟨r, o', ⟨rfl, rfl⟩, hσ⟩
  obtain rfl := Option.some.inj hσ
  clear hσ
  refine rn rfl ?_
  refine rn rfl (fin_is [] rfl ⟨?_, rfl⟩)
  congr 1; congr 1
  have := idxI_ge (pred := pred) (xs := xs) (i := 0)
  cases h : xs.any pred with
  | true => simp [this.2 h]
  | false => rw [idxI_none.2 h]; rfl

theorem find_ct (s : Sig) (n : Str) (hb : s.length ≤ 9223372036854775807) : ACalls pk 44 [.one (.fs (s.map eQ)), .one (.str n)] [] (fun r o => r = .one (.int .i64 (idxI (qIs n) s 0)) ∧ o = []) := by
  refine acalls_of_body Tryz.func44 rfl (by kernel_rfl) rfl ?_
  refine rn rfl ?_
  refine goal_step (step_call [] rfl rfl rfl rfl rfl rfl (indexQ_ct s hb (qIs n) _ _ (fun p => findC_ct p n))) ?_
  rintro σ2 ⟨r, o', ⟨rfl, rfl⟩, hσ⟩
  obtain rfl := Option.some.inj hσ
  clear hσ
  refine rn rfl ?_
  exact rn rfl (fin_is [] rfl ⟨rfl, rfl⟩)

theorem has_ct (s : Sig) (k : Int) (hb : s.length ≤ 9223372036854775807) : ACalls pk 60 [.agg (eG s), .one (.int .i64 k)] [] (fun r o => r = .one (.bool (s.any (kIs k))) ∧ o = []) := by
  refine acalls_of_body Tryz.func60 rfl (by kernel_rfl) rfl ?_
  refine rn rfl ?_
  refine goal_step (step_call [] rfl rfl rfl rfl rfl rfl (containsQ_ct s hb (kIs k) _ _ (fun p => hasC_ct p k))) ?_
  rintro σ2 ⟨r, o', ⟨rfl, rfl⟩, hσ⟩
  obtain rfl := Option.some.inj hσ
  clear hσ
  refine rn rfl ?_
  exact rn rfl (fin_is [] rfl ⟨rfl, rfl⟩)

theorem sfind_ct (xs : List Param) (n : Str) (hb : xs.length ≤ 9223372036854775807) :
    ACalls pk 41 [.one (.fs (xs.map eQ)), .one (.str n)] [] (fun r o => r = .one (.int .i64 (idxI (qIs n) xs 0)) ∧ o = []) := by
  refine acalls_of_body Tryz.func41 rfl (by kernel_rfl) rfl ?_
  refine rn rfl ?_
  refine goal_loop_keep (fun m σ => ∃ (q : Int) (i : Nat), q = i ∧ i ≤ xs.length ∧ m = xs.length - i ∧ idxI (qIs n) xs 0 = idxI (qIs n) (xs.drop i) i ∧
      σ = ⟨[(5, .one (.int .i64 q)), (1, .one (.str n)), (0, .one (.fs (xs.map eQ)))], [], []⟩) xs.length [5, 1, 0] [] rfl
    ⟨_, 0, rfl, by omega, by omega, by simp, rfl⟩ ?_
  rintro m σ ⟨q, i, rfl, hi, rfl, hidx, rfl⟩
  refine rn rfl ?_
  refine goal_cond rfl (fun h => ?_) (fun h => ?_) <;> (try simp only [gt_iff_lt, ge_iff_le, bne_iff_ne, ne_eq, bne_eq_false_iff_eq, beq_iff_eq, beq_eq_false_iff_ne, Bool.not_eq_true', Bool.not_eq_false', decide_eq_true_eq, decide_eq_false_iff_not, List.length_map] at h)
  · obtain ⟨p, hp⟩ := at_some (xs := xs) (i := i) (by omega)
    refine rn rfl ?_
    refine goal_did rfl rfl (dA_index (eQ p) rfl rfl rfl rfl rfl rfl rfl (by omega) (by (try simp); omega) (map_at (by simpa using hp)) rfl) ?_
    refine rn rfl ?_
    refine goal_cond rfl (fun h2 => ?_) (fun h2 => ?_) <;> (try simp only [gt_iff_lt, ge_iff_le, bne_iff_ne, ne_eq, bne_eq_false_iff_eq, beq_iff_eq, beq_eq_false_iff_ne, Bool.not_eq_true', Bool.not_eq_false', decide_eq_true_eq, decide_eq_false_iff_not, List.length_map] at h2)
    · refine rn rfl (round_ret (fin_is [] rfl ⟨?_, rfl⟩))
      rw [hidx, drop_at hp]; simp [idxI, qIs, h2]
    · refine rn rfl ?_
      refine round_keep (xs.length - (i + 1)) [5, 1, 0] [] (by omega) rfl ⟨_, i + 1, wrap64 (by omega) (by omega), by omega, rfl, ?_, rfl⟩
      rw [hidx, drop_at hp]; simp [idxI, qIs, h2]
  · refine rn rfl (round_ext ?_)
    refine rn rfl (fin_is [] rfl ⟨?_, rfl⟩)
    rw [hidx, List.drop_eq_nil_of_le (by omega)]; rfl

def okQ (p : Param) : Bool := okName p.name && inR p.kind 0 4 && okVal p.dflt && (p.hasD || p.dflt == 0) && (singleQ p || !p.hasD)

def nextQ (l p : Param) : Bool := decide (l.kind ≤ p.kind) && (p.kind != l.kind || singleQ p) && (!placedQ p || !l.hasD || p.hasD)

def stepQ (pre : Sig) (p : Param) : Bool := okQ p && !pre.any (qIs p.name) && (match pre.getLast? with
  | none => true
  | some l => nextQ l p)

def okQs : Sig → Sig → Bool
  | _, [] => true
  | pre, p :: r => stepQ pre p && okQs (pre ++ [p]) r

def okSig (s : Sig) : Bool := okQs [] s && decide (s.length ≤ 8)

theorem take_snoc {α : Type} {xs : List α} {i : Nat} {x : α} (h : xs[i]? = some x) : xs.take i ++ [x] = xs.take (i + 1) := by
  rw [List.take_add_one, h]; rfl

theorem okQs_at {s : Sig} {i : Nat} {p : Param} (h : okQs [] s = okQs (s.take i) (s.drop i)) (hp : s[i]? = some p) : okQs [] s = (stepQ (s.take i) p && okQs (s.take (i + 1)) (s.drop (i + 1))) := by
  rw [h, drop_at hp, okQs, take_snoc hp]

theorem okSig_stop {s : Sig} {i : Nat} {p : Param} (h : okQs [] s = okQs (s.take i) (s.drop i)) (hp : s[i]? = some p) (hf : stepQ (s.take i) p = false) : okSig s = false := by
  rw [okSig, okQs_at h hp, hf]; rfl

theorem okQs_go {s : Sig} {i : Nat} {p : Param} (h : okQs [] s = okQs (s.take i) (s.drop i)) (hp : s[i]? = some p) (hf : stepQ (s.take i) p = true) : okQs [] s = okQs (s.take (i + 1)) (s.drop (i + 1)) := by
  rw [okQs_at h hp, hf]; rfl

theorem last_take {α : Type} {xs : List α} {i : Nat} {x : α} (h : xs[i]? = some x) : (xs.take (i + 1)).getLast? = some x := by
  rw [← take_snoc h]; simp

theorem ivalidSig_ct (s : Sig) (hb : s.length ≤ 9223372036854775807) (hn : ∀ p ∈ s, p.name.length ≤ 9223372036854775807) :
    ACalls pk 23 [.agg (eG s)] [] (fun r o => r = .one (.bool (okSig s)) ∧ o = []) := by
  refine acalls_of_body Tryz.func23 rfl (by kernel_rfl) rfl ?_
  refine rn rfl ?_
  refine goal_loop_keep (fun m σ => ∃ (n L : Int) (i : Nat) (ob : Bool), n = i ∧ L = s.length ∧ i ≤ s.length ∧ m = s.length - i ∧ okQs [] s = okQs (s.take i) (s.drop i) ∧
      (∀ l, (s.take i).getLast? = some l → okQ l = true ∧ (placedQ l = true → ob = l.hasD)) ∧ (i = 0 → ob = false) ∧
      σ = ⟨[(10, .one (.int .i64 n)), (9, .one (.int .i64 L)), (8, .one (.fs (s.map eQ))), (3, .one (.bool ob)), (1, .one (.op 0 0 0))], [some ⟨1, [eG s], false, false, true⟩], []⟩) s.length [10, 9, 8, 3, 1] [0] rfl
    ⟨_, _, 0, _, rfl, by simp, by omega, by omega, by simp, by simp, fun _ => rfl, rfl⟩ ?_
  rintro m σ ⟨n, L, i, ob, rfl, rfl, hi, rfl, hok, hlast, hzero, rfl⟩
  refine rn rfl ?_
  refine goal_cond rfl (fun h => ?_) (fun h => ?_) <;> (try simp only [gt_iff_lt, ge_iff_le, bne_iff_ne, ne_eq, bne_eq_false_iff_eq, beq_iff_eq, beq_eq_false_iff_ne, Bool.not_eq_true', Bool.not_eq_false', decide_eq_true_eq, decide_eq_false_iff_not, List.length_map] at h)
  · obtain ⟨p, hp⟩ := at_some (xs := s) (i := i) (by omega)
    have hstop := okSig_stop hok hp
    have hgo := okQs_go hok hp
    have hpn := hn p (List.mem_of_getElem? hp)
    refine rn rfl ?_
    refine goal_did rfl rfl (dA_index (eQ p) rfl rfl rfl rfl rfl rfl rfl (by omega) (by (try simp); omega) (map_at (by simpa using hp)) rfl) ?_
    refine rt 5 rfl ?_
    refine goal_cutR (fun σ => okQ p = true ∧ σ = ⟨[(10, .one (.int .i64 i)), (9, .one (.int .i64 s.length)), (8, .one (.fs (s.map eQ))), (5, .one (.op 1 0 0)), (4, .one (.int .i64 i)), (3, .one (.bool ob)), (1, .one (.op 0 0 0))],
      [some ⟨1, [eG s], false, false, true⟩, some ⟨4, [eQ p], false, false, true⟩], []⟩) ?_ ?_
    · refine rn rfl ?_
      refine goal_step (step_call [] rfl rfl rfl rfl rfl rfl (isName_ct p.name hpn)) ?_
      rintro σ2 ⟨r, o', ⟨rfl, rfl⟩, hσ⟩
      obtain rfl := Option.some.inj hσ
      clear hσ
      refine rn rfl ?_
      refine goal_guard rfl rfl rfl (fun h1 => ?_) (fun h1 => ?_) <;> (try simp only [gt_iff_lt, ge_iff_le, bne_iff_ne, ne_eq, bne_eq_false_iff_eq, beq_iff_eq, beq_eq_false_iff_ne, Bool.not_eq_true', Bool.not_eq_false', decide_eq_true_eq, decide_eq_false_iff_not, List.length_map] at h1)
      · refine rn rfl ?_
        refine cut_ret ?_
        refine round_ret ?_
        refine fin_is [] rfl ⟨?_, rfl⟩
        rw [hstop (by simp [stepQ, okQ, h1])]
      refine rn rfl ?_
      refine goal_step (step_call [] rfl rfl rfl rfl rfl rfl (iin_ct p.kind 0 4)) ?_
      rintro σ2 ⟨r, o', ⟨rfl, rfl⟩, hσ⟩
      obtain rfl := Option.some.inj hσ
      clear hσ
      refine rn rfl ?_
      refine goal_guard rfl rfl rfl (fun h2 => ?_) (fun h2 => ?_) <;> (try simp only [gt_iff_lt, ge_iff_le, bne_iff_ne, ne_eq, bne_eq_false_iff_eq, beq_iff_eq, beq_eq_false_iff_ne, Bool.not_eq_true', Bool.not_eq_false', decide_eq_true_eq, decide_eq_false_iff_not, List.length_map] at h2)
      · refine rn rfl ?_
        refine cut_ret ?_
        refine round_ret ?_
        refine fin_is [] rfl ⟨?_, rfl⟩
        rw [hstop (by simp [stepQ, okQ, h2])]
      refine rn rfl ?_
      refine goal_step (step_call [] rfl rfl rfl rfl rfl rfl (isValue_ct p.dflt)) ?_
      rintro σ2 ⟨r, o', ⟨rfl, rfl⟩, hσ⟩
      obtain rfl := Option.some.inj hσ
      clear hσ
      refine rn rfl ?_
      refine goal_guard rfl rfl rfl (fun h3 => ?_) (fun h3 => ?_) <;> (try simp only [gt_iff_lt, ge_iff_le, bne_iff_ne, ne_eq, bne_eq_false_iff_eq, beq_iff_eq, beq_eq_false_iff_ne, Bool.not_eq_true', Bool.not_eq_false', decide_eq_true_eq, decide_eq_false_iff_not, List.length_map] at h3)
      · refine rn rfl ?_
        refine cut_ret ?_
        refine round_ret ?_
        refine fin_is [] rfl ⟨?_, rfl⟩
        rw [hstop (by simp [stepQ, okQ, h3])]
      refine rn rfl ?_
      refine goal_guard rfl rfl rfl (fun h4 => ?_) (fun h4 => ?_) <;> (try simp only [gt_iff_lt, ge_iff_le, bne_iff_ne, ne_eq, bne_eq_false_iff_eq, beq_iff_eq, beq_eq_false_iff_ne, Bool.not_eq_true', Bool.not_eq_false', decide_eq_true_eq, decide_eq_false_iff_not, List.length_map] at h4)
      · refine rn rfl ?_
        refine goal_guard rfl rfl rfl (fun h5 => ?_) (fun h5 => ?_) <;> (try simp only [gt_iff_lt, ge_iff_le, bne_iff_ne, ne_eq, bne_eq_false_iff_eq, beq_iff_eq, beq_eq_false_iff_ne, Bool.not_eq_true', Bool.not_eq_false', decide_eq_true_eq, decide_eq_false_iff_not, List.length_map] at h5)
        · refine rn rfl ?_
          refine cut_ret ?_
          refine round_ret ?_
          refine fin_is [] rfl ⟨?_, rfl⟩
          rw [hstop (by simp [stepQ, okQ, h4, h5])]
        · refine rn rfl ?_
          refine goal_guard rfl rfl rfl (fun h6 => by rw [h4] at h6; cases h6) (fun h6 => ?_)
          refine rn rfl ?_
          exact cut_nrm [10, 9, 8, 5, 4, 3, 1] [0, 1] rfl ⟨by rw [h5] at h3; simp [okQ, h1, h2, h3, h4, h5], rfl⟩
      · refine rn rfl ?_
        refine goal_guard rfl rfl rfl (fun h6 => ?_) (fun h6 => by rw [h4] at h6; cases h6)
        refine rn rfl ?_
        refine goal_step (step_call [] rfl rfl rfl rfl rfl rfl (isingle_ct p)) ?_
        rintro σ2 ⟨r, o', ⟨rfl, rfl⟩, hσ⟩
        obtain rfl := Option.some.inj hσ
        clear hσ
        refine rn rfl ?_
        refine goal_cond rfl (fun h7 => ?_) (fun h7 => ?_) <;> (try simp only [gt_iff_lt, ge_iff_le, bne_iff_ne, ne_eq, bne_eq_false_iff_eq, beq_iff_eq, beq_eq_false_iff_ne, Bool.not_eq_true', Bool.not_eq_false', decide_eq_true_eq, decide_eq_false_iff_not, List.length_map] at h7)
        · refine rn rfl ?_
          refine cut_ret ?_
          refine round_ret ?_
          refine fin_is [] rfl ⟨?_, rfl⟩
          rw [hstop (by simp [stepQ, okQ, h4, h7])]
        · refine rn rfl ?_
          exact cut_nrm [10, 9, 8, 5, 4, 3, 1] [0, 1] rfl ⟨by simp [okQ, h1, h2, h3, h4, h7], rfl⟩
    rintro _ ⟨hokq, rfl⟩
    refine rt 7 rfl ?_
    refine goal_cutR (fun σ => ∃ ob' : Bool, (placedQ p = true → ob = true → p.hasD = true) ∧ (placedQ p = true → ob' = p.hasD) ∧ (placedQ p = false → ob' = ob) ∧ σ = ⟨[(10, .one (.int .i64 i)), (9, .one (.int .i64 s.length)), (8, .one (.fs (s.map eQ))), (5, .one (.op 1 0 0)), (4, .one (.int .i64 i)), (3, .one (.bool ob')), (1, .one (.op 0 0 0))],
      [some ⟨1, [eG s], false, false, true⟩, some ⟨4, [eQ p], false, false, true⟩], []⟩) ?_ ?_
    · refine rn rfl ?_
      refine goal_step (step_call [] rfl rfl rfl rfl rfl rfl (iplaced_ct p)) ?_
      rintro σ2 ⟨r, o', ⟨rfl, rfl⟩, hσ⟩
      obtain rfl := Option.some.inj hσ
      clear hσ
      refine rn rfl ?_
      refine goal_cond rfl (fun h1 => ?_) (fun h1 => ?_) <;> (try simp only [gt_iff_lt, ge_iff_le, bne_iff_ne, ne_eq, bne_eq_false_iff_eq, beq_iff_eq, beq_eq_false_iff_ne, Bool.not_eq_true', Bool.not_eq_false', decide_eq_true_eq, decide_eq_false_iff_not, List.length_map] at h1)
      · refine rn rfl ?_
        refine goal_guard rfl rfl rfl (fun h2 => ?_) (fun h2 => ?_) <;> (try simp only [gt_iff_lt, ge_iff_le, bne_iff_ne, ne_eq, bne_eq_false_iff_eq, beq_iff_eq, beq_eq_false_iff_ne, Bool.not_eq_true', Bool.not_eq_false', decide_eq_true_eq, decide_eq_false_iff_not, List.length_map] at h2)
        · refine rn rfl ?_
          refine goal_cond rfl (fun h3 => ?_) (fun h3 => ?_) <;> (try simp only [gt_iff_lt, ge_iff_le, bne_iff_ne, ne_eq, bne_eq_false_iff_eq, beq_iff_eq, beq_eq_false_iff_ne, Bool.not_eq_true', Bool.not_eq_false', decide_eq_true_eq, decide_eq_false_iff_not, List.length_map] at h3)
          · refine rn rfl ?_
            refine cut_ret ?_
            refine round_ret ?_
            refine fin_is [] rfl ⟨?_, rfl⟩
            have hpre : i ≠ 0 := fun h0 => by rw [hzero h0] at h2; cases h2
            obtain ⟨l, hl⟩ := at_some (xs := s) (i := i - 1) (by omega)
            have hl' := last_take hl
            rw [show i - 1 + 1 = i by omega] at hl'
            obtain ⟨hlq, hlp⟩ := hlast l hl'
            rw [hstop ?_]
            have hk : nextQ l p = false := by
              cases hpl : placedQ l with
              | true => simp [nextQ, h1, h3, ← hlp hpl, h2]
              | false =>
                simp only [okQ, inR, Bool.and_eq_true, decide_eq_true_eq] at hlq
                simp only [placedQ, Bool.or_eq_true, Bool.or_eq_false_iff, beq_iff_eq, beq_eq_false_iff_ne] at hpl h1
                simp only [nextQ, Bool.and_eq_false_iff, decide_eq_false_iff_not]
                exact .inl (.inl (by omega))
            simp [stepQ, hl', hk]
          · refine rn rfl ?_
            refine cut_nrm [10, 9, 8, 5, 4, 3, 1] [0, 1] rfl ⟨_, ?_, ?_, ?_, rfl⟩ <;> simp [h1, h2, h3]
        · refine rn rfl ?_
          refine cut_nrm [10, 9, 8, 5, 4, 3, 1] [0, 1] rfl ⟨_, ?_, ?_, ?_, rfl⟩ <;> simp [h1, h2]
      · refine rn rfl ?_
        refine cut_nrm [10, 9, 8, 5, 4, 3, 1] [0, 1] rfl ⟨_, ?_, ?_, ?_, rfl⟩ <;> simp [h1]
    rintro _ ⟨ob', hd1, hd2, hd3, rfl⟩
    refine rt 11 rfl ?_
    refine goal_cutR (fun σ => (∀ l, (s.take i).getLast? = some l → l.kind ≤ p.kind ∧ (p.kind = l.kind → singleQ p = true)) ∧ σ = ⟨[(10, .one (.int .i64 i)), (9, .one (.int .i64 s.length)), (8, .one (.fs (s.map eQ))), (5, .one (.op 1 0 0)), (4, .one (.int .i64 i)), (3, .one (.bool ob')), (1, .one (.op 0 0 0))],
      [some ⟨1, [eG s], false, false, true⟩, some ⟨4, [eQ p], false, false, true⟩], []⟩) ?_ ?_
    · refine rn rfl ?_
      refine goal_cond rfl (fun h1 => ?_) (fun h1 => ?_) <;> (try simp only [gt_iff_lt, ge_iff_le, bne_iff_ne, ne_eq, bne_eq_false_iff_eq, beq_iff_eq, beq_eq_false_iff_ne, Bool.not_eq_true', Bool.not_eq_false', decide_eq_true_eq, decide_eq_false_iff_not, List.length_map] at h1)
      · obtain ⟨l, hl⟩ := at_some (xs := s) (i := i - 1) (by omega)
        have hl' := last_take hl
        rw [show i - 1 + 1 = i by omega] at hl'
        have hw : IntKind.i64.wrap ((i : Int) - 1) = ((i - 1 : Nat) : Int) := by rw [wrap64] <;> omega
        refine rn rfl ?_
        refine goal_did rfl rfl (dA_index (eQ l) rfl rfl rfl rfl rfl rfl rfl (by rw [hw]; omega) (by rw [hw]; simp; omega) (map_at (by rw [hw]; simpa using hl)) rfl) ?_
        refine rn rfl ?_
        refine goal_guard rfl rfl rfl (fun h2 => ?_) (fun h2 => ?_) <;> (try simp only [gt_iff_lt, ge_iff_le, bne_iff_ne, ne_eq, bne_eq_false_iff_eq, beq_iff_eq, beq_eq_false_iff_ne, Bool.not_eq_true', Bool.not_eq_false', decide_eq_true_eq, decide_eq_false_iff_not, List.length_map] at h2)
        · refine rn rfl ?_
          refine cut_ret ?_
          refine round_ret ?_
          refine fin_is [] rfl ⟨?_, rfl⟩
          rw [hstop (by simp [stepQ, hl', nextQ, show ¬ l.kind ≤ p.kind by omega])]
        · refine rn rfl ?_
          refine goal_guard rfl rfl rfl (fun h3 => ?_) (fun h3 => ?_) <;> (try simp only [gt_iff_lt, ge_iff_le, bne_iff_ne, ne_eq, bne_eq_false_iff_eq, beq_iff_eq, beq_eq_false_iff_ne, Bool.not_eq_true', Bool.not_eq_false', decide_eq_true_eq, decide_eq_false_iff_not, List.length_map] at h3)
          · refine rn rfl ?_
            refine goal_step (step_call [] rfl rfl rfl rfl rfl rfl (isingle_ct p)) ?_
            rintro σ2 ⟨r, o', ⟨rfl, rfl⟩, hσ⟩
            obtain rfl := Option.some.inj hσ
            clear hσ
            refine rn rfl ?_
            refine goal_cond rfl (fun h4 => ?_) (fun h4 => ?_) <;> (try simp only [gt_iff_lt, ge_iff_le, bne_iff_ne, ne_eq, bne_eq_false_iff_eq, beq_iff_eq, beq_eq_false_iff_ne, Bool.not_eq_true', Bool.not_eq_false', decide_eq_true_eq, decide_eq_false_iff_not, List.length_map] at h4)
            · refine rn rfl ?_
              refine cut_ret ?_
              refine round_ret ?_
              refine fin_is [] rfl ⟨?_, rfl⟩
              rw [hstop (by simp [stepQ, hl', nextQ, h3, h4])]
            · refine rn rfl ?_
              refine cut_nrm [10, 9, 8, 5, 4, 3, 1] [0, 1] rfl ⟨?_, rfl⟩
              intro l2 h0; rw [hl'] at h0; cases h0; exact ⟨by omega, fun _ => h4⟩
          · refine rn rfl ?_
            refine cut_nrm [10, 9, 8, 5, 4, 3, 1] [0, 1] rfl ⟨?_, rfl⟩
            intro l2 h0; rw [hl'] at h0; cases h0; exact ⟨by omega, fun h0 => absurd h0 h3⟩
      · refine rn rfl ?_
        refine cut_nrm [10, 9, 8, 5, 4, 3, 1] [0, 1] rfl ⟨?_, rfl⟩
        intro l2 h0; rw [show i = 0 by omega] at h0; simp at h0
    rintro _ ⟨hkind, rfl⟩
    refine rn rfl ?_
    refine goal_draw' [0, 1] 8 rfl ?_
    refine drn [0, 1, 2, 4, 5] (by kernel_rfl) (by kernel_rfl) rfl rfl ?_
    refine AH_did 3 rfl (by kernel_rfl) (by kernel_rfl) (by kernel_rfl) rfl rfl (dA_slice 0 i ((s.take i).map eQ) rfl rfl rfl rfl rfl Bnd.none_ (Bnd.some_ rfl rfl) (rows_len eQ_len _) (by omega) (by simp; omega) rfl (by simp)) ?_
    refine AH_one (i := 6) (by kernel_rfl) (step_call [] rfl rfl rfl rfl rfl rfl (find_ct (s.take i) p.name (by simp; omega))) (by simp) ?_
    rintro σ2 ⟨r, o', ⟨rfl, rfl⟩, hσ⟩
    obtain rfl := Option.some.inj hσ
    clear hσ
    refine drn [7] (by kernel_rfl) (by kernel_rfl) rfl rfl ?_
    refine AH_end (by kernel_rfl) ?_
    refine rn rfl ?_
    refine goal_cond rfl (fun h5 => ?_) (fun h5 => ?_) <;> (try simp only [gt_iff_lt, ge_iff_le, bne_iff_ne, ne_eq, bne_eq_false_iff_eq, beq_iff_eq, beq_eq_false_iff_ne, Bool.not_eq_true', Bool.not_eq_false', decide_eq_true_eq, decide_eq_false_iff_not, List.length_map, idxI_ge] at h5)
    · refine rn rfl ?_
      refine round_ret ?_
      refine fin_is [] rfl ⟨?_, rfl⟩
      rw [hstop (by simp [stepQ, h5])]
    · refine rn rfl ?_
      have hnx : stepQ (s.take i) p = true := by
        have hne : (s.take i).any (qIs p.name) = false := by
          cases hb : (s.take i).any (qIs p.name) with
          | false => rfl
          | true => exact absurd hb h5
        simp only [stepQ, hokq, hne, Bool.true_and, Bool.not_false]
        split
        · rfl
        · rename_i l hl
          obtain ⟨hk1, hk2⟩ := hkind l hl
          obtain ⟨hlq, hlp⟩ := hlast l hl
          simp only [nextQ, Bool.and_eq_true, decide_eq_true_eq, Bool.or_eq_true, bne_iff_ne, ne_eq, Bool.not_eq_true']
          refine ⟨⟨hk1, ?_⟩, ?_⟩
          · by_cases h0 : p.kind = l.kind
            · exact .inr (hk2 h0)
            · exact .inl h0
          · cases hpp : placedQ p with
            | false => exact .inl (.inl rfl)
            | true =>
              have hpl : placedQ l = true := by
                simp only [okQ, inR, Bool.and_eq_true, decide_eq_true_eq] at hlq
                simp only [placedQ, Bool.or_eq_true, beq_iff_eq] at hpp ⊢
                omega
              cases hld : l.hasD with
              | false => exact .inl (.inr rfl)
              | true => exact .inr (hd1 hpp ((hlp hpl).trans hld))
      refine round_keep (s.length - (i + 1)) [10, 9, 8, 3, 1] [0] (by omega) rfl ⟨_, _, i + 1, ob', wrap64 (by omega) (by omega), rfl, by omega, rfl, hgo hnx, ?_, fun h0 => by omega, rfl⟩
      intro l hl
      rw [last_take hp] at hl
      cases hl
      exact ⟨hokq, hd2⟩
  · refine rn rfl ?_
    refine round_ext ?_
    refine rn rfl (fin_is [] rfl ⟨?_, rfl⟩)
    rw [show i = s.length by omega, List.take_length, List.drop_length] at hok
    simp only [okSig, hok, okQs, List.length_map, Bool.true_and]
    congr 2
    rw [decide_eq_decide]
    omega

theorem svalidParam_ct (p : Param) (hpn : p.name.length ≤ 9223372036854775807) : ACalls pk 90 [.agg (eQ p)] [] (fun r o => r = .one (.bool (okQ p)) ∧ o = []) := by
  refine acalls_of_body Tryz.func90 rfl (by kernel_rfl) rfl ?_
  refine rn rfl ?_
  refine goal_step (step_call [] rfl rfl rfl rfl rfl rfl (validName_ct p.name hpn)) ?_
  rintro σ2 ⟨r, o', ⟨rfl, rfl⟩, hσ⟩
  obtain rfl := Option.some.inj hσ
  clear hσ
  refine rn rfl ?_
  refine goal_guard rfl rfl rfl (fun h1 => ?_) (fun h1 => ?_) <;> (try simp only [gt_iff_lt, ge_iff_le, bne_iff_ne, ne_eq, bne_eq_false_iff_eq, beq_iff_eq, beq_eq_false_iff_ne, Bool.not_eq_true', Bool.not_eq_false', decide_eq_true_eq, decide_eq_false_iff_not, List.length_map] at h1)
  · refine rn rfl ?_
    refine goal_step (step_call [] rfl rfl rfl rfl rfl rfl (sin_ct p.kind 0 4)) ?_
    rintro σ2 ⟨r, o', ⟨rfl, rfl⟩, hσ⟩
    obtain rfl := Option.some.inj hσ
    clear hσ
    refine rn rfl ?_
    refine goal_guard rfl rfl rfl (fun h2 => ?_) (fun h2 => ?_) <;> (try simp only [gt_iff_lt, ge_iff_le, bne_iff_ne, ne_eq, bne_eq_false_iff_eq, beq_iff_eq, beq_eq_false_iff_ne, Bool.not_eq_true', Bool.not_eq_false', decide_eq_true_eq, decide_eq_false_iff_not, List.length_map] at h2)
    · refine rn rfl ?_
      refine goal_step (step_call [] rfl rfl rfl rfl rfl rfl (validNumber_ct p.dflt)) ?_
      rintro σ2 ⟨r, o', ⟨rfl, rfl⟩, hσ⟩
      obtain rfl := Option.some.inj hσ
      clear hσ
      refine rn rfl ?_
      refine goal_guard rfl rfl rfl (fun h3 => ?_) (fun h3 => ?_) <;> (try simp only [gt_iff_lt, ge_iff_le, bne_iff_ne, ne_eq, bne_eq_false_iff_eq, beq_iff_eq, beq_eq_false_iff_ne, Bool.not_eq_true', Bool.not_eq_false', decide_eq_true_eq, decide_eq_false_iff_not, List.length_map] at h3)
      · refine rn rfl ?_
        refine goal_guard rfl rfl rfl (fun h4 => ?_) (fun h4 => ?_) <;> (try simp only [gt_iff_lt, ge_iff_le, bne_iff_ne, ne_eq, bne_eq_false_iff_eq, beq_iff_eq, beq_eq_false_iff_ne, Bool.not_eq_true', Bool.not_eq_false', decide_eq_true_eq, decide_eq_false_iff_not, List.length_map] at h4)
        · refine rn rfl ?_
          refine goal_step (step_call [] rfl rfl rfl rfl rfl rfl (ssingle_ct p)) ?_
          rintro σ2 ⟨r, o', ⟨rfl, rfl⟩, hσ⟩
          obtain rfl := Option.some.inj hσ
          clear hσ
          refine rn rfl ?_
          refine goal_guard rfl rfl rfl (fun h5 => ?_) (fun h5 => ?_) <;> (try simp only [gt_iff_lt, ge_iff_le, bne_iff_ne, ne_eq, bne_eq_false_iff_eq, beq_iff_eq, beq_eq_false_iff_ne, Bool.not_eq_true', Bool.not_eq_false', decide_eq_true_eq, decide_eq_false_iff_not, List.length_map] at h5)
          · refine rn rfl (fin_is [] rfl ⟨?_, rfl⟩)
            simp [okQ, h1, h2, h3, h4, h5]
          · refine rn rfl (fin_is [] rfl ⟨?_, rfl⟩)
            simp [okQ, h1, h2, h3, h4, h5]
        · refine rn rfl ?_
          refine goal_guard rfl rfl rfl (fun h5 => ?_) (fun h5 => ?_) <;> (try simp only [gt_iff_lt, ge_iff_le, bne_iff_ne, ne_eq, bne_eq_false_iff_eq, beq_iff_eq, beq_eq_false_iff_ne, Bool.not_eq_true', Bool.not_eq_false', decide_eq_true_eq, decide_eq_false_iff_not, List.length_map] at h5)
          · refine rn rfl ?_
            refine goal_step (step_call [] rfl rfl rfl rfl rfl rfl (ssingle_ct p)) ?_
            rintro σ2 ⟨r, o', ⟨rfl, rfl⟩, hσ⟩
            obtain rfl := Option.some.inj hσ
            clear hσ
            refine rn rfl ?_
            refine goal_guard rfl rfl rfl (fun h6 => ?_) (fun h6 => ?_) <;> (try simp only [gt_iff_lt, ge_iff_le, bne_iff_ne, ne_eq, bne_eq_false_iff_eq, beq_iff_eq, beq_eq_false_iff_ne, Bool.not_eq_true', Bool.not_eq_false', decide_eq_true_eq, decide_eq_false_iff_not, List.length_map] at h6)
            · refine rn rfl (fin_is [] rfl ⟨?_, rfl⟩)
              rw [h5] at h3
              simp [okQ, h1, h2, h3, h4, h5, h6]
            · refine rn rfl (fin_is [] rfl ⟨?_, rfl⟩)
              rw [h5] at h3
              simp [okQ, h1, h2, h3, h4, h5, h6]
          · refine rn rfl (fin_is [] rfl ⟨?_, rfl⟩)
            simp [okQ, h4, h5]
      · refine rn rfl (fin_is [] rfl ⟨?_, rfl⟩)
        simp [okQ, h3]
    · refine rn rfl (fin_is [] rfl ⟨?_, rfl⟩)
      simp [okQ, h2]
  · refine rn rfl (fin_is [] rfl ⟨?_, rfl⟩)
    simp [okQ, h1]

theorem svalidParams_ct (s : Sig) (hb : s.length ≤ 9223372036854775807) (hn : ∀ p ∈ s, p.name.length ≤ 9223372036854775807) :
    ACalls pk 71 [.one (.fs (s.map eQ))] [] (fun r o => r = .one (.bool (okSig s)) ∧ o = []) := by
  refine acalls_of_body Tryz.func71 rfl (by kernel_rfl) rfl ?_
  refine rn rfl ?_
  refine goal_loop_keep (fun m σ => ∃ (n : Int) (i : Nat), n = i ∧ i ≤ s.length ∧ m = s.length - i ∧ okQs [] s = okQs (s.take i) (s.drop i) ∧
      σ = ⟨[(3, .one (.int .i64 n)), (0, .one (.fs (s.map eQ)))], [], []⟩) s.length [3, 0] [] rfl
    ⟨_, 0, rfl, by omega, by omega, by simp, rfl⟩ ?_
  rintro m σ ⟨n, i, rfl, hi, rfl, hok, rfl⟩
  refine rn rfl ?_
  refine goal_cond rfl (fun h => ?_) (fun h => ?_) <;> (try simp only [gt_iff_lt, ge_iff_le, bne_iff_ne, ne_eq, bne_eq_false_iff_eq, beq_iff_eq, beq_eq_false_iff_ne, Bool.not_eq_true', Bool.not_eq_false', decide_eq_true_eq, decide_eq_false_iff_not, List.length_map] at h)
  · obtain ⟨p, hp⟩ := at_some (xs := s) (i := i) (by omega)
    have hstop := okSig_stop hok hp
    have hgo := okQs_go hok hp
    have hpn := hn p (List.mem_of_getElem? hp)
    have hend : stepQ (s.take i) p = true → okQs [] s = okQs (s.take (i + 1)) (s.drop (i + 1)) := hgo
    refine rn rfl ?_
    refine goal_did rfl rfl (dA_index (eQ p) rfl rfl rfl rfl rfl rfl rfl (by omega) (by (try simp); omega) (map_at (by simpa using hp)) rfl) ?_
    refine rn rfl ?_
    refine goal_draw' [0] 12 rfl ?_
    refine drn [0] (by kernel_rfl) (by kernel_rfl) rfl rfl ?_
    refine AH_one (i := 1) (by kernel_rfl) (step_call [] rfl rfl rfl rfl rfl rfl (svalidParam_ct p hpn)) (by simp) ?_
    rintro σ2 ⟨r, o', ⟨rfl, rfl⟩, hσ⟩
    obtain rfl := Option.some.inj hσ
    clear hσ
    refine drn [2, 3] (by kernel_rfl) (by kernel_rfl) rfl rfl ?_
    refine AH_guard (i := 4) rfl rfl rfl (fun h1 => ?_) (fun h1 => ?_) <;> (try simp only [gt_iff_lt, ge_iff_le, bne_iff_ne, ne_eq, bne_eq_false_iff_eq, beq_iff_eq, beq_eq_false_iff_ne, Bool.not_eq_true', Bool.not_eq_false', decide_eq_true_eq, decide_eq_false_iff_not, List.length_map] at h1)
    · refine drn [4, 5, 6, 7, 8, 9, 10, 11] (by kernel_rfl) (by kernel_rfl) rfl rfl ?_
      refine AH_end (by kernel_rfl) ?_
      refine rn rfl ?_
      refine rn rfl ?_
      refine round_ret ?_
      refine fin_is [] rfl ⟨?_, rfl⟩
      rw [hstop (by simp [stepQ, h1])]
    refine drn [4, 5, 7, 8] (by kernel_rfl) (by kernel_rfl) rfl rfl ?_
    refine AH_did 6 rfl (by kernel_rfl) (by kernel_rfl) (by kernel_rfl) rfl rfl (dA_slice 0 i ((s.take i).map eQ) rfl rfl rfl rfl rfl Bnd.none_ (Bnd.some_ rfl rfl) (rows_len eQ_len _) (by omega) (by simp; omega) rfl (by simp)) ?_
    refine AH_one (i := 9) (by kernel_rfl) (step_call [] rfl rfl rfl rfl rfl rfl (sfind_ct (s.take i) p.name (by simp; omega))) (by simp) ?_
    rintro σ2 ⟨r, o', ⟨rfl, rfl⟩, hσ⟩
    obtain rfl := Option.some.inj hσ
    clear hσ
    refine drn [10, 11] (by kernel_rfl) (by kernel_rfl) rfl rfl ?_
    refine AH_end (by kernel_rfl) ?_
    refine rn rfl ?_
    refine goal_cond rfl (fun h2 => ?_) (fun h2 => ?_) <;> (try simp only [gt_iff_lt, ge_iff_le, bne_iff_ne, ne_eq, bne_eq_false_iff_eq, beq_iff_eq, beq_eq_false_iff_ne, Bool.not_eq_true', Bool.not_eq_false', decide_eq_true_eq, decide_eq_false_iff_not, List.length_map, idxI_ge] at h2)
    · refine rn rfl ?_
      refine round_ret ?_
      refine fin_is [] rfl ⟨?_, rfl⟩
      rw [hstop (by simp [stepQ, h2])]
    refine rn rfl ?_
    refine goal_cond rfl (fun h3 => ?_) (fun h3 => ?_) <;> (try simp only [gt_iff_lt, ge_iff_le, bne_iff_ne, ne_eq, bne_eq_false_iff_eq, beq_iff_eq, beq_eq_false_iff_ne, Bool.not_eq_true', Bool.not_eq_false', decide_eq_true_eq, decide_eq_false_iff_not, List.length_map] at h3)
    · refine rn rfl ?_
      refine round_keep (s.length - (i + 1)) [3, 0] [] (by omega) rfl ⟨_, i + 1, wrap64 (by omega) (by omega), by omega, rfl, hgo ?_, rfl⟩
      rw [show i = 0 by omega] at h2 ⊢
      simp [stepQ, h1]
    obtain ⟨l, hl⟩ := at_some (xs := s) (i := i - 1) (by omega)
    have hl' := last_take hl
    rw [show i - 1 + 1 = i by omega] at hl'
    have hw : IntKind.i64.wrap ((i : Int) - 1) = ((i - 1 : Nat) : Int) := by rw [wrap64] <;> omega
    have hsn : nextQ l p = true → stepQ (s.take i) p = true := fun hx => by simp [stepQ, h1, h2, hl', hx]
    have hsf : nextQ l p = false → stepQ (s.take i) p = false := fun hx => by simp [stepQ, hl', hx]
    refine rn rfl ?_
    refine goal_did rfl rfl (dA_index (eQ l) rfl rfl rfl rfl rfl rfl rfl (by rw [hw]; omega) (by rw [hw]; simp; omega) (map_at (by rw [hw]; simpa using hl)) rfl) ?_
    refine rn rfl ?_
    refine goal_guard rfl rfl rfl (fun h4 => ?_) (fun h4 => ?_) <;> (try simp only [gt_iff_lt, ge_iff_le, bne_iff_ne, ne_eq, bne_eq_false_iff_eq, beq_iff_eq, beq_eq_false_iff_ne, Bool.not_eq_true', Bool.not_eq_false', decide_eq_true_eq, decide_eq_false_iff_not, List.length_map] at h4)
    · refine rn rfl ?_
      refine round_ret ?_
      refine fin_is [] rfl ⟨?_, rfl⟩
      rw [hstop (hsf (by simp [nextQ, show ¬ l.kind ≤ p.kind by omega]))]
    have part2 : (p.kind = l.kind → singleQ p = true) → (placedQ p = true → l.hasD = true → p.hasD = true) → stepQ (s.take i) p = true := fun ha hb => hsn (by
      simp only [nextQ, Bool.and_eq_true, decide_eq_true_eq, Bool.or_eq_true, bne_iff_ne, ne_eq, Bool.not_eq_true']
      refine ⟨⟨by omega, ?_⟩, ?_⟩
      · by_cases h0 : p.kind = l.kind
        · exact .inr (ha h0)
        · exact .inl h0
      · cases h7 : placedQ p with
        | false => exact .inl (.inl rfl)
        | true => cases h8 : l.hasD with
          | false => exact .inl (.inr rfl)
          | true => exact .inr (hb h7 h8))
    refine rn rfl ?_
    refine goal_guard rfl rfl rfl (fun h5 => ?_) (fun h5 => ?_) <;> (try simp only [gt_iff_lt, ge_iff_le, bne_iff_ne, ne_eq, bne_eq_false_iff_eq, beq_iff_eq, beq_eq_false_iff_ne, Bool.not_eq_true', Bool.not_eq_false', decide_eq_true_eq, decide_eq_false_iff_not, List.length_map] at h5)
    · refine rn rfl ?_
      refine goal_step (step_call [] rfl rfl rfl rfl rfl rfl (ssingle_ct p)) ?_
      rintro σ2 ⟨r, o', ⟨rfl, rfl⟩, hσ⟩
      obtain rfl := Option.some.inj hσ
      clear hσ
      refine rn rfl ?_
      refine goal_guard rfl rfl rfl (fun h6 => ?_) (fun h6 => ?_) <;> (try simp only [gt_iff_lt, ge_iff_le, bne_iff_ne, ne_eq, bne_eq_false_iff_eq, beq_iff_eq, beq_eq_false_iff_ne, Bool.not_eq_true', Bool.not_eq_false', decide_eq_true_eq, decide_eq_false_iff_not, List.length_map] at h6)
      · refine rn rfl ?_
        refine round_ret ?_
        refine fin_is [] rfl ⟨?_, rfl⟩
        rw [hstop (hsf (by simp [nextQ, h5, h6]))]
      refine rn rfl ?_
      refine goal_step (step_call [] rfl rfl rfl rfl rfl rfl (splaced_ct p)) ?_
      rintro σ2 ⟨r, o', ⟨rfl, rfl⟩, hσ⟩
      obtain rfl := Option.some.inj hσ
      clear hσ
      refine rn rfl ?_
      refine goal_guard rfl rfl rfl (fun h7 => ?_) (fun h7 => ?_) <;> (try simp only [gt_iff_lt, ge_iff_le, bne_iff_ne, ne_eq, bne_eq_false_iff_eq, beq_iff_eq, beq_eq_false_iff_ne, Bool.not_eq_true', Bool.not_eq_false', decide_eq_true_eq, decide_eq_false_iff_not, List.length_map] at h7)
      · refine rn rfl ?_
        refine goal_guard rfl rfl rfl (fun h8 => ?_) (fun h8 => ?_) <;> (try simp only [gt_iff_lt, ge_iff_le, bne_iff_ne, ne_eq, bne_eq_false_iff_eq, beq_iff_eq, beq_eq_false_iff_ne, Bool.not_eq_true', Bool.not_eq_false', decide_eq_true_eq, decide_eq_false_iff_not, List.length_map] at h8)
        · refine rn rfl ?_
          refine goal_cond rfl (fun h9 => ?_) (fun h9 => ?_) <;> (try simp only [gt_iff_lt, ge_iff_le, bne_iff_ne, ne_eq, bne_eq_false_iff_eq, beq_iff_eq, beq_eq_false_iff_ne, Bool.not_eq_true', Bool.not_eq_false', decide_eq_true_eq, decide_eq_false_iff_not, List.length_map] at h9)
          · refine rn rfl ?_
            refine round_ret ?_
            refine fin_is [] rfl ⟨?_, rfl⟩
            rw [hstop (hsf (by simp [nextQ, h7, h8, h9]))]
          · refine rn rfl ?_
            refine round_keep (s.length - (i + 1)) [3, 0] [] (by omega) rfl ⟨_, i + 1, wrap64 (by omega) (by omega), by omega, rfl, hgo (part2 (fun _ => h6) (fun _ _ => h9)), rfl⟩
        · refine rn rfl ?_
          refine round_keep (s.length - (i + 1)) [3, 0] [] (by omega) rfl ⟨_, i + 1, wrap64 (by omega) (by omega), by omega, rfl, hgo (part2 (fun _ => h6) (fun _ h0 => by rw [h8] at h0; cases h0)), rfl⟩
      · refine rn rfl ?_
        refine round_keep (s.length - (i + 1)) [3, 0] [] (by omega) rfl ⟨_, i + 1, wrap64 (by omega) (by omega), by omega, rfl, hgo (part2 (fun _ => h6) (fun h0 => by rw [h7] at h0; cases h0)), rfl⟩
    · refine rn rfl ?_
      refine goal_step (step_call [] rfl rfl rfl rfl rfl rfl (splaced_ct p)) ?_
      rintro σ2 ⟨r, o', ⟨rfl, rfl⟩, hσ⟩
      obtain rfl := Option.some.inj hσ
      clear hσ
      refine rn rfl ?_
      refine goal_guard rfl rfl rfl (fun h7 => ?_) (fun h7 => ?_) <;> (try simp only [gt_iff_lt, ge_iff_le, bne_iff_ne, ne_eq, bne_eq_false_iff_eq, beq_iff_eq, beq_eq_false_iff_ne, Bool.not_eq_true', Bool.not_eq_false', decide_eq_true_eq, decide_eq_false_iff_not, List.length_map] at h7)
      · refine rn rfl ?_
        refine goal_guard rfl rfl rfl (fun h8 => ?_) (fun h8 => ?_) <;> (try simp only [gt_iff_lt, ge_iff_le, bne_iff_ne, ne_eq, bne_eq_false_iff_eq, beq_iff_eq, beq_eq_false_iff_ne, Bool.not_eq_true', Bool.not_eq_false', decide_eq_true_eq, decide_eq_false_iff_not, List.length_map] at h8)
        · refine rn rfl ?_
          refine goal_cond rfl (fun h9 => ?_) (fun h9 => ?_) <;> (try simp only [gt_iff_lt, ge_iff_le, bne_iff_ne, ne_eq, bne_eq_false_iff_eq, beq_iff_eq, beq_eq_false_iff_ne, Bool.not_eq_true', Bool.not_eq_false', decide_eq_true_eq, decide_eq_false_iff_not, List.length_map] at h9)
          · refine rn rfl ?_
            refine round_ret ?_
            refine fin_is [] rfl ⟨?_, rfl⟩
            rw [hstop (hsf (by simp [nextQ, h7, h8, h9]))]
          · refine rn rfl ?_
            refine round_keep (s.length - (i + 1)) [3, 0] [] (by omega) rfl ⟨_, i + 1, wrap64 (by omega) (by omega), by omega, rfl, hgo (part2 (fun h0 => absurd h0 h5) (fun _ _ => h9)), rfl⟩
        · refine rn rfl ?_
          refine round_keep (s.length - (i + 1)) [3, 0] [] (by omega) rfl ⟨_, i + 1, wrap64 (by omega) (by omega), by omega, rfl, hgo (part2 (fun h0 => absurd h0 h5) (fun _ h0 => by rw [h8] at h0; cases h0)), rfl⟩
      · refine rn rfl ?_
        refine round_keep (s.length - (i + 1)) [3, 0] [] (by omega) rfl ⟨_, i + 1, wrap64 (by omega) (by omega), by omega, rfl, hgo (part2 (fun h0 => absurd h0 h5) (fun h0 => by rw [h7] at h0; cases h0)), rfl⟩
  · refine rn rfl ?_
    refine round_ext ?_
    refine rn rfl (fin_is [] rfl ⟨?_, rfl⟩)
    rw [show i = s.length by omega, List.take_length, List.drop_length] at hok
    simp only [okSig, hok, okQs, List.length_map, Bool.true_and]
    congr 2
    rw [decide_eq_decide]
    omega

theorem svalidSig_ct (s : Sig) (hb : s.length ≤ 9223372036854775807) (hn : ∀ p ∈ s, p.name.length ≤ 9223372036854775807) :
    ACalls pk 42 [.agg (eG s)] [] (fun r o => r = .one (.bool (okSig s)) ∧ o = []) := by
  refine acalls_of_body Tryz.func42 rfl (by kernel_rfl) rfl ?_
  refine rn rfl ?_
  refine goal_step (step_call [] rfl rfl rfl rfl rfl rfl (svalidParams_ct s hb hn)) ?_
  rintro σ2 ⟨r, o', ⟨rfl, rfl⟩, hσ⟩
  obtain rfl := Option.some.inj hσ
  clear hσ
  refine rn rfl ?_
  exact rn rfl (fin_is [] rfl ⟨rfl, rfl⟩)

/-- A signature if it is valid, and whether it is. -/
def checkG (s : Sig) : Sig × Bool := if okSig s then (s, true) else ([], false)

theorem checkedSig_ct (s : Sig) (hb : s.length ≤ 9223372036854775807) (hn : ∀ p ∈ s, p.name.length ≤ 9223372036854775807) :
    ACalls pk 51 [.one (.fs (s.map eQ))] [] (fun r o => r = .tup [.agg (eG (checkG s).1), .one (.bool (checkG s).2)] ∧ o = []) := by
  refine acalls_of_body Tryz.func51 rfl (by kernel_rfl) rfl ?_
  refine rn rfl ?_
  refine goal_step (step_call [] rfl rfl rfl rfl rfl rfl (svalidParams_ct s hb hn)) ?_
  rintro σ2 ⟨r, o', ⟨rfl, rfl⟩, hσ⟩
  obtain rfl := Option.some.inj hσ
  clear hσ
  refine rn rfl ?_
  refine goal_cond rfl (fun h => ?_) (fun h => ?_) <;> (try simp only [gt_iff_lt, ge_iff_le, bne_iff_ne, ne_eq, bne_eq_false_iff_eq, beq_iff_eq, beq_eq_false_iff_ne, Bool.not_eq_true', Bool.not_eq_false', decide_eq_true_eq, decide_eq_false_iff_not, List.length_map] at h)
  · refine rn rfl (fin_is [] rfl ⟨?_, rfl⟩)
    simp [checkG, h]; rfl
  · refine rn rfl (fin_is [] rfl ⟨?_, rfl⟩)
    simp [checkG, h]; rfl

theorem clipQ_ct (xs : List Param) (kc : Nat) (hk : xs.length ≤ kc) :
    ACalls pk 39 [.one (.os 0 0 xs.length kc)] [ownQ xs] (fun r o => r = .one (.os 0 0 xs.length xs.length) ∧ o = [ownQ xs]) := by
  refine acalls_of_body Tryz.func39 rfl (by kernel_rfl) rfl ?_
  refine rn rfl ?_
  refine goal_did rfl rfl (dA_sliceOwn 0 xs.length xs.length 0 xs.length xs.length rfl rfl rfl rfl rfl rfl rfl Bnd.none_ (Bnd.some_ rfl rfl) (.inr ⟨by simp, by simp, Bnd.some_ rfl rfl⟩) (by omega) (by omega) hk (by simp) rfl rfl rfl rfl) ?_
  exact rn rfl (fin_is [] rfl ⟨rfl, rfl⟩)

theorem copyParams_ct (s : Sig) (hl : s.length ≤ 16777216) : ACalls pk 43 [.one (.fs (s.map eQ))] [] (fun r o => r = .one (.os 0 0 s.length s.length) ∧ o = [ownQ s]) := by
  refine acalls_of_body Tryz.func43 rfl (by kernel_rfl) rfl ?_
  refine rn rfl ?_
  refine goal_did rfl rfl (dA_append (old := []) (rows := (s : List Param).map eQ) ((s : List Param).map eQ) (s.length) true (Dst.own rfl rfl rfl rfl rfl (Nat.le_refl 0) rfl) (Src.fs rfl) rfl rfl rfl rfl rfl rfl rfl rfl (by simp) (rows_len eQ_len _) (by (try simp only [List.length_map, List.length_append, List.length_cons, List.length_nil, List.length_take, List.length_drop]); show _ * 40 ≤ _; omega) (by first | (simp; done) | (simp; omega)) (by simp) (by first | (simp; done) | (simp; omega)) (fun _ => noOwnR_map _ eQ_noOwn _)) ?_
  refine rn rfl ?_
  exact rn rfl (fin_is [1] rfl ⟨rfl, rfl⟩)

def takesQ (s : Sig) (n : Str) : Int := if (match s.find? (qIs n) with
  | some p => namedQ p
  | none => false) then idxI (qIs n) s 0 else idxI (kIs 4) s 0

theorem idxI_find {α : Type} {pred : α → Bool} {xs : List α} (h : 0 ≤ idxI pred xs 0) : ∃ x, xs.find? pred = some x ∧ xs[(idxI pred xs 0).toNat]? = some x ∧ pred x = true ∧ idxI pred xs 0 < xs.length := by
  have ha := idxI_ge.1 h
  have hs := idxI_some (i := 0) ha
  have hlt : xs.findIdx pred < xs.length := by
    rw [List.findIdx_lt_length]; simpa using ha
  refine ⟨xs[xs.findIdx pred], ?_, ?_, List.findIdx_getElem, ?_⟩
  · rw [List.find?_eq_some_iff_getElem]
    refine ⟨List.findIdx_getElem, xs.findIdx pred, hlt, rfl, fun j hj => ?_⟩
    have := List.not_of_lt_findIdx hj
    simpa using this
  · rw [hs]; simp [hlt]
  · rw [hs]; omega

theorem idxI_none' {α : Type} {pred : α → Bool} {xs : List α} (h : ¬ 0 ≤ idxI pred xs 0) : xs.find? pred = none := by
  have : xs.any pred = false := by
    cases hb : xs.any pred with
    | false => rfl
    | true => exact absurd (idxI_ge.2 hb) h
  simpa using this

theorem itakes_ct (s : Sig) (n : Str) (hb : s.length ≤ 9223372036854775807) : ACalls pk 103 [.agg (eG s), .one (.str n)] [] (fun r o => r = .one (.int .i64 (takesQ s n)) ∧ o = []) := by
  refine acalls_of_body Tryz.func103 rfl (by kernel_rfl) rfl ?_
  refine rn rfl ?_
  refine goal_step (step_call [] rfl rfl rfl rfl rfl rfl (find_ct s n hb)) ?_
  rintro σ2 ⟨r, o', ⟨rfl, rfl⟩, hσ⟩
  obtain rfl := Option.some.inj hσ
  clear hσ
  refine rn rfl ?_
  refine goal_guard rfl rfl rfl (fun h => ?_) (fun h => ?_) <;> (try simp only [gt_iff_lt, ge_iff_le, bne_iff_ne, ne_eq, bne_eq_false_iff_eq, beq_iff_eq, beq_eq_false_iff_ne, Bool.not_eq_true', Bool.not_eq_false', decide_eq_true_eq, decide_eq_false_iff_not, List.length_map] at h)
  · obtain ⟨p, hf, hp, hq, hlt⟩ := idxI_find h
    refine rn rfl ?_
    refine goal_did rfl rfl (dA_index (eQ p) rfl rfl rfl rfl rfl rfl rfl h (by simp; exact hlt) (map_at hp) rfl) ?_
    refine rn rfl ?_
    refine goal_step (step_call [] rfl rfl rfl rfl rfl rfl (inamed_ct p)) ?_
    rintro σ2 ⟨r, o', ⟨rfl, rfl⟩, hσ⟩
    obtain rfl := Option.some.inj hσ
    clear hσ
    refine rn rfl ?_
    refine goal_cond rfl (fun h2 => ?_) (fun h2 => ?_) <;> (try simp only [gt_iff_lt, ge_iff_le, bne_iff_ne, ne_eq, bne_eq_false_iff_eq, beq_iff_eq, beq_eq_false_iff_ne, Bool.not_eq_true', Bool.not_eq_false', decide_eq_true_eq, decide_eq_false_iff_not, List.length_map] at h2)
    · refine rn rfl (fin_is [] rfl ⟨?_, rfl⟩)
      simp [takesQ, hf, h2]
    · refine rn rfl ?_
      refine goal_step (step_call [] rfl rfl rfl rfl rfl rfl (indexQ0_ct s hb (kIs 4) _ takesC_ct)) ?_
      rintro σ2 ⟨r, o', ⟨rfl, rfl⟩, hσ⟩
      obtain rfl := Option.some.inj hσ
      clear hσ
      refine rn rfl ?_
      refine rn rfl (fin_is [] rfl ⟨?_, rfl⟩)
      simp [takesQ, hf, h2]
  · refine rn rfl ?_
    refine goal_step (step_call [] rfl rfl rfl rfl rfl rfl (indexQ0_ct s hb (kIs 4) _ takesC_ct)) ?_
    rintro σ2 ⟨r, o', ⟨rfl, rfl⟩, hσ⟩
    obtain rfl := Option.some.inj hσ
    clear hσ
    refine rn rfl ?_
    refine rn rfl (fin_is [] rfl ⟨?_, rfl⟩)
    simp [takesQ, idxI_none' h]

def placesQ (s : Sig) : Nat := s.countP placedQ

/-- Names of parameters for which something holds. -/
def namesQ (s : Sig) (pred : Param → Bool) : List Str := (s.filter pred).map Param.name

theorem namesQ_len (s : Sig) (pred : Param → Bool) : (namesQ s pred).length ≤ s.length := by
  simp [namesQ]; exact List.length_filter_le _ _

theorem filter_take_succ {α : Type} {p : α → Bool} {xs : List α} {i : Nat} {x : α} (h : xs[i]? = some x) : (xs.take (i + 1)).filter p = (xs.take i).filter p ++ (if p x then [x] else []) := by
  rw [← take_snoc h, List.filter_append]; congr 1; cases hp : p x <;> simp [hp]

theorem namesQ_take_succ {pred : Param → Bool} {xs : Sig} {i : Nat} {x : Param} (h : xs[i]? = some x) : namesQ (xs.take (i + 1)) pred = namesQ (xs.take i) pred ++ (if pred x then [x.name] else []) := by
  simp only [namesQ, filter_take_succ h, List.map_append]; congr 1; cases hp : pred x <;> simp

theorem clipS_ct (xs : List Str) (kc : Nat) (hk : xs.length ≤ kc) :
    ACalls pk 82 [.one (.os 0 0 xs.length kc)] [ownS xs] (fun r o => r = .one (.os 0 0 xs.length xs.length) ∧ o = [ownS xs]) := by
  refine acalls_of_body Tryz.func82 rfl (by kernel_rfl) rfl ?_
  refine rn rfl ?_
  refine goal_did rfl rfl (dA_sliceOwn 0 xs.length xs.length 0 xs.length xs.length rfl rfl rfl rfl rfl rfl rfl Bnd.none_ (Bnd.some_ rfl rfl) (.inr ⟨by simp, by simp, Bnd.some_ rfl rfl⟩) (by omega) (by omega) hk (by simp) rfl rfl rfl rfl) ?_
  exact rn rfl (fin_is [] rfl ⟨rfl, rfl⟩)

theorem namesOf_ct (s : Sig) (hl : s.length ≤ 1048576) (pred : Param → Bool) (f : FuncId) (cs : List C)
    (hcl : ∀ p, ACalls pk f (.agg (eQ p) :: onesT cs) [] (fun r o => r = .one (.bool (pred p)) ∧ o = [])) (hcs : cs = [] ∨ ∃ c, cs = [.fp [c]]) :
    ACalls pk 58 [.agg (eG s), .one (.fn f cs)] [] (fun r o => r = .one (.fs ((namesQ s pred).map eS)) ∧ o = []) := by
  have key : ∀ cs' : List C, (∀ p, ACalls pk f (.agg (eQ p) :: onesT cs') [] (fun r o => r = .one (.bool (pred p)) ∧ o = [])) → (cs' = [] ∨ ∃ c, cs' = [.fp [c]]) → True := fun _ _ _ => trivial
  rcases hcs with rfl | ⟨c, rfl⟩
  · refine acalls_of_body Tryz.func58 rfl (by kernel_rfl) rfl ?_
    refine rn rfl ?_
    refine goal_weakCod (Weak.adopt 5 0 1) ?_
    refine goal_loop_keep (fun m σ => ∃ (n L : Int) (i len : Nat) (acc : List Str), n = i ∧ L = s.length ∧ i ≤ s.length ∧ m = s.length - i ∧ acc = namesQ (s.take i) pred ∧ len = acc.length ∧
        σ = ⟨[(11, .one (.int .i64 n)), (10, .one (.int .i64 L)), (9, .one (.fs (s.map eQ))), (5, .one (.os 0 0 len len)), (1, .one (.fn f []))], [ownS acc], []⟩) s.length [11, 10, 9, 5, 1] [1] rfl
      ⟨_, _, 0, _, [], rfl, by simp, by omega, by omega, rfl, rfl, rfl⟩ ?_
    rintro m σ ⟨n, L, i, len, acc, rfl, rfl, hi, rfl, hacc, rfl, rfl⟩
    refine rn rfl ?_
    refine goal_cond rfl (fun h => ?_) (fun h => ?_) <;> (try simp only [gt_iff_lt, ge_iff_le, bne_iff_ne, ne_eq, bne_eq_false_iff_eq, beq_iff_eq, beq_eq_false_iff_ne, Bool.not_eq_true', Bool.not_eq_false', decide_eq_true_eq, decide_eq_false_iff_not, List.length_map] at h)
    · obtain ⟨p, hp⟩ := at_some (xs := s) (i := i) (by omega)
      have hst := namesQ_take_succ (pred := pred) hp
      have hle := namesQ_len (s.take i) pred
      rw [← hacc, List.length_take] at hle
      refine rn rfl ?_
      refine goal_did rfl rfl (dA_index (eQ p) rfl rfl rfl rfl rfl rfl rfl (by omega) (by (try simp); omega) (map_at (by simpa using hp)) rfl) ?_
      refine rn rfl ?_
      refine goal_step (step_call [] rfl rfl rfl rfl rfl rfl (hcl p)) ?_
      rintro σ2 ⟨r, o', ⟨rfl, rfl⟩, hσ⟩
      obtain rfl := Option.some.inj hσ
      clear hσ
      refine rn rfl ?_
      refine goal_cond rfl (fun h2 => ?_) (fun h2 => ?_) <;> (try simp only [gt_iff_lt, ge_iff_le, bne_iff_ne, ne_eq, bne_eq_false_iff_eq, beq_iff_eq, beq_eq_false_iff_ne, Bool.not_eq_true', Bool.not_eq_false', decide_eq_true_eq, decide_eq_false_iff_not, List.length_map] at h2)
      · refine rn rfl ?_
        refine goal_did rfl rfl (dA_append (old := (acc).map eS) (rows := ([p.name] : List Str).map eS) (((acc) ++ ([p.name] : List Str)).map eS) (acc.length + 1) true (Dst.own rfl rfl rfl rfl rfl (by first | (simp; done) | (simp; omega)) (whole (by first | (simp; done) | (simp; omega)))) (Src.os rfl rfl (Nat.le_refl 1) rfl) rfl rfl rfl rfl rfl rfl rfl rfl (rows_len eS_len _) (rows_len eS_len _) (by (try simp only [List.length_map, List.length_append, List.length_cons, List.length_nil, List.length_take, List.length_drop]); show _ * 16 ≤ _; omega) (by first | (simp; done) | (simp; omega)) (by simp) (by first | (simp; done) | (simp; omega)) (fun _ => noOwnR_map _ eS_noOwn _)) ?_
        refine rn rfl ?_
        refine round_keep (s.length - (i + 1)) [11, 10, 9, 5, 1] [3] (by omega) rfl ⟨_, _, i + 1, acc.length + 1, acc ++ [p.name], wrap64 (by omega) (by omega), rfl, by omega, rfl, ?_, by simp, rfl⟩
        rw [hst, h2, hacc]; rfl
      · refine rn rfl ?_
        refine round_keep (s.length - (i + 1)) [11, 10, 9, 5, 1] [0] (by omega) rfl ⟨_, _, i + 1, _, acc, wrap64 (by omega) (by omega), rfl, by omega, rfl, ?_, rfl, rfl⟩
        rw [hst, h2, hacc]; simp
    · refine rn rfl ?_
      refine round_ext ?_
      refine rn rfl ?_
      refine goal_step (step_call [0] rfl rfl rfl rfl rfl rfl (clipS_ct acc acc.length (Nat.le_refl _))) ?_
      rintro σ2 ⟨r, o', ⟨rfl, rfl⟩, hσ⟩
      obtain rfl := Option.some.inj hσ
      clear hσ
      refine rn rfl ?_
      refine rn rfl (fin_is [] rfl ⟨?_, rfl⟩)
      rw [takeAll eS _ _ rfl, hacc, show i = s.length by omega, List.take_length]
  · refine acalls_of_body Tryz.func58 rfl (by kernel_rfl) rfl ?_
    refine rn rfl ?_
    refine goal_weakCod (Weak.adopt 5 0 1) ?_
    refine goal_loop_keep (fun m σ => ∃ (n L : Int) (i len : Nat) (acc : List Str), n = i ∧ L = s.length ∧ i ≤ s.length ∧ m = s.length - i ∧ acc = namesQ (s.take i) pred ∧ len = acc.length ∧
        σ = ⟨[(11, .one (.int .i64 n)), (10, .one (.int .i64 L)), (9, .one (.fs (s.map eQ))), (5, .one (.os 0 0 len len)), (1, .one (.fn f [.fp [c]]))], [ownS acc], []⟩) s.length [11, 10, 9, 5, 1] [1] rfl
      ⟨_, _, 0, _, [], rfl, by simp, by omega, by omega, rfl, rfl, rfl⟩ ?_
    rintro m σ ⟨n, L, i, len, acc, rfl, rfl, hi, rfl, hacc, rfl, rfl⟩
    refine rn rfl ?_
    refine goal_cond rfl (fun h => ?_) (fun h => ?_) <;> (try simp only [gt_iff_lt, ge_iff_le, bne_iff_ne, ne_eq, bne_eq_false_iff_eq, beq_iff_eq, beq_eq_false_iff_ne, Bool.not_eq_true', Bool.not_eq_false', decide_eq_true_eq, decide_eq_false_iff_not, List.length_map] at h)
    · obtain ⟨p, hp⟩ := at_some (xs := s) (i := i) (by omega)
      have hst := namesQ_take_succ (pred := pred) hp
      have hle := namesQ_len (s.take i) pred
      rw [← hacc, List.length_take] at hle
      refine rn rfl ?_
      refine goal_did rfl rfl (dA_index (eQ p) rfl rfl rfl rfl rfl rfl rfl (by omega) (by (try simp); omega) (map_at (by simpa using hp)) rfl) ?_
      refine rn rfl ?_
      refine goal_step (step_call [] rfl rfl rfl rfl rfl rfl (hcl p)) ?_
      rintro σ2 ⟨r, o', ⟨rfl, rfl⟩, hσ⟩
      obtain rfl := Option.some.inj hσ
      clear hσ
      refine rn rfl ?_
      refine goal_cond rfl (fun h2 => ?_) (fun h2 => ?_) <;> (try simp only [gt_iff_lt, ge_iff_le, bne_iff_ne, ne_eq, bne_eq_false_iff_eq, beq_iff_eq, beq_eq_false_iff_ne, Bool.not_eq_true', Bool.not_eq_false', decide_eq_true_eq, decide_eq_false_iff_not, List.length_map] at h2)
      · refine rn rfl ?_
        refine goal_did rfl rfl (dA_append (old := (acc).map eS) (rows := ([p.name] : List Str).map eS) (((acc) ++ ([p.name] : List Str)).map eS) (acc.length + 1) true (Dst.own rfl rfl rfl rfl rfl (by first | (simp; done) | (simp; omega)) (whole (by first | (simp; done) | (simp; omega)))) (Src.os rfl rfl (Nat.le_refl 1) rfl) rfl rfl rfl rfl rfl rfl rfl rfl (rows_len eS_len _) (rows_len eS_len _) (by (try simp only [List.length_map, List.length_append, List.length_cons, List.length_nil, List.length_take, List.length_drop]); show _ * 16 ≤ _; omega) (by first | (simp; done) | (simp; omega)) (by simp) (by first | (simp; done) | (simp; omega)) (fun _ => noOwnR_map _ eS_noOwn _)) ?_
        refine rn rfl ?_
        refine round_keep (s.length - (i + 1)) [11, 10, 9, 5, 1] [3] (by omega) rfl ⟨_, _, i + 1, acc.length + 1, acc ++ [p.name], wrap64 (by omega) (by omega), rfl, by omega, rfl, ?_, by simp, rfl⟩
        rw [hst, h2, hacc]; rfl
      · refine rn rfl ?_
        refine round_keep (s.length - (i + 1)) [11, 10, 9, 5, 1] [0] (by omega) rfl ⟨_, _, i + 1, _, acc, wrap64 (by omega) (by omega), rfl, by omega, rfl, ?_, rfl, rfl⟩
        rw [hst, h2, hacc]; simp
    · refine rn rfl ?_
      refine round_ext ?_
      refine rn rfl ?_
      refine goal_step (step_call [0] rfl rfl rfl rfl rfl rfl (clipS_ct acc acc.length (Nat.le_refl _))) ?_
      rintro σ2 ⟨r, o', ⟨rfl, rfl⟩, hσ⟩
      obtain rfl := Option.some.inj hσ
      clear hσ
      refine rn rfl ?_
      refine rn rfl (fin_is [] rfl ⟨?_, rfl⟩)
      rw [takeAll eS _ _ rfl, hacc, show i = s.length by omega, List.take_length]

theorem iplaces_ct (s : Sig) (hb : s.length ≤ 1048576) : ACalls pk 61 [.agg (eG s)] [] (fun r o => r = .one (.int .i64 (placesQ s)) ∧ o = []) := by
  refine acalls_of_body Tryz.func61 rfl (by kernel_rfl) rfl ?_
  refine rn rfl ?_
  refine goal_step (step_call [] rfl rfl rfl rfl rfl rfl (namesOf_ct s hb placedQ _ [] iplaced_ct (.inl rfl))) ?_
  rintro σ2 ⟨r, o', ⟨rfl, rfl⟩, hσ⟩
  obtain rfl := Option.some.inj hσ
  clear hσ
  refine rn rfl ?_
  refine rn rfl (fin_is [] rfl ⟨?_, rfl⟩)
  simp [namesQ, placesQ, List.countP_eq_length_filter]

theorem okQs_all : ∀ (r pre : Sig), okQs pre r = true → ∀ (i : Nat) (p : Param), r[i]? = some p → stepQ (pre ++ r.take i) p = true
  | [], pre, _, i, p, hp => by simp at hp
  | q :: r, pre, h, 0, p, hp => by simp at hp; subst hp; simp only [okQs, Bool.and_eq_true] at h; simpa using h.1
  | q :: r, pre, h, i + 1, p, hp => by
    simp only [okQs, Bool.and_eq_true] at h
    have := okQs_all r (pre ++ [q]) h.2 i p (by simpa using hp)
    simpa using this

theorem okQs_of_all : ∀ (r pre : Sig), (∀ (i : Nat) (p : Param), r[i]? = some p → stepQ (pre ++ r.take i) p = true) → okQs pre r = true
  | [], pre, _ => rfl
  | q :: r, pre, h => by
    simp only [okQs, Bool.and_eq_true]
    refine ⟨by simpa using h 0 q rfl, okQs_of_all r (pre ++ [q]) fun i p hp => ?_⟩
    have := h (i + 1) p (by simpa using hp)
    simpa using this

structure OkS (s : Sig) : Prop where
  params : ∀ p ∈ s, okQ p = true
  nodup : (s.map Param.name).Nodup
  next : ∀ (i : Nat) (l p : Param), s[i]? = some l → s[i + 1]? = some p → nextQ l p = true
  len : s.length ≤ 8

theorem okSig_iff {s : Sig} : okSig s = true ↔ OkS s := by
  simp only [okSig, Bool.and_eq_true, decide_eq_true_eq]
  constructor
  · rintro ⟨h, hl⟩
    have hall := okQs_all s [] h
    simp only [List.nil_append] at hall
    refine ⟨fun p hp => ?_, ?_, fun i l p hl hp => ?_, hl⟩
    · obtain ⟨i, hi⟩ := List.getElem?_of_mem hp
      have := hall i p hi
      simp only [stepQ, Bool.and_eq_true] at this
      exact this.1.1
    · rw [List.nodup_iff_pairwise_ne, List.pairwise_iff_getElem]
      intro i j hi hj hij he
      simp only [List.length_map] at hi hj
      have := hall j s[j] (List.getElem?_eq_getElem hj)
      simp only [stepQ, Bool.and_eq_true, Bool.not_eq_true'] at this
      have h2 := this.1.2
      rw [List.any_eq_false] at h2
      refine h2 s[i] ?_ ?_
      · rw [List.mem_iff_getElem?]; exact ⟨i, by rw [List.getElem?_take, if_pos hij]; exact List.getElem?_eq_getElem hi⟩
      · simpa [qIs] using he
    · have := hall (i + 1) p hp
      simp only [stepQ, last_take hl, Bool.and_eq_true] at this
      exact this.2
  · intro h
    refine ⟨okQs_of_all s [] fun i p hp => ?_, h.len⟩
    simp only [List.nil_append, stepQ, Bool.and_eq_true, Bool.not_eq_true']
    refine ⟨⟨h.params p (List.mem_of_getElem? hp), ?_⟩, ?_⟩
    · rw [List.any_eq_false]
      intro q hq hqn
      obtain ⟨j, hj⟩ := List.getElem?_of_mem hq
      rw [List.getElem?_take] at hj
      split at hj
      · rename_i hji
        have hn := h.nodup
        rw [List.nodup_iff_pairwise_ne, List.pairwise_iff_getElem] at hn
        have hil := lt_of_some hp
        have hjl := lt_of_some hj
        refine hn j i (by simpa using hjl) (by simpa using hil) hji ?_
        rw [List.getElem?_eq_getElem hil] at hp
        rw [List.getElem?_eq_getElem hjl] at hj
        simp only [Option.some.injEq] at hp hj
        simp only [List.getElem_map, hp, hj]
        simpa [qIs] using hqn
      · cases hj
    · split
      · rfl
      · rename_i l hl
        cases i with
        | zero => simp at hl
        | succ i =>
          obtain ⟨l', hl'⟩ := at_some (xs := s) (i := i) (by have := lt_of_some hp; omega)
          rw [last_take hl'] at hl
          cases hl
          exact h.next i _ p hl' hp

theorem nextQ_kind {l p : Param} (h : nextQ l p = true) : l.kind ≤ p.kind ∧ (singleQ p = false → l.kind < p.kind) ∧ (placedQ p = true → l.hasD = true → p.hasD = true) := by
  simp only [nextQ, Bool.and_eq_true, decide_eq_true_eq, Bool.or_eq_true, bne_iff_ne, ne_eq, Bool.not_eq_true'] at h
  refine ⟨h.1.1, fun hs => ?_, fun h1 h2 => ?_⟩
  · rcases h.1.2 with h3 | h3
    · omega
    · rw [hs] at h3; cases h3
  · rcases h.2 with (h3 | h3) | h3
    · rw [h1] at h3; cases h3
    · rw [h2] at h3; cases h3
    · exact h3

theorem OkS.sorted {s : Sig} (h : OkS s) : ∀ (d i : Nat) (l p : Param), s[i]? = some l → s[i + d]? = some p → l.kind ≤ p.kind
  | 0, i, l, p, hl, hp => by rw [Nat.add_zero, hl] at hp; cases hp; exact Int.le_refl _
  | d + 1, i, l, p, hl, hp => by
    obtain ⟨q, hq⟩ := at_some (xs := s) (i := i + d) (by have := lt_of_some hp; omega)
    have h1 := OkS.sorted h d i l q hl hq
    have h2 := (nextQ_kind (h.next (i + d) q p hq hp)).1
    omega

theorem OkS.sortedLt {s : Sig} (h : OkS s) {i j : Nat} {l p : Param} (hij : i < j) (hl : s[i]? = some l) (hp : s[j]? = some p) (hs : singleQ p = false) : l.kind < p.kind := by
  obtain ⟨q, hq⟩ := at_some (xs := s) (i := j - 1) (by have := lt_of_some hp; omega)
  have h1 := h.sorted (j - 1 - i) i l q hl (by rw [show i + (j - 1 - i) = j - 1 by omega]; exact hq)
  have h2 := (nextQ_kind (h.next (j - 1) q p hq (by rw [show j - 1 + 1 = j by omega]; exact hp))).2.1 hs
  omega

theorem OkS.kindRange {s : Sig} (h : OkS s) {p : Param} (hp : p ∈ s) : 0 ≤ p.kind ∧ p.kind ≤ 4 := by
  have := h.params p hp
  simp only [okQ, inR, Bool.and_eq_true, decide_eq_true_eq] at this
  exact this.1.1.1.2

theorem OkS.nameLen {s : Sig} (h : OkS s) {p : Param} (hp : p ∈ s) : p.name.length ≤ 6 ∧ 1 ≤ p.name.length := by
  have := h.params p hp
  simp only [okQ, okName, inR, Bool.and_eq_true, decide_eq_true_eq] at this
  omega

theorem single_kind {p : Param} : singleQ p = true ↔ p.kind = 0 ∨ p.kind = 1 ∨ p.kind = 3 := by
  simp only [singleQ, placedQ, Bool.or_eq_true, beq_iff_eq]; omega

theorem placed_kind {p : Param} : placedQ p = true ↔ p.kind = 0 ∨ p.kind = 1 := by
  simp only [placedQ, Bool.or_eq_true, beq_iff_eq]

theorem named_kind {p : Param} : namedQ p = true ↔ p.kind = 1 ∨ p.kind = 3 := by
  simp only [namedQ, Bool.or_eq_true, beq_iff_eq]

/-- Of the kinds of which there is one parameter at most. -/
theorem OkS.one {s : Sig} (h : OkS s) {i j : Nat} {l p : Param} (hl : s[i]? = some l) (hp : s[j]? = some p) (hk : l.kind = p.kind) (hs : singleQ p = false) : i = j := by
  have hs' : singleQ l = false := by
    cases hx : singleQ l with
    | false => rfl
    | true => rw [single_kind, hk, ← single_kind, hs] at hx; cases hx
  rcases Nat.lt_trichotomy i j with h1 | h1 | h1
  · have := h.sortedLt h1 hl hp hs; omega
  · exact h1
  · have := h.sortedLt h1 hp hl hs'; omega

theorem countP_all {α : Type} {p : α → Bool} : ∀ {xs : List α}, (∀ x ∈ xs, p x = true) → xs.countP p = xs.length
  | [], _ => rfl
  | x :: xs, h => by rw [List.countP_cons_of_pos (h x (by simp)), countP_all (fun y hy => h y (by simp [hy]))]; rfl

theorem countP_none {α : Type} {p : α → Bool} : ∀ {xs : List α}, (∀ x ∈ xs, p x = false) → xs.countP p = 0
  | [], _ => rfl
  | x :: xs, h => by rw [List.countP_cons_of_neg (by rw [h x (by simp)]; simp), countP_none (fun y hy => h y (by simp [hy]))]

/-- The parameters that are found by their place come first. -/
theorem OkS.placed_iff {s : Sig} (h : OkS s) {i : Nat} {p : Param} (hp : s[i]? = some p) : placedQ p = true ↔ i < placesQ s := by
  have hsp := List.take_append_drop (i + 1) s
  have hspi := List.take_append_drop i s
  constructor
  · intro hpp
    have h1 : (s.take (i + 1)).countP placedQ = i + 1 := by
      rw [countP_all]
      · simp; have := lt_of_some hp; omega
      · intro q hq
        obtain ⟨j, hj⟩ := List.getElem?_of_mem hq
        rw [List.getElem?_take] at hj
        split at hj
        · have hk := h.sorted (i - j) j q p hj (by rw [show j + (i - j) = i by omega]; exact hp)
          have hr := h.kindRange (List.mem_of_getElem? hj)
          rw [placed_kind] at hpp ⊢
          omega
        · cases hj
    have h2 : placesQ s = (s.take (i + 1)).countP placedQ + (s.drop (i + 1)).countP placedQ := by
      unfold placesQ; rw [← List.countP_append, hsp]
    omega
  · intro hlt
    cases hpp : placedQ p with
    | true => rfl
    | false =>
      exfalso
      have h1 : (s.drop i).countP placedQ = 0 := by
        refine countP_none fun q hq => ?_
        obtain ⟨j, hj⟩ := List.getElem?_of_mem hq
        rw [List.getElem?_drop] at hj
        have hk := h.sorted j i p q hp hj
        have hr := h.kindRange (List.mem_of_getElem? hp)
        cases hqq : placedQ q with
        | false => rfl
        | true =>
          rw [placed_kind] at hqq
          have : placedQ p = true := placed_kind.2 (by omega)
          rw [hpp] at this; cases this
      have h2 : placesQ s = (s.take i).countP placedQ + (s.drop i).countP placedQ := by
        unfold placesQ; rw [← List.countP_append, hspi]
      have h3 := List.countP_le_length (p := placedQ) (l := s.take i)
      rw [List.length_take] at h3
      omega

theorem placesQ_le (s : Sig) : placesQ s ≤ s.length := List.countP_le_length

structure Slot where
  given : Bool
  list : List Int
  pairs : List Pair
deriving DecidableEq

def eL (x : Slot) : List C := [.bool x.given, .fs (x.list.map eI), .fs (x.pairs.map eP)]

def zL : Slot := ⟨false, [], []⟩

abbrev Bnds := List Slot

def eBi (b : Bnds) : List C := [.fs (b.map eL)]

structure Problem where
  kind : Int
  name : Str
deriving DecidableEq

def eB (p : Problem) : List C := [.int .i64 p.kind, .str p.name]

theorem eL_noOwn (p : Slot) : noOwnL (eL p) = true := rfl

theorem eB_len (p : Problem) : (eB p).length = 2 := rfl

theorem eB_noOwn (p : Problem) : noOwnL (eB p) = true := rfl

def ownL (xs : List Slot) : Option AObj := some ⟨3, xs.map eL, true, false, false⟩

def ownB (xs : List Problem) : Option AObj := some ⟨2, xs.map eB, true, false, false⟩

/-- What the places give to parameter number 'i'. -/
def place1 (np : Nat) (pl : List Int) (i : Nat) (p : Param) : Slot :=
  if placedQ p && decide (i < pl.length) then ⟨true, [pl.getD i 0], []⟩ else if p.kind == 2 then ⟨false, pl.drop np, []⟩ else zL

def phase1 (s : Sig) (pl : List Int) : Bnds := s.mapIdx (place1 (placesQ s) pl)

def manyQ (s : Sig) (pl : List Int) : List Problem := if decide (placesQ s < pl.length) && !s.any (kIs 2) then [⟨0, []⟩] else []

/-- What a name gives. -/
def stepB (s : Sig) (st : Bnds × List Problem) (q : Pair) : Bnds × List Problem :=
  if takesQ s q.name < 0 then (st.1, st.2 ++ [⟨1, q.name⟩]) else
  match s[(takesQ s q.name).toNat]?, st.1[(takesQ s q.name).toNat]? with
  | some p, some x => if p.kind = 4 then (st.1.set (takesQ s q.name).toNat ⟨x.given, x.list, x.pairs ++ [q]⟩, st.2) else
      if x.given then (st.1, st.2 ++ [⟨2, q.name⟩]) else (st.1.set (takesQ s q.name).toNat ⟨true, [q.value], []⟩, st.2)
  | _, _ => st

def boundQ (s : Sig) (f : Flat) : Bnds × List Problem := f.named.foldl (stepB s) (phase1 s f.places, manyQ s f.places)

def lackQ (px : Param × Slot) : Option Problem := if singleQ px.1 && !px.1.hasD && !px.2.given then some ⟨3, px.1.name⟩ else none

def missingQ (s : Sig) (b : Bnds) : List Problem := (s.zip b).filterMap lackQ

def bindQ (s : Sig) (f : Flat) : Bnds × List Problem := ((boundQ s f).1, (boundQ s f).2 ++ missingQ s (boundQ s f).1)

theorem phase1_len (s : Sig) (pl : List Int) : (phase1 s pl).length = s.length := by simp [phase1]

theorem stepB_len (s : Sig) (st : Bnds × List Problem) (q : Pair) : (stepB s st q).1.length = st.1.length := by
  unfold stepB
  split
  · rfl
  · split
    · split
      · simp
      · split <;> simp
    · rfl

theorem foldB_len (s : Sig) : ∀ (qs : List Pair) (st : Bnds × List Problem), (qs.foldl (stepB s) st).1.length = st.1.length
  | [], st => rfl
  | q :: qs, st => by rw [List.foldl_cons, foldB_len s qs, stepB_len]

theorem boundQ_len (s : Sig) (f : Flat) : (boundQ s f).1.length = s.length := by rw [boundQ, foldB_len, phase1_len]

theorem stepB_wr (s : Sig) (st : Bnds × List Problem) (q : Pair) : (stepB s st q).2.length ≤ st.2.length + 1 := by
  unfold stepB
  split
  · simp
  · split
    · split
      · simp
      · split <;> simp
    · simp

theorem foldB_wr (s : Sig) : ∀ (qs : List Pair) (st : Bnds × List Problem), (qs.foldl (stepB s) st).2.length ≤ st.2.length + qs.length
  | [], st => by simp
  | q :: qs, st => by
    rw [List.foldl_cons]
    have h1 := foldB_wr s qs (stepB s st q)
    have h2 := stepB_wr s st q
    simp only [List.length_cons]
    omega

theorem manyQ_len (s : Sig) (pl : List Int) : (manyQ s pl).length ≤ 1 := by unfold manyQ; split <;> simp

def cellOr (b : Bool) (c : Option C) (d : C) : C := match b, c with
  | true, some c => c
  | _, _ => d

def rowM (cr cm : Option C) (p : Param) (x : Slot) : List C := [.bool x.given, cellOr (p.kind == 2) cr (.fs (x.list.map eI)), cellOr (p.kind == 4) cm (.fs (x.pairs.map eP))]

def rowsM (cr cm : Option C) (s : Sig) (b : Bnds) : List (List C) := List.zipWith (rowM cr cm) s b

theorem rowsM_at {cr cm : Option C} {s : Sig} {b : Bnds} {i : Nat} {p : Param} {x : Slot} (hp : s[i]? = some p) (hx : b[i]? = some x) : (rowsM cr cm s b)[i]? = some (rowM cr cm p x) := by
  simp [rowsM, List.getElem?_zipWith, hp, hx]

theorem rowsM_set {cr cm : Option C} : ∀ {s : Sig} {b : Bnds} {i : Nat} {p : Param} {y : Slot}, s[i]? = some p → (rowsM cr cm s b).set i (rowM cr cm p y) = rowsM cr cm s (b.set i y)
  | [], b, i, p, y, hp => by simp at hp
  | q :: s, [], i, p, y, hp => by simp [rowsM]
  | q :: s, x :: b, 0, p, y, hp => by simp at hp; subst hp; simp [rowsM]
  | q :: s, x :: b, i + 1, p, y, hp => by
    have := rowsM_set (cr := cr) (cm := cm) (s := s) (b := b) (i := i) (p := p) (y := y) (by simpa using hp)
    simp only [rowsM, List.zipWith_cons_cons, List.set_cons_succ] at this ⊢
    rw [this]

theorem cellOr_map {f : C → C} {b : Bool} {c : Option C} {d : C} (hd : f d = d) : f (cellOr b c d) = cellOr b (c.map f) d := by
  cases b <;> cases c <;> simp [cellOr, hd]

theorem rowsM_re {f : C → C} (hb : ∀ b, f (.bool b) = .bool b) (hf : ∀ xs, f (.fs xs) = .fs xs) (cr cm : Option C) (s : Sig) (b : Bnds) : mapR f (rowsM cr cm s b) = rowsM (cr.map f) (cm.map f) s b := by
  rw [mapR_eq]
  simp only [rowsM, List.map_zipWith]
  congr 1
  funext p x
  simp only [rowM, mapC, hb, cellOr_map (hf _)]

theorem rowsM_none {s : Sig} {b : Bnds} (h : b.length = s.length) : rowsM none none s b = b.map eL := by
  apply List.ext_getElem?
  intro i
  simp only [rowsM, List.getElem?_zipWith, List.getElem?_map]
  by_cases hi : i < s.length
  · rw [List.getElem?_eq_getElem hi, List.getElem?_eq_getElem (by omega)]
    simp only [Option.map_some, rowM, eL]
    cases (s[i].kind == 2) <;> cases (s[i].kind == 4) <;> rfl
  · rw [List.getElem?_eq_none (by omega), List.getElem?_eq_none (by omega)]; rfl

/-- Own memory that holds what is said of it, told zs data. -/
theorem rowsM_freeM {cr : Option C} {s : Sig} {b : Bnds} {ps : List Pair} (h : ∀ (i : Nat) (p : Param) (x : Slot), s[i]? = some p → b[i]? = some x → p.kind = 4 → x.pairs = ps) : rowsM cr (some (.fs (ps.map eP))) s b = rowsM cr none s b := by
  apply List.ext_getElem?
  intro i
  simp only [rowsM, List.getElem?_zipWith]
  cases hp : s[i]? with
  | none => rfl
  | some p =>
    cases hx : b[i]? with
    | none => rfl
    | some x =>
      simp only [rowM, Option.some.injEq, List.cons.injEq, true_and, and_true]
      cases hk : (p.kind == 4) with
      | false => rfl
      | true => simp only [cellOr]; rw [h i p x hp hx (by simpa using hk)]

/-- The rows that 'make' gives. -/
def nilRow : List C := [.bool false, nilSl, nilSl]

def nilRows (n : Nat) : List (List C) := List.replicate n nilRow

theorem rowM_noOwn {cr cm : Option C} {p : Param} {x : Slot} (h2 : p.kind = 2 → cr = none) (h4 : p.kind = 4 → cm = none) : rowM cr cm p x = eL x := by
  simp only [rowM, eL]
  congr 1
  congr 1
  · cases hk : (p.kind == 2) with
    | false => rfl
    | true => rw [h2 (by simpa using hk)]; rfl
  · congr 1
    cases hk : (p.kind == 4) with
    | false => rfl
    | true => rw [h4 (by simpa using hk)]; rfl

/-- The index of the one parameter of a kind. -/
theorem kind_ix {s : Sig} (h : OkS s) (k : Int) (hk : k = 2 ∨ k = 4) : (∀ p ∈ s, p.kind ≠ k) ∨ ∃ (m : Nat) (q : Param), s[m]? = some q ∧ q.kind = k ∧ ∀ (i : Nat) (p : Param), s[i]? = some p → (p.kind = k ↔ i = m) := by
  by_cases hx : ∃ p ∈ s, p.kind = k
  · obtain ⟨q, hq, hqk⟩ := hx
    obtain ⟨m, hm⟩ := List.getElem?_of_mem hq
    refine .inr ⟨m, q, hm, hqk, fun i p hp => ⟨fun hpk => ?_, fun hi => by subst hi; rw [hm] at hp; cases hp; exact hqk⟩⟩
    refine h.one hp hm (by omega) ?_
    cases hs : singleQ q with
    | false => rfl
    | true => rw [single_kind] at hs; omega
  · exact .inl fun p hp hpk => hx ⟨p, hp, hpk⟩

/-- The rows that 'make' gives; some nil cells are own memory that is empty. -/
def rowN (a b : Option C) (p : Param) : List C := [.bool false, cellOr (p.kind == 2) a nilSl, cellOr (p.kind == 4) b nilSl]

def rowsN (a b : Option C) (s : Sig) : List (List C) := s.map (rowN a b)

theorem rowsN_none (s : Sig) : rowsN none none s = List.replicate s.length nilRow := by
  have : rowN none none = fun _ => nilRow := by
    funext p; simp only [rowN]; cases (p.kind == 2) <;> cases (p.kind == 4) <;> rfl
  rw [rowsN, this, List.map_const']

variable {N np : Nat} {σ : State}

theorem map_set_same {α β : Type} {f g : α → β} {xs : List α} {m : Nat} {y : β} (hm : m < xs.length) (h : ∀ (i : Nat) (x : α), xs[i]? = some x → if i = m then g x = y else g x = f x) : (xs.map f).set m y = xs.map g := by
  apply List.ext_getElem?
  intro i
  rw [List.getElem?_set, List.getElem?_map, List.getElem?_map]
  cases hx : xs[i]? with
  | none =>
    have : xs.length ≤ i := by simpa using hx
    rw [if_neg (by omega)]; rfl
  | some x =>
    have := h i x hx
    by_cases him : i = m
    · subst him; rw [if_pos rfl] at this ⊢; simp [hm, this]
    · rw [if_neg him] at this; rw [if_neg (fun h0 => him h0.symm)]; simp [this]

theorem adoptM {s : Sig} (hs : OkS s) {id : Nat} {b : Option C} {cl : Bool} {ob : AObj} (P : Nat) (hP : σ.o.length = P) (hob : getObj? σ id = some ob) (hr : ob = ⟨3, rowsN b none s, cl, false, false⟩) :
    Weak N np σ ⟨σ.ρ, setNth (snocO σ.o ⟨2, [], true, false, false⟩) id (some ⟨3, rowsN b (some (.os P 0 0 0)) s, false, false, false⟩), σ.k⟩ := by
  subst hP
  refine Weak.adoptRows hob hr ?_
  rcases kind_ix hs 4 (.inr rfl) with hno | ⟨m, q, hm, hq, hall⟩
  · left
    apply List.map_congr_left
    intro p hp
    have : (p.kind == 4) = false := by simpa using hno p hp
    simp only [rowN, this, cellOr]
  · right
    refine ⟨m, 2, rowN b none q, by simp [rowsN, hm], (map_set_same (lt_of_some hm) fun i x hx => ?_).symm⟩
    have hk := hall i x hx
    split
    · rename_i him
      subst him; rw [hm] at hx; cases hx
      simp [rowN, cellOr, adoptAt, adoptC, nilSl, nilB, hq]
    · rename_i him
      have : (x.kind == 4) = false := by simpa using fun h0 => him (hk.1 h0)
      simp only [rowN, this, cellOr]

/-- All nil cells told zs data. -/
theorem rowsN_re {f : C → C} (hb : f (.bool false) = .bool false) (hn : f nilSl = .fs []) (a b : Option C) (s : Sig) : mapR f (rowsN a b s) = rowsM (a.map f) (b.map f) s (List.replicate s.length zL) := by
  rw [mapR_eq]
  apply List.ext_getElem?
  intro i
  simp only [rowsN, rowsM, List.getElem?_map, List.getElem?_zipWith, List.getElem?_replicate]
  cases hp : s[i]? with
  | none => rfl
  | some p =>
    rw [if_pos (lt_of_some hp)]
    simp only [Option.map_some, Option.some.injEq, rowN, rowM, mapC, hb, zL, List.map_nil]
    congr 1
    congr 1
    · cases (p.kind == 2) <;> cases a <;> simp [cellOr, hn]
    · congr 1
      cases (p.kind == 4) <;> cases b <;> simp [cellOr, hn]

def part1 (s : Sig) (pl : List Int) (i : Nat) : Bnds := s.mapIdx fun j p => if j < i then place1 (placesQ s) pl j p else zL

theorem part1_zero (s : Sig) (pl : List Int) : part1 s pl 0 = List.replicate s.length zL := by
  apply List.ext_getElem?
  intro i
  simp only [part1, List.getElem?_mapIdx, List.getElem?_replicate]
  by_cases h : i < s.length
  · simp [h]
  · simp [h]

theorem part1_full (s : Sig) (pl : List Int) : part1 s pl s.length = phase1 s pl := by
  apply List.ext_getElem?
  intro i
  simp only [part1, phase1, List.getElem?_mapIdx]
  cases hp : s[i]? with
  | none => rfl
  | some p => simp [lt_of_some hp]

theorem part1_at {s : Sig} {pl : List Int} {i : Nat} {p : Param} (hp : s[i]? = some p) : (part1 s pl i)[i]? = some zL := by
  simp [part1, hp]

theorem part1_step {s : Sig} {pl : List Int} {i : Nat} {p : Param} (hp : s[i]? = some p) : (part1 s pl i).set i (place1 (placesQ s) pl i p) = part1 s pl (i + 1) := by
  apply List.ext_getElem?
  intro j
  have hl := lt_of_some hp
  simp only [List.getElem?_set, part1, List.getElem?_mapIdx, List.length_mapIdx]
  by_cases hij : i = j
  · subst hij
    have h1 : s[i] = p := by rw [List.getElem?_eq_getElem hl] at hp; simpa using hp
    simp [hl, h1]
  · rw [if_neg hij]
    cases hj : s[j]? with
    | none => rfl
    | some q =>
      simp only [Option.map_some, Option.some.injEq]
      by_cases h1 : j < i
      · rw [if_pos h1, if_pos (by omega)]
      · rw [if_neg h1, if_neg (by omega)]

/-- The places that are left ahead of parameter number 'i'. -/
def leftQ (s : Sig) (pl : List Int) (i : Nat) : List Int := if (s.take i).any (kIs 2) then [] else pl.drop (min i (placesQ s))

theorem any_take_succ {α : Type} {p : α → Bool} {xs : List α} {i : Nat} {x : α} (h : xs[i]? = some x) : (xs.take (i + 1)).any p = ((xs.take i).any p || p x) := by
  rw [← take_snoc h, List.any_append]; simp

theorem noRest {s : Sig} (hs : OkS s) {i : Nat} {p : Param} (hp : s[i]? = some p) (hk : p.kind ≤ 2) : (s.take i).any (kIs 2) = false := by
  rw [List.any_eq_false]
  intro q hq hqk
  obtain ⟨j, hj⟩ := List.getElem?_of_mem hq
  rw [List.getElem?_take] at hj
  split at hj
  · rename_i hji
    have hqk' : q.kind = 2 := by simpa [kIs] using hqk
    have h1 := hs.sorted (i - j) j q p hj (by rw [show j + (i - j) = i by omega]; exact hp)
    have h2 := hs.one hj hp (by omega) (by
      cases hx : singleQ p with
      | false => rfl
      | true => rw [single_kind] at hx; omega)
    omega
  · cases hj

theorem left_placed {s : Sig} (hs : OkS s) {pl : List Int} {i : Nat} {p : Param} (hp : s[i]? = some p) (hpl : placedQ p = true) : leftQ s pl i = pl.drop i ∧ leftQ s pl (i + 1) = pl.drop (i + 1) := by
  have hlt := (hs.placed_iff hp).1 hpl
  have hk := placed_kind.1 hpl
  have h1 := noRest hs hp (by omega)
  have h2 : (s.take (i + 1)).any (kIs 2) = false := by
    rw [any_take_succ hp, h1, Bool.false_or]; simp [kIs]; omega
  simp only [leftQ, h1, h2, Bool.false_eq_true, if_false]
  rw [show min i (placesQ s) = i by omega, show min (i + 1) (placesQ s) = i + 1 by omega]
  exact ⟨rfl, rfl⟩

theorem left_rest {s : Sig} (hs : OkS s) {pl : List Int} {i : Nat} {p : Param} (hp : s[i]? = some p) (hk : p.kind = 2) : leftQ s pl i = pl.drop (placesQ s) ∧ leftQ s pl (i + 1) = [] := by
  have h1 := noRest hs hp (by omega)
  have hnp : ¬ i < placesQ s := by
    rw [← hs.placed_iff hp, placed_kind]; omega
  simp only [leftQ, h1, any_take_succ hp, show kIs 2 p = true by simp [kIs, hk], Bool.or_true, if_true, Bool.false_eq_true, if_false]
  rw [show min i (placesQ s) = placesQ s by omega]
  exact ⟨rfl, trivial⟩

theorem left_other {s : Sig} (hs : OkS s) {pl : List Int} {i : Nat} {p : Param} (hp : s[i]? = some p) (hk : p.kind ≠ 2) (hnp : placedQ p = false) : leftQ s pl (i + 1) = leftQ s pl i := by
  have h2 : ¬ i < placesQ s := by rw [← hs.placed_iff hp, hnp]; simp
  have h3 : kIs 2 p = false := by simp [kIs, hk]
  simp only [leftQ, any_take_succ hp, h3, Bool.or_false]
  rw [show min i (placesQ s) = placesQ s by omega, show min (i + 1) (placesQ s) = placesQ s by omega]

theorem left_end (s : Sig) (pl : List Int) : decide (0 < (leftQ s pl s.length).length) = (decide (placesQ s < pl.length) && !s.any (kIs 2)) := by
  unfold leftQ
  rw [List.take_length, show min s.length (placesQ s) = placesQ s by have := placesQ_le s; omega]
  cases h : s.any (kIs 2) with
  | true => simp
  | false =>
    simp only [Bool.false_eq_true, if_false, List.length_drop, Bool.not_false, Bool.and_true]
    rw [decide_eq_decide]; omega

theorem storeRow {cr cm : Option C} {s : Sig} {b : Bnds} {i j : Nat} {p : Param} {x y : Slot} (hp : s[i]? = some p) (h2 : p.kind = 2 → cr = none) (h4 : p.kind = 4 → cm = none) (hj : j = i) :
    rowsM cr cm s (b.set i y) = (rowsM cr cm s b).set j (patch (rowM cr cm p x) 0 (eL y)) := by
  subst hj
  rw [patch_full (rowM cr cm p x) (eL y) rfl, ← rowM_noOwn (x := y) h2 h4, rowsM_set hp]

theorem storeList {cm : Option C} {s : Sig} {b : Bnds} {i j : Nat} {p : Param} {x : Slot} {ns : List Int} (hp : s[i]? = some p) (hj : j = i) :
    rowsM none cm s (b.set i ⟨x.given, ns, x.pairs⟩) = (rowsM none cm s b).set j (patch (rowM none cm p x) 1 [.fs (ns.map eI)]) := by
  subst hj
  rw [← rowsM_set hp]
  congr 1
  simp only [rowM, patch]
  cases (p.kind == 2) <;> rfl

theorem rowM_map {cr : Option C} {c' : C} {p : Param} {x : Slot} (h : p.kind = 4) : rowM cr (some c') p x = [.bool x.given, .fs (x.list.map eI), c'] := by
  simp only [rowM, h]; rfl

theorem rowM_plain {cr cm : Option C} {p : Param} {x : Slot} (h2 : p.kind ≠ 2) (h4 : p.kind ≠ 4) : rowM cr cm p x = eL x := rowM_noOwn (fun h => absurd h h2) (fun h => absurd h h4)

theorem single_four {p : Param} (h : p.kind = 4) : singleQ p = false := by
  cases hz : singleQ p with
  | false => rfl
  | true => rw [single_kind] at hz; omega

theorem storePairs {s : Sig} (hs : OkS s) {cr : Option C} {c c' : C} {b : Bnds} {i j : Nat} {p : Param} {x : Slot} {ps : List Pair} (hp : s[i]? = some p) (hx : b[i]? = some x) (hk : p.kind = 4) (hj : j = i) :
    rowsM cr (some c') s (b.set i ⟨x.given, x.list, ps⟩) = (rowsM cr (some c) s b).set j (patch [.bool x.given, .fs (x.list.map eI), c] 2 [c']) := by
  subst hj
  apply List.ext_getElem?
  intro k
  have hlen : j < (rowsM cr (some c) s b).length := by
    have h1 := lt_of_some hp; have h2 := lt_of_some hx; simp [rowsM]; omega
  rw [List.getElem?_set]
  by_cases hjk : j = k
  · subst hjk
    rw [if_pos rfl, if_pos hlen, rowsM_at hp (by rw [List.getElem?_set]; simp [lt_of_some hx]; rfl), rowM_map hk]
    rfl
  · rw [if_neg hjk]
    simp only [rowsM, List.getElem?_zipWith, List.getElem?_set, if_neg hjk]
    cases hq : s[k]? with
    | none => rfl
    | some q =>
      cases hy : b[k]? with
      | none => rfl
      | some y =>
        have h4 : (q.kind == 4) = false := by
          have : q.kind ≠ 4 := fun h0 => hjk (hs.one hp hq (by omega) (single_four h0))
          simpa using this
        simp only [rowM, h4, cellOr]

theorem takesQ_some {s : Sig} {n : Str} (h : ¬ takesQ s n < 0) : ∃ p, s[(takesQ s n).toNat]? = some p ∧ takesQ s n < s.length ∧ ((namedQ p = true ∧ p.name = n) ∨ p.kind = 4) := by
  have four : takesQ s n = idxI (kIs 4) s 0 → ∃ p, s[(takesQ s n).toNat]? = some p ∧ takesQ s n < s.length ∧ ((namedQ p = true ∧ p.name = n) ∨ p.kind = 4) := fun ht => by
    rw [ht] at h ⊢
    obtain ⟨p, hf, hp, hq, hlt⟩ := idxI_find (show 0 ≤ idxI (kIs 4) s 0 by omega)
    exact ⟨p, hp, hlt, .inr (by simpa [kIs] using hq)⟩
  cases hf : s.find? (qIs n) with
  | none => exact four (by simp [takesQ, hf])
  | some q =>
    cases hn : namedQ q with
    | false => exact four (by simp [takesQ, hf, hn])
    | true =>
      have ht : takesQ s n = idxI (qIs n) s 0 := by simp [takesQ, hf, hn]
      rw [ht] at h ⊢
      obtain ⟨p, hf', hp, hq, hlt⟩ := idxI_find (show 0 ≤ idxI (qIs n) s 0 by omega)
      rw [hf] at hf'
      cases hf'
      exact ⟨_, hp, hlt, .inl ⟨hn, by simpa [qIs] using hq⟩⟩

theorem stepB_neg {s : Sig} {st : Bnds × List Problem} {q : Pair} (h : takesQ s q.name < 0) : stepB s st q = (st.1, st.2 ++ [⟨1, q.name⟩]) := by simp [stepB, h]

theorem stepB_map {s : Sig} {st : Bnds × List Problem} {q : Pair} {i : Nat} {p : Param} {x : Slot} (h : takesQ s q.name = (i : Nat)) (hp : s[i]? = some p) (hx : st.1[i]? = some x) (hk : p.kind = 4) : stepB s st q = (st.1.set i ⟨x.given, x.list, x.pairs ++ [q]⟩, st.2) := by
  simp [stepB, h, hp, hx, hk]

theorem stepB_twice {s : Sig} {st : Bnds × List Problem} {q : Pair} {i : Nat} {p : Param} {x : Slot} (h : takesQ s q.name = (i : Nat)) (hp : s[i]? = some p) (hx : st.1[i]? = some x) (hk : p.kind ≠ 4) (hg : x.given = true) : stepB s st q = (st.1, st.2 ++ [⟨2, q.name⟩]) := by
  simp [stepB, h, hp, hx, hk, hg]

theorem stepB_set {s : Sig} {st : Bnds × List Problem} {q : Pair} {i : Nat} {p : Param} {x : Slot} (h : takesQ s q.name = (i : Nat)) (hp : s[i]? = some p) (hx : st.1[i]? = some x) (hk : p.kind ≠ 4) (hg : x.given = false) : stepB s st q = (st.1.set i ⟨true, [q.value], []⟩, st.2) := by
  simp [stepB, h, hp, hx, hk, hg]

/-- What the map has got. -/
def MapHas (s : Sig) (b : Bnds) (ps : List Pair) : Prop := ∀ (i : Nat) (p : Param) (x : Slot), s[i]? = some p → b[i]? = some x → p.kind = 4 → x.pairs = ps

theorem MapHas.set {s : Sig} {b : Bnds} {ps : List Pair} (h : MapHas s b ps) {i : Nat} {p : Param} {y : Slot} (hp : s[i]? = some p) (hk : p.kind ≠ 4) : MapHas s (b.set i y) ps := by
  intro j q x hq hx hqk
  rw [List.getElem?_set] at hx
  by_cases hij : i = j
  · subst hij; rw [hp] at hq; cases hq; exact absurd hqk hk
  · rw [if_neg hij] at hx; exact h j q x hq hx hqk

theorem MapHas.put {s : Sig} (hs : OkS s) {b : Bnds} {ps : List Pair} {i : Nat} {p : Param} {y : Slot} (hp : s[i]? = some p) (hk : p.kind = 4) (hy : y.pairs = ps) : MapHas s (b.set i y) ps := by
  intro j q x hq hx hqk
  have hij : i = j := hs.one hp hq (by omega) (single_four hqk)
  subst hij
  rw [List.getElem?_set] at hx
  split at hx
  · split at hx
    · cases hx; exact hy
    · cases hx
  · rename_i h0; exact absurd rfl h0

theorem phase1_map {s : Sig} (hs : OkS s) (pl : List Int) : MapHas s (phase1 s pl) [] := by
  intro i p x hp hx hk
  simp only [phase1, List.getElem?_mapIdx, hp, Option.map_some, Option.some.injEq] at hx
  subst hx
  unfold place1
  split
  · rfl
  · split <;> rfl

/-- clip of data. -/
theorem clipPd_ct (xs : List Pair) :
    ACalls pk 104 [.one (.fs (xs.map eP))] [] (fun r o => r = .one (.fs (xs.map eP)) ∧ o = []) := by
  refine acalls_of_body Tryz.func104 rfl (by kernel_rfl) rfl ?_
  refine rn rfl ?_
  refine goal_did rfl rfl (dA_slice3 0 xs.length xs.length (xs.map eP) rfl rfl rfl rfl rfl Bnd.none_ (Bnd.some_ rfl (by simp)) (by simp) (Bnd.some_ rfl (by simp)) (rows_len eP_len _) (by omega) (by omega) (by simp) rfl (by simp [List.take_of_length_le])) ?_
  refine rn rfl ?_
  exact rn rfl (fin_is [] rfl ⟨rfl, rfl⟩)

theorem clipB_ct (xs : List Problem) (kc : Nat) (hk : xs.length ≤ kc) :
    ACalls pk 105 [.one (.os 0 0 xs.length kc)] [ownB xs] (fun r o => r = .one (.os 0 0 xs.length xs.length) ∧ o = [ownB xs]) := by
  refine acalls_of_body Tryz.func105 rfl (by kernel_rfl) rfl ?_
  refine rn rfl ?_
  refine goal_did rfl rfl (dA_sliceOwn 0 xs.length xs.length 0 xs.length xs.length rfl rfl rfl rfl rfl rfl rfl Bnd.none_ (Bnd.some_ rfl rfl) (.inr ⟨by simp, by simp, Bnd.some_ rfl rfl⟩) (by omega) (by omega) hk (by simp) rfl rfl rfl rfl) ?_
  refine rn rfl ?_
  exact rn rfl (fin_is [] rfl ⟨rfl, rfl⟩)

theorem filterMap_take_succ {α β : Type} {g : α → Option β} {xs : List α} {i : Nat} {x : α} (h : xs[i]? = some x) : (xs.take (i + 1)).filterMap g = (xs.take i).filterMap g ++ (g x).toList := by
  rw [← take_snoc h, List.filterMap_append]; cases hx : g x <;> simp [List.filterMap_cons, hx]

theorem set_same {α : Type} {xs : List α} {i : Nat} {x : α} (h : xs[i]? = some x) : xs.set i x = xs := by
  apply List.ext_getElem?
  intro j
  rw [List.getElem?_set]
  split
  · rename_i hij; subst hij; rw [if_pos (lt_of_some h), h]
  · rfl

def oV (c : C) : Option AObj := some ⟨1, [[c]], false, false, true⟩

def oRows (rows : List (List C)) : Option AObj := some ⟨3, rows, false, false, false⟩

theorem ibind_ct (s : Sig) (f : Flat) (hs : OkS s) (h1 : f.places.length ≤ 1048576) (h2 : f.named.length ≤ 1048576) :
    ACalls pk 86 [.agg (eG s), .agg (eF f)] [] (fun r o => r = .tup [.agg [.os 0 0 s.length s.length], .one (.fs ((bindQ s f).2.map eB))] ∧ o = [ownL (bindQ s f).1]) := by
  have hsl := hs.len
  refine acalls_of_body Tryz.func86 rfl (by kernel_rfl) rfl ?_
  refine rn rfl ?_
  refine goal_did rfl rfl (dA_make s.length (nilRows s.length) rfl rfl rfl (by simp) (by simp) rfl rfl rfl rfl rfl (by show 56 * s.length ≤ _; omega) (by omega) rfl) ?_
  refine rn rfl ?_
  have hnil : nilRows s.length = rowsN none none s := (rowsN_none s).symm
  rw [hnil]
  refine goal_weakCod (Weak.adopt 7 0 2) ?_
  refine goal_weakCod (adoptM hs (id := 3) 6 rfl rfl rfl) ?_
  refine goal_weakCod (Weak.retell (id := 3) (cl' := false) rfl rfl (rowsN_re rfl rfl _ _ _) (by simp)) ?_
  refine goal_loop_keep (fun m σ => ∃ (n L : Int) (i : Nat), n = i ∧ L = s.length ∧ i ≤ s.length ∧ m = s.length - i ∧
      σ = ⟨[(26, .one (.int .i64 n)), (25, .one (.int .i64 L)), (24, .one (.fs (s.map eQ))), (8, .one (.fs ((leftQ s f.places i).map eI))), (7, .one (.os 5 0 0 0)), (6, .one (.op 4 0 0)), (4, .one (.op 2 0 0)), (3, .one (.op 1 0 0)), (2, .one (.op 0 0 0))],
        [oV (.fs (s.map eQ)), some ⟨2, [eF f], false, false, true⟩, oV (.fs []), oRows (rowsM none (some (.os 6 0 0 0)) s (part1 s f.places i)), oV (.os 3 0 s.length s.length), ownB [], ownP []], []⟩) s.length
    [26, 25, 24, 8, 7, 6, 4, 3, 2] [0, 1, 2, 3, 4, 5, 6] rfl ⟨_, ((s.map eQ).length : Int), 0, rfl, by simp, by omega, by omega, ?_⟩ ?_
  · rw [show leftQ s f.places 0 = f.places by simp [leftQ], part1_zero]
    exact keepS_eq rfl (cons_eq rfl (cons_eq rfl (cons_eq rfl (cons_eq (reO_rows (rowsM_re (fun _ => rfl) (fun _ => rfl) _ _ _ _)) (cons_eq rfl (cons_eq rfl (cons_eq rfl rfl)))))))
  rintro m σ ⟨n, L, i, rfl, rfl, hi, rfl, rfl⟩
  refine rn rfl ?_
  refine goal_cond rfl (fun h => ?_) (fun h => ?_) <;> (try simp only [gt_iff_lt, ge_iff_le, bne_iff_ne, ne_eq, bne_eq_false_iff_eq, beq_iff_eq, beq_eq_false_iff_ne, Bool.not_eq_true', Bool.not_eq_false', decide_eq_true_eq, decide_eq_false_iff_not, List.length_map] at h)
  · obtain ⟨p, hp⟩ := at_some (xs := s) (i := i) (by omega)
    have hz := part1_at (pl := f.places) hp
    have hrow := rowsM_at (cr := none) (cm := some (.os 6 0 0 0)) hp hz
    have hk : p.kind = 2 → (none : Option C) = none := fun _ => rfl
    refine rn rfl ?_
    refine goal_did rfl rfl (dA_index (eQ p) rfl rfl rfl rfl rfl rfl rfl (by omega) (by (try simp); omega) (map_at (by simpa using hp)) rfl) ?_
    refine rn rfl ?_
    refine goal_step (step_call [] rfl rfl rfl rfl rfl rfl (iplaced_ct p)) ?_
    rintro σ2 ⟨r, o', ⟨rfl, rfl⟩, hσ⟩
    obtain rfl := Option.some.inj hσ
    clear hσ
    refine rn rfl ?_
    have hend : ∀ (b : Bnds), b = part1 s f.places (i + 1) → True := fun _ _ => trivial
    refine goal_guard rfl rfl rfl (fun hpl => ?_) (fun hpl => ?_) <;> (try simp only [gt_iff_lt, ge_iff_le, bne_iff_ne, ne_eq, bne_eq_false_iff_eq, beq_iff_eq, beq_eq_false_iff_ne, Bool.not_eq_true', Bool.not_eq_false', decide_eq_true_eq, decide_eq_false_iff_not, List.length_map] at hpl)
    · obtain ⟨hl1, hl2⟩ := left_placed hs (pl := f.places) hp hpl
      have hk4 : p.kind = 4 → (some (C.os 6 0 0 0)) = none := fun h0 => by rw [placed_kind] at hpl; omega
      have hk2 : (p.kind == 2) = false := by rw [placed_kind] at hpl; simp; omega
      rw [hl1] at *
      refine rn rfl ?_
      refine goal_cond rfl (fun hlen => ?_) (fun hlen => ?_) <;> (try simp only [gt_iff_lt, ge_iff_le, bne_iff_ne, ne_eq, bne_eq_false_iff_eq, beq_iff_eq, beq_eq_false_iff_ne, Bool.not_eq_true', Bool.not_eq_false', decide_eq_true_eq, decide_eq_false_iff_not, List.length_map] at hlen)
      · have hlt : i < f.places.length := by simp at hlen; omega
        obtain ⟨v, hv⟩ := at_some hlt
        have hv0 : (f.places.drop i)[0]? = some v := by rw [List.getElem?_drop]; simpa using hv
        have hstep := part1_step (pl := f.places) hp
        have hpl1 : place1 (placesQ s) f.places i p = ⟨true, [v], []⟩ := by
          have hg : f.places.getD i 0 = v := by rw [List.getD_eq_getElem?_getD, hv]; rfl
          unfold place1; rw [hg, if_pos (by simp [hpl, hlt])]
        rw [hpl1] at hstep
        refine rn rfl ?_
        refine goal_draw' [4] 10 rfl ?_
        refine drn [0, 1, 2, 3] (by kernel_rfl) (by kernel_rfl) rfl rfl ?_
        refine AH_did 4 rfl (by kernel_rfl) (by kernel_rfl) (by kernel_rfl) rfl rfl (dA_index (eI v) rfl rfl rfl rfl rfl rfl rfl (by omega) (by (try simp); omega) (map_at (by simpa using hv0)) rfl) ?_
        refine drn [5] (by kernel_rfl) (by kernel_rfl) rfl rfl ?_
        refine AH_oneDid 6 rfl (by kernel_rfl) rfl (dA_step rfl) (mdOk rfl) ?_
        refine drn [7] (by kernel_rfl) (by kernel_rfl) rfl rfl ?_
        refine AH_data 45 [8] (y := .agg (eL ⟨true, [v], []⟩)) rfl rfl rfl ?_
        refine AH_did 8 rfl (by kernel_rfl) (by kernel_rfl) (by kernel_rfl) rfl rfl (dA_indexOwn rfl rfl rfl rfl rfl rfl rfl rfl rfl (by omega) (by (try simp); omega)) ?_
        refine AH_oneDid 9 rfl (by kernel_rfl) rfl (dA_storeEl (rowM none (some (.os 6 0 0 0)) p zL) (rowsM none (some (.os 6 0 0 0)) s (part1 s f.places (i + 1))) false rfl rfl rfl rfl rfl (by simpa using hrow) rfl rfl (by simp [eL, rowM]) (by rw [← hstep]; exact storeRow hp hk hk4 (by simp)) (fun h0 => by cases h0)) (mdOk rfl) ?_
        refine AH_end (by kernel_rfl) ?_
        refine rn rfl ?_
        refine goal_did rfl rfl (dA_slice 1 (f.places.drop i).length (((f.places.drop i).drop 1).map eI) rfl rfl rfl rfl rfl (Bnd.some_ rfl rfl) (by simp [Bnd]) (rows_len eI_len _) (by simp; omega) (by simp) rfl (tailRows (Nat.le_refl _))) ?_
        refine rn rfl ?_
        refine goal_cond rfl (fun h0 => by rw [hk2] at h0; cases h0) (fun _ => ?_)
        refine rn rfl ?_
        refine round_keep (s.length - (i + 1)) [26, 25, 24, 8, 7, 6, 4, 3, 2] [0, 1, 2, 3, 4, 5, 6] (by omega) rfl ⟨_, _, i + 1, wrap64 (by omega) (by omega), rfl, by omega, rfl, ?_⟩
        rw [hl2, show f.places.drop (i + 1) = (f.places.drop i).drop 1 by simp [List.drop_drop]]
        exact keepS_eq rfl (cons_eq rfl (cons_eq rfl (cons_eq rfl (cons_eq (reO_rows (rowsM_re (fun _ => rfl) (fun _ => rfl) _ _ _ _)) (cons_eq rfl (cons_eq rfl (cons_eq rfl rfl)))))))
      · have hge : f.places.length ≤ i := by simp at hlen; omega
        have hstep := part1_step (pl := f.places) hp
        have hpl1 : place1 (placesQ s) f.places i p = zL := by
          unfold place1
          rw [if_neg (by simp [hpl]; omega), hk2]; rfl
        have hsame : part1 s f.places (i + 1) = part1 s f.places i := by
          rw [← hstep, hpl1]
          apply List.ext_getElem?
          intro j
          rw [List.getElem?_set]
          split
          · rename_i hij; subst hij; rw [hz]; simp [lt_of_some hz]
          · rfl
        refine rn rfl ?_
        refine goal_cond rfl (fun h0 => by rw [hk2] at h0; cases h0) (fun _ => ?_)
        refine rn rfl ?_
        refine round_keep (s.length - (i + 1)) [26, 25, 24, 8, 7, 6, 4, 3, 2] [0, 1, 2, 3, 4, 5, 6] (by omega) rfl ⟨_, _, i + 1, wrap64 (by omega) (by omega), rfl, by omega, rfl, ?_⟩
        rw [hl2, hsame, show f.places.drop (i + 1) = f.places.drop i by rw [List.drop_eq_nil_of_le (by omega), List.drop_eq_nil_of_le hge]]
        exact keepS_eq rfl (cons_eq rfl (cons_eq rfl (cons_eq rfl (cons_eq (reO_rows (rowsM_re (fun _ => rfl) (fun _ => rfl) _ _ _ _)) (cons_eq rfl (cons_eq rfl (cons_eq rfl rfl)))))))
    · have hstep := part1_step (pl := f.places) hp
      refine rn rfl ?_
      refine goal_cond rfl (fun hk2 => ?_) (fun hk2 => ?_) <;> (try simp only [gt_iff_lt, ge_iff_le, bne_iff_ne, ne_eq, bne_eq_false_iff_eq, beq_iff_eq, beq_eq_false_iff_ne, Bool.not_eq_true', Bool.not_eq_false', decide_eq_true_eq, decide_eq_false_iff_not, List.length_map] at hk2)
      · obtain ⟨hl1, hl2⟩ := left_rest hs (pl := f.places) hp hk2
        have hpl1 : place1 (placesQ s) f.places i p = ⟨false, f.places.drop (placesQ s), []⟩ := by
          unfold place1
          rw [if_neg (by simp [hpl]), hk2]; rfl
        rw [hpl1] at hstep
        rw [hl1]
        refine rn rfl ?_
        refine goal_draw' [4] 8 rfl ?_
        refine drn [0, 1, 2, 3] (by kernel_rfl) (by kernel_rfl) rfl rfl ?_
        refine AH_one (i := 4) (by kernel_rfl) (step_call [] rfl rfl rfl rfl rfl rfl (clonInt_ct (f.places.drop (placesQ s)) (by simp; omega))) (by simp) ?_
        rintro σ2 ⟨r, o', ⟨rfl, rfl⟩, hσ⟩
        obtain rfl := Option.some.inj hσ
        clear hσ
        refine AH_data 56 [8] (y := .one (.fs ((f.places.drop (placesQ s)).map eI))) rfl rfl (congrArg (fun x => T.one (C.fs x)) (takeAll eI _ _ rfl)) ?_
        refine AH_did 5 rfl (by kernel_rfl) (by kernel_rfl) (by kernel_rfl) rfl rfl (dA_indexOwn rfl rfl rfl rfl rfl rfl rfl rfl rfl (by omega) (by (try simp); omega)) ?_
        refine drn [6] (by kernel_rfl) (by kernel_rfl) rfl rfl ?_
        refine AH_oneDid 7 rfl (by kernel_rfl) rfl (dA_storeEl (rowM none (some (.os 6 0 0 0)) p zL) (rowsM none (some (.os 6 0 0 0)) s (part1 s f.places (i + 1))) false rfl rfl rfl rfl rfl (by simpa using hrow) rfl rfl (by simp [rowM]) (by rw [← hstep]; refine storeList (x := zL) (ns := f.places.drop (placesQ s)) hp ?_; simp) (fun h0 => by cases h0)) (mdOk rfl) ?_
        refine AH_end (by kernel_rfl) ?_
        refine rn rfl ?_
        refine round_keep (s.length - (i + 1)) [26, 25, 24, 8, 7, 6, 4, 3, 2] [0, 1, 2, 3, 4, 5, 6] (by omega) rfl ⟨_, _, i + 1, wrap64 (by omega) (by omega), rfl, by omega, rfl, ?_⟩
        rw [hl2]
        exact keepS_eq rfl (cons_eq rfl (cons_eq rfl (cons_eq rfl (cons_eq (reO_rows (rowsM_re (fun _ => rfl) (fun _ => rfl) _ _ _ _)) (cons_eq rfl (cons_eq rfl (cons_eq rfl rfl)))))))
      · have hl := left_other hs (pl := f.places) hp hk2 hpl
        have hpl1 : place1 (placesQ s) f.places i p = zL := by
          unfold place1
          rw [if_neg (by simp [hpl]), if_neg (by simpa using hk2)]
        have hsame : part1 s f.places (i + 1) = part1 s f.places i := by
          rw [← hstep, hpl1]
          apply List.ext_getElem?
          intro j
          rw [List.getElem?_set]
          split
          · rename_i hij; subst hij; rw [hz]; simp [lt_of_some hz]
          · rfl
        refine rn rfl ?_
        refine round_keep (s.length - (i + 1)) [26, 25, 24, 8, 7, 6, 4, 3, 2] [0, 1, 2, 3, 4, 5, 6] (by omega) rfl ⟨_, _, i + 1, wrap64 (by omega) (by omega), rfl, by omega, rfl, ?_⟩
        rw [hl, hsame]
        exact keepS_eq rfl (cons_eq rfl (cons_eq rfl (cons_eq rfl (cons_eq (reO_rows (rowsM_re (fun _ => rfl) (fun _ => rfl) _ _ _ _)) (cons_eq rfl (cons_eq rfl (cons_eq rfl rfl)))))))
  · have hend := left_end s f.places
    rw [show i = s.length by omega, part1_full]
    refine rn rfl ?_
    refine round_ext ?_
    refine rt 14 rfl ?_
    refine goal_cutR (fun σ => σ = ⟨[(7, .one (.os 5 0 (manyQ s f.places).length (manyQ s f.places).length)), (6, .one (.op 4 0 0)), (4, .one (.op 2 0 0)), (3, .one (.op 1 0 0)), (2, .one (.op 0 0 0))],
        [oV (.fs (s.map eQ)), some ⟨2, [eF f], false, false, true⟩, oV (.fs []), oRows (rowsM none (some (.os 6 0 0 0)) s (phase1 s f.places)), oV (.os 3 0 s.length s.length), ownB (manyQ s f.places), ownP []], []⟩) ?_ ?_
    · refine rn rfl ?_
      refine goal_cond rfl (fun h0 => ?_) (fun h0 => ?_) <;> simp only [List.length_map, gt_iff_lt, decide_eq_true_eq, decide_eq_false_iff_not] at h0
      · have hm : manyQ s f.places = [⟨0, []⟩] := by
          unfold manyQ; rw [if_pos]; rw [← hend]; simpa using h0
        rw [hm]
        refine rn rfl ?_
        refine goal_did rfl rfl (dA_append (old := []) (rows := ([(⟨0, []⟩ : Problem)] : List Problem).map eB) (([(⟨0, []⟩ : Problem)] : List Problem).map eB) (1) true (Dst.own rfl rfl rfl rfl rfl (Nat.le_refl 0) rfl) (Src.os rfl rfl (Nat.le_refl 1) rfl) rfl rfl rfl rfl rfl rfl rfl rfl (by simp) (rows_len eB_len _) (by (try simp only [List.length_map, List.length_append, List.length_cons, List.length_nil, List.length_take, List.length_drop]); show _ * 24 ≤ _; omega) (by first | (simp; done) | (simp; omega)) (by simp) (by first | (simp; done) | (simp; omega)) (fun _ => noOwnR_map _ eB_noOwn _)) ?_
        refine rn rfl ?_
        exact cut_nrm [7, 6, 4, 3, 2] [0, 1, 2, 3, 4, 8, 6] rfl (keepS_eq rfl (cons_eq rfl (cons_eq rfl (cons_eq rfl (cons_eq (reO_rows (rowsM_re (fun _ => rfl) (fun _ => rfl) _ _ _ _)) (cons_eq rfl (cons_eq rfl (cons_eq rfl rfl))))))))
      · have hm : manyQ s f.places = [] := by
          unfold manyQ; rw [if_neg]; rw [← hend]; simpa using h0
        rw [hm]
        refine rn rfl ?_
        exact cut_nrm [7, 6, 4, 3, 2] [0, 1, 2, 3, 4, 5, 6] rfl (keepS_eq rfl (cons_eq rfl (cons_eq rfl (cons_eq rfl (cons_eq (reO_rows (rowsM_re (fun _ => rfl) (fun _ => rfl) _ _ _ _)) (cons_eq rfl (cons_eq rfl (cons_eq rfl rfl))))))))
    rintro _ rfl
    refine rn rfl ?_
    have hml := manyQ_len s f.places
    refine goal_loop_keep (fun m σ => ∃ (n L : Int) (i k l : Nat) (ps wr : _) (b : Bnds), n = i ∧ L = f.named.length ∧ i ≤ f.named.length ∧ m = f.named.length - i ∧ (f.named.take i).foldl (stepB s) (phase1 s f.places, manyQ s f.places) = (b, wr) ∧ MapHas s b ps ∧ ps.length ≤ i ∧ k = wr.length ∧ l = ps.length ∧
        σ = ⟨[(70, .one (.int .i64 n)), (69, .one (.int .i64 L)), (68, .one (.fs (f.named.map eP))), (7, .one (.os 5 0 k k)), (6, .one (.op 4 0 0)), (4, .one (.op 2 0 0)), (3, .one (.op 1 0 0)), (2, .one (.op 0 0 0))],
          [oV (.fs (s.map eQ)), some ⟨2, [eF f], false, false, true⟩, oV (.fs []), oRows (rowsM none (some (.os 6 0 l l)) s b), oV (.os 3 0 s.length s.length), ownB wr, ownP ps], []⟩) f.named.length
      [70, 69, 68, 7, 6, 4, 3, 2] [0, 1, 2, 3, 4, 5, 6] rfl ⟨_, ((f.named.map eP).length : Int), 0, (manyQ s f.places).length, 0, [], manyQ s f.places, phase1 s f.places, rfl, by simp, by omega, by omega, rfl, phase1_map hs _, by simp, rfl, rfl,
        keepS_eq rfl (cons_eq rfl (cons_eq rfl (cons_eq rfl (cons_eq (reO_rows (rowsM_re (fun _ => rfl) (fun _ => rfl) _ _ _ _)) (cons_eq rfl (cons_eq rfl (cons_eq rfl rfl)))))))⟩ ?_
    rintro m σ ⟨n, L, i, k, l, ps, wr, b, rfl, rfl, hi, rfl, hfold, hmap, hpsl, rfl, rfl, rfl⟩
    have hbl : b.length = s.length := by
      have := foldB_len s (f.named.take i) (phase1 s f.places, manyQ s f.places)
      rw [hfold] at this; simpa [phase1_len] using this
    have hwl : wr.length ≤ 1 + i := by
      have := foldB_wr s (f.named.take i) (phase1 s f.places, manyQ s f.places)
      rw [hfold] at this; simp only [List.length_take] at this; omega
    refine rn rfl ?_
    refine goal_cond rfl (fun h => ?_) (fun h => ?_) <;> (try simp only [gt_iff_lt, ge_iff_le, bne_iff_ne, ne_eq, bne_eq_false_iff_eq, beq_iff_eq, beq_eq_false_iff_ne, Bool.not_eq_true', Bool.not_eq_false', decide_eq_true_eq, decide_eq_false_iff_not, List.length_map] at h)
    · obtain ⟨q, hq⟩ := at_some (xs := f.named) (i := i) (by omega)
      have hst := foldl_take_succ (stepB s) (phase1 s f.places, manyQ s f.places) hq
      rw [hfold] at hst
      refine rn rfl ?_
      refine goal_did rfl rfl (dA_index (eP q) rfl rfl rfl rfl rfl rfl rfl (by omega) (by (try simp); omega) (map_at (by simpa using hq)) rfl) ?_
      refine rn rfl ?_
      refine goal_step (step_call [] rfl rfl rfl rfl rfl rfl (itakes_ct s q.name (by omega))) ?_
      rintro σ2 ⟨r, o', ⟨rfl, rfl⟩, hσ⟩
      obtain rfl := Option.some.inj hσ
      clear hσ
      refine rn rfl ?_
      refine goal_cond rfl (fun hneg => ?_) (fun hneg => ?_) <;> (try simp only [gt_iff_lt, ge_iff_le, bne_iff_ne, ne_eq, bne_eq_false_iff_eq, beq_iff_eq, beq_eq_false_iff_ne, Bool.not_eq_true', Bool.not_eq_false', decide_eq_true_eq, decide_eq_false_iff_not, List.length_map] at hneg)
      · rw [stepB_neg hneg] at hst
        refine rn rfl ?_
        refine goal_did rfl rfl (dA_append (old := (wr).map eB) (rows := ([⟨1, q.name⟩] : List Problem).map eB) (((wr) ++ ([⟨1, q.name⟩] : List Problem)).map eB) (wr.length + 1) true (Dst.own rfl rfl rfl rfl rfl (by first | (simp; done) | (simp; omega)) (whole (by first | (simp; done) | (simp; omega)))) (Src.os rfl rfl (Nat.le_refl 1) rfl) rfl rfl rfl rfl rfl rfl rfl rfl (rows_len eB_len _) (rows_len eB_len _) (by (try simp only [List.length_map, List.length_append, List.length_cons, List.length_nil, List.length_take, List.length_drop]); show _ * 24 ≤ _; omega) (by first | (simp; done) | (simp; omega)) (by simp) (by first | (simp; done) | (simp; omega)) (fun _ => noOwnR_map _ eB_noOwn _)) ?_
        refine rn rfl ?_
        refine round_keep (f.named.length - (i + 1)) [70, 69, 68, 7, 6, 4, 3, 2] [0, 1, 2, 3, 4, 9, 6] (by omega) rfl ⟨_, _, i + 1, wr.length + 1, ps.length, ps, wr ++ [⟨1, q.name⟩], b, wrap64 (by omega) (by omega), rfl, by omega, rfl, hst, hmap, by omega, by simp, rfl, ?_⟩
        exact keepS_eq rfl (cons_eq rfl (cons_eq rfl (cons_eq rfl (cons_eq (reO_rows (rowsM_re (fun _ => rfl) (fun _ => rfl) _ _ _ _)) (cons_eq rfl (cons_eq rfl (cons_eq rfl rfl)))))))
      · obtain ⟨p, hp, hlt, hpk⟩ := takesQ_some hneg
        have hat : takesQ s q.name = ((takesQ s q.name).toNat : Nat) := by omega
        generalize (takesQ s q.name).toNat = j at hp hat
        rw [hat] at hlt ⊢
        have hjs : j < s.length := by omega
        obtain ⟨x, hx⟩ := at_some (xs := b) (i := j) (by omega)
        have hrow := rowsM_at (cr := none) (cm := some (.os 6 0 ps.length ps.length)) hp hx
        refine rn rfl ?_
        refine goal_did rfl rfl (dA_index (eQ p) rfl rfl rfl rfl rfl rfl rfl (by omega) (by simp; omega) (map_at (by simpa using hp)) rfl) ?_
        refine rn rfl ?_
        refine goal_cond rfl (fun hk => ?_) (fun hk => ?_) <;> (try simp only [gt_iff_lt, ge_iff_le, bne_iff_ne, ne_eq, bne_eq_false_iff_eq, beq_iff_eq, beq_eq_false_iff_ne, Bool.not_eq_true', Bool.not_eq_false', decide_eq_true_eq, decide_eq_false_iff_not, List.length_map] at hk)
        · have hk' : p.kind = 4 := hk
          rw [rowM_map hk'] at hrow
          have hxp := hmap j p x hp hx hk'
          rw [stepB_map hat hp hx hk', hxp] at hst
          refine rn rfl ?_
          refine goal_drawL [3, 4, 7] [14] 15 rfl ?_
          refine drnL [0, 1, 2, 3, 4, 5, 9] (by kernel_rfl) (by kernel_rfl) rfl rfl ?_
          refine AHL_did 6 rfl (by kernel_rfl) (by kernel_rfl) (by kernel_rfl) (by kernel_rfl) rfl rfl (dA_indexOwn rfl rfl rfl rfl rfl rfl rfl rfl rfl (by omega) (by (try simp); omega)) ?_
          refine drnL [7] (by kernel_rfl) (by kernel_rfl) rfl rfl ?_
          refine AHL_did 8 rfl (by kernel_rfl) (by kernel_rfl) (by kernel_rfl) (by kernel_rfl) rfl rfl (dA_loadEl [.bool x.given, .fs (x.list.map eI), .os 6 0 ps.length ps.length] rfl rfl rfl rfl (by simpa using hrow) rfl rfl rfl) ?_
          refine AHL_oneDid 10 rfl (by kernel_rfl) rfl rfl (dA_step rfl) (mdOk rfl) ?_
          refine AHL_oneDid 11 rfl (by kernel_rfl) rfl rfl (dA_append (old := (ps).map eP) (rows := ([q] : List Pair).map eP) (((ps) ++ ([q] : List Pair)).map eP) (ps.length + 1) true (Dst.own rfl rfl rfl rfl rfl (by first | (simp; done) | (simp; omega)) (whole (by first | (simp; done) | (simp; omega)))) (Src.os rfl rfl (Nat.le_refl 1) rfl) rfl rfl rfl rfl rfl rfl rfl rfl (rows_len eP_len _) (rows_len eP_len _) (by (try simp only [List.length_map, List.length_append, List.length_cons, List.length_nil, List.length_take, List.length_drop]); show _ * 24 ≤ _; omega) (by first | (simp; done) | (simp; omega)) (by simp) (by first | (simp; done) | (simp; omega)) (fun _ => noOwnR_map _ eP_noOwn _)) (mdOk rfl) ?_
          refine AHL_did 12 rfl (by kernel_rfl) (by kernel_rfl) (by kernel_rfl) (by kernel_rfl) rfl rfl (dA_indexOwn rfl rfl rfl rfl rfl rfl rfl rfl rfl (by omega) (by (try simp); omega)) ?_
          refine drnL [13] (by kernel_rfl) (by kernel_rfl) rfl rfl ?_
          refine AHL_lateDid 14 rfl (by kernel_rfl) rfl rfl (dA_storeEl [.bool x.given, .fs (x.list.map eI), .os 6 0 ps.length ps.length] (rowsM none (some (.os 9 0 (ps.length + 1) (ps.length + 1))) s (b.set j ⟨x.given, x.list, ps ++ [q]⟩)) false rfl rfl rfl rfl rfl (by simpa using hrow) rfl rfl (by simp) (by refine storePairs hs hp hx hk' ?_; simp) (fun h0 => by cases h0)) ?_
          refine AH_end (by kernel_rfl) ?_
          refine rn rfl ?_
          refine round_keep (f.named.length - (i + 1)) [70, 69, 68, 7, 6, 4, 3, 2] [0, 1, 2, 3, 4, 5, 9] (by omega) rfl ⟨_, _, i + 1, wr.length, ps.length + 1, ps ++ [q], wr, _, wrap64 (by omega) (by omega), rfl, by omega, rfl, hst, MapHas.put hs hp hk' rfl, by simp; omega, rfl, by simp, ?_⟩
          exact keepS_eq rfl (cons_eq rfl (cons_eq rfl (cons_eq rfl (cons_eq (reO_rows (rowsM_re (fun _ => rfl) (fun _ => rfl) _ _ _ _)) (cons_eq rfl (cons_eq rfl (cons_eq rfl rfl)))))))
        · have hk4 : p.kind ≠ 4 := hk
          have hk2 : p.kind ≠ 2 := by
            rcases hpk with h0 | h0
            · have := named_kind.1 h0.1; omega
            · omega
          rw [rowM_plain hk2 hk4] at hrow
          refine rn rfl ?_
          refine goal_did rfl rfl (dA_indexOwn rfl rfl rfl rfl rfl rfl rfl rfl rfl (by omega) (by (try simp); omega)) ?_
          refine goal_did rfl rfl (dA_step rfl) ?_
          refine goal_did rfl rfl (dA_loadEl (eL x) rfl rfl rfl rfl (by simpa using hrow) rfl rfl rfl) ?_
          refine rn rfl ?_
          refine goal_cond rfl (fun hg => ?_) (fun hg => ?_) <;> (try simp only [gt_iff_lt, ge_iff_le, bne_iff_ne, ne_eq, bne_eq_false_iff_eq, beq_iff_eq, beq_eq_false_iff_ne, Bool.not_eq_true', Bool.not_eq_false', decide_eq_true_eq, decide_eq_false_iff_not, List.length_map] at hg)
          · rw [stepB_twice hat hp hx hk4 hg] at hst
            refine rn rfl ?_
            refine goal_did rfl rfl (dA_append (old := (wr).map eB) (rows := ([⟨2, q.name⟩] : List Problem).map eB) (((wr) ++ ([⟨2, q.name⟩] : List Problem)).map eB) (wr.length + 1) true (Dst.own rfl rfl rfl rfl rfl (by first | (simp; done) | (simp; omega)) (whole (by first | (simp; done) | (simp; omega)))) (Src.os rfl rfl (Nat.le_refl 1) rfl) rfl rfl rfl rfl rfl rfl rfl rfl (rows_len eB_len _) (rows_len eB_len _) (by (try simp only [List.length_map, List.length_append, List.length_cons, List.length_nil, List.length_take, List.length_drop]); show _ * 24 ≤ _; omega) (by first | (simp; done) | (simp; omega)) (by simp) (by first | (simp; done) | (simp; omega)) (fun _ => noOwnR_map _ eB_noOwn _)) ?_
            refine rn rfl ?_
            refine round_keep (f.named.length - (i + 1)) [70, 69, 68, 7, 6, 4, 3, 2] [0, 1, 2, 3, 4, 9, 6] (by omega) rfl ⟨_, _, i + 1, wr.length + 1, ps.length, ps, wr ++ [⟨2, q.name⟩], b, wrap64 (by omega) (by omega), rfl, by omega, rfl, hst, hmap, by omega, by simp, rfl, ?_⟩
            exact keepS_eq rfl (cons_eq rfl (cons_eq rfl (cons_eq rfl (cons_eq (reO_rows (rowsM_re (fun _ => rfl) (fun _ => rfl) _ _ _ _)) (cons_eq rfl (cons_eq rfl (cons_eq rfl rfl)))))))
          · rw [stepB_set hat hp hx hk4 hg] at hst
            refine rn rfl ?_
            refine goal_did rfl rfl (dA_indexOwn rfl rfl rfl rfl rfl rfl rfl rfl rfl (by omega) (by (try simp); omega)) ?_
            refine goal_data 84 [8] (y := .agg (eL ⟨true, [q.value], []⟩)) rfl rfl rfl ?_
            refine goal_did rfl rfl (dA_storeEl (eL x) (rowsM none (some (.os 6 0 ps.length ps.length)) s (b.set j ⟨true, [q.value], []⟩)) false rfl rfl rfl rfl rfl (by simpa using hrow) rfl rfl (by simp [eL]) (by rw [← rowM_plain (cr := none) (cm := some (.os 6 0 ps.length ps.length)) (x := x) hk2 hk4]; refine storeRow hp (fun h0 => absurd h0 hk2) (fun h0 => absurd h0 hk4) ?_; simp) (fun h0 => by cases h0)) ?_
            refine rn rfl ?_
            refine round_keep (f.named.length - (i + 1)) [70, 69, 68, 7, 6, 4, 3, 2] [0, 1, 2, 3, 4, 5, 6] (by omega) rfl ⟨_, _, i + 1, wr.length, ps.length, ps, wr, _, wrap64 (by omega) (by omega), rfl, by omega, rfl, hst, MapHas.set hmap hp hk4, by omega, rfl, rfl, ?_⟩
            exact keepS_eq rfl (cons_eq rfl (cons_eq rfl (cons_eq rfl (cons_eq (reO_rows (rowsM_re (fun _ => rfl) (fun _ => rfl) _ _ _ _)) (cons_eq rfl (cons_eq rfl (cons_eq rfl rfl)))))))
    · rw [show i = f.named.length by omega, List.take_length] at hfold
      have hbq : boundQ s f = (b, wr) := hfold
      refine rn rfl ?_
      refine round_ext ?_
      refine rn rfl ?_
      refine goal_keepE [134, 133, 132, 7, 6, 4, 3, 2] [0, 1, 2, 3, 4, 5] [6] rfl rfl rfl (cons_eq rfl (cons_eq rfl (cons_eq rfl (cons_eq (reO_rows (rows' := b.map eL) ?_) (cons_eq rfl (cons_eq rfl rfl)))))) ?_
      · refine (rowsM_re (fun _ => rfl) (fun _ => rfl) _ _ _ _).trans ?_
        show rowsM none (some (C.fs (List.take ps.length (List.drop 0 (ps.map eP))))) s b = _
        rw [takeAll eP ps _ rfl, rowsM_freeM hmap, rowsM_none hbl]
      refine goal_weakCod (Weak.cleanO (id := 3) rfl rfl (noOwnR_map _ eL_noOwn _)) ?_
      refine goal_loop_keep (fun m σ => ∃ (n L : Int) (i k : Nat) (w3 : List Problem), n = i ∧ L = s.length ∧ i ≤ s.length ∧ m = s.length - i ∧ w3 = wr ++ ((s.zip b).take i).filterMap lackQ ∧ k = w3.length ∧
          σ = ⟨[(134, .one (.int .i64 n)), (133, .one (.int .i64 L)), (132, .one (.fs (s.map eQ))), (7, .one (.os 5 0 k k)), (6, .one (.op 4 0 0)), (4, .one (.op 2 0 0)), (3, .one (.op 1 0 0)), (2, .one (.op 0 0 0))],
            [oV (.fs (s.map eQ)), some ⟨2, [eF f], false, false, true⟩, oV (.fs []), ownL b, oV (.os 3 0 s.length s.length), ownB w3], []⟩) s.length
        [134, 133, 132, 7, 6, 4, 3, 2] [0, 1, 2, 3, 4, 5] rfl ⟨_, ((s.map eQ).length : Int), 0, wr.length, wr, rfl, by simp, by omega, by omega, by simp, rfl, rfl⟩ ?_
      rintro m σ ⟨n, L, i, k, w3, rfl, rfl, hi, rfl, hw3, rfl, rfl⟩
      have hw3l : w3.length ≤ wr.length + i := by
        rw [hw3, List.length_append]
        have := List.length_filterMap_le lackQ ((s.zip b).take i)
        rw [List.length_take] at this; omega
      refine rn rfl ?_
      refine goal_cond rfl (fun h => ?_) (fun h => ?_) <;> (try simp only [gt_iff_lt, ge_iff_le, bne_iff_ne, ne_eq, bne_eq_false_iff_eq, beq_iff_eq, beq_eq_false_iff_ne, Bool.not_eq_true', Bool.not_eq_false', decide_eq_true_eq, decide_eq_false_iff_not, List.length_map] at h)
      · obtain ⟨p, hp⟩ := at_some (xs := s) (i := i) (by omega)
        obtain ⟨x, hx⟩ := at_some (xs := b) (i := i) (by omega)
        have hz : (s.zip b)[i]? = some (p, x) := by simp [List.getElem?_zip_eq_some, hp, hx]
        have hst := filterMap_take_succ (g := lackQ) hz
        have hrow : (b.map eL)[i]? = some (eL x) := map_at hx
        refine rn rfl ?_
        refine goal_did rfl rfl (dA_index (eQ p) rfl rfl rfl rfl rfl rfl rfl (by omega) (by (try simp); omega) (map_at (by simpa using hp)) rfl) ?_
        refine rn rfl ?_
        refine goal_drawL [3, 4] [12] 13 rfl ?_
        refine drnL [0, 1, 2, 3, 4, 5] (by kernel_rfl) (by kernel_rfl) rfl rfl ?_
        refine AHL_did 6 rfl (by kernel_rfl) (by kernel_rfl) (by kernel_rfl) (by kernel_rfl) rfl rfl (dA_indexOwn rfl rfl rfl rfl rfl rfl rfl rfl rfl (by omega) (by (try simp); omega)) ?_
        refine drnL [7] (by kernel_rfl) (by kernel_rfl) rfl rfl ?_
        refine AHL_did 8 rfl (by kernel_rfl) (by kernel_rfl) (by kernel_rfl) (by kernel_rfl) rfl rfl (dA_loadEl (eL x) rfl rfl rfl rfl (map_at (by simpa using hx)) rfl rfl rfl) ?_
        refine AHL_one (i := 9) (by kernel_rfl) rfl (step_call [] rfl rfl rfl rfl rfl rfl (clipPd_ct x.pairs)) (by simp) ?_
        rintro σ2 ⟨r, o', ⟨rfl, rfl⟩, hσ⟩
        obtain rfl := Option.some.inj hσ
        clear hσ
        refine AHL_did 10 rfl (by kernel_rfl) (by kernel_rfl) (by kernel_rfl) (by kernel_rfl) rfl rfl (dA_indexOwn rfl rfl rfl rfl rfl rfl rfl rfl rfl (by omega) (by (try simp); omega)) ?_
        refine drnL [11] (by kernel_rfl) (by kernel_rfl) rfl rfl ?_
        refine AHL_lateDid 12 rfl (by kernel_rfl) rfl rfl (dA_storeEl (eL x) (b.map eL) true rfl rfl rfl rfl rfl (map_at (by simpa using hx)) rfl rfl (by simp [eL]) (by rw [show (0 + (i : Int).toNat) = i by simp, show patch (eL x) (0 + 2) [C.fs (x.pairs.map eP)] = eL x from rfl, set_same hrow]) (fun _ => noOwnR_map _ eL_noOwn _)) ?_
        refine AH_end (by kernel_rfl) ?_
        refine rn rfl ?_
        refine goal_step (step_call [] rfl rfl rfl rfl rfl rfl (isingle_ct p)) ?_
        rintro σ2 ⟨r, o', ⟨rfl, rfl⟩, hσ⟩
        obtain rfl := Option.some.inj hσ
        clear hσ
        refine rn rfl ?_
        have fin : lackQ (p, x) = none → wr ++ ((s.zip b).take (i + 1)).filterMap lackQ = w3 := fun h0 => by rw [hst, h0, hw3]; simp
        refine goal_guard rfl rfl rfl (fun h3 => ?_) (fun h3 => ?_) <;> (try simp only [gt_iff_lt, ge_iff_le, bne_iff_ne, ne_eq, bne_eq_false_iff_eq, beq_iff_eq, beq_eq_false_iff_ne, Bool.not_eq_true', Bool.not_eq_false', decide_eq_true_eq, decide_eq_false_iff_not, List.length_map] at h3)
        · refine rn rfl ?_
          refine goal_guard rfl rfl rfl (fun h4 => ?_) (fun h4 => ?_) <;> (try simp only [gt_iff_lt, ge_iff_le, bne_iff_ne, ne_eq, bne_eq_false_iff_eq, beq_iff_eq, beq_eq_false_iff_ne, Bool.not_eq_true', Bool.not_eq_false', decide_eq_true_eq, decide_eq_false_iff_not, List.length_map] at h4)
          · refine rn rfl ?_
            refine goal_did rfl rfl (dA_indexOwn rfl rfl rfl rfl rfl rfl rfl rfl rfl (by omega) (by (try simp); omega)) ?_
            refine goal_did rfl rfl (dA_step rfl) ?_
            refine goal_did rfl rfl (dA_loadEl (eL x) rfl rfl rfl rfl (map_at (by simpa using hx)) rfl rfl rfl) ?_
            refine rn rfl ?_
            refine goal_cond rfl (fun h5 => ?_) (fun h5 => ?_) <;> (try simp only [gt_iff_lt, ge_iff_le, bne_iff_ne, ne_eq, bne_eq_false_iff_eq, beq_iff_eq, beq_eq_false_iff_ne, Bool.not_eq_true', Bool.not_eq_false', decide_eq_true_eq, decide_eq_false_iff_not, List.length_map] at h5)
            · refine rn rfl ?_
              refine goal_did rfl rfl (dA_append (old := (w3).map eB) (rows := ([⟨3, p.name⟩] : List Problem).map eB) (((w3) ++ ([⟨3, p.name⟩] : List Problem)).map eB) (w3.length + 1) true (Dst.own rfl rfl rfl rfl rfl (by first | (simp; done) | (simp; omega)) (whole (by first | (simp; done) | (simp; omega)))) (Src.os rfl rfl (Nat.le_refl 1) rfl) rfl rfl rfl rfl rfl rfl rfl rfl (rows_len eB_len _) (rows_len eB_len _) (by (try simp only [List.length_map, List.length_append, List.length_cons, List.length_nil, List.length_take, List.length_drop]); show _ * 24 ≤ _; omega) (by first | (simp; done) | (simp; omega)) (by simp) (by first | (simp; done) | (simp; omega)) (fun _ => noOwnR_map _ eB_noOwn _)) ?_
              refine rn rfl ?_
              refine round_keep (s.length - (i + 1)) [134, 133, 132, 7, 6, 4, 3, 2] [0, 1, 2, 3, 4, 8] (by omega) rfl ⟨_, _, i + 1, w3.length + 1, w3 ++ [⟨3, p.name⟩], wrap64 (by omega) (by omega), rfl, by omega, rfl, ?_, by simp, rfl⟩
              rw [hst, hw3]; simp [lackQ, h3, h4, h5]
            · refine rn rfl ?_
              refine round_keep (s.length - (i + 1)) [134, 133, 132, 7, 6, 4, 3, 2] [0, 1, 2, 3, 4, 5] (by omega) rfl ⟨_, _, i + 1, w3.length, w3, wrap64 (by omega) (by omega), rfl, by omega, rfl, (fin (by simp [lackQ, h5])).symm, rfl, rfl⟩
          · refine rn rfl ?_
            refine round_keep (s.length - (i + 1)) [134, 133, 132, 7, 6, 4, 3, 2] [0, 1, 2, 3, 4, 5] (by omega) rfl ⟨_, _, i + 1, w3.length, w3, wrap64 (by omega) (by omega), rfl, by omega, rfl, (fin (by simp [lackQ, h4])).symm, rfl, rfl⟩
        · refine rn rfl ?_
          refine round_keep (s.length - (i + 1)) [134, 133, 132, 7, 6, 4, 3, 2] [0, 1, 2, 3, 4, 5] (by omega) rfl ⟨_, _, i + 1, w3.length, w3, wrap64 (by omega) (by omega), rfl, by omega, rfl, (fin (by simp [lackQ, h3])).symm, rfl, rfl⟩
      · have hbb : bindQ s f = (b, w3) := by
          rw [bindQ, hbq, hw3, missingQ, show i = s.length by omega, List.take_of_length_le (by simp; omega)]
        rw [hbb]
        refine rn rfl ?_
        refine round_ext ?_
        refine rn rfl ?_
        refine goal_draw' [4] 5 rfl ?_
        refine drn [0, 1] (by kernel_rfl) (by kernel_rfl) rfl rfl ?_
        refine AH_one (i := 2) (by kernel_rfl) (step_call [5] rfl rfl rfl rfl rfl rfl (clipB_ct w3 w3.length (Nat.le_refl _))) (by simp) ?_
        rintro σ2 ⟨r, o', ⟨rfl, rfl⟩, hσ⟩
        obtain rfl := Option.some.inj hσ
        clear hσ
        refine AH_oneDid 3 rfl (by kernel_rfl) rfl (dA_step rfl) (mdOk rfl) ?_
        refine drn [4] (by kernel_rfl) (by kernel_rfl) rfl rfl ?_
        refine AH_end (by kernel_rfl) ?_
        refine rn rfl ?_
        refine fin_is [3] rfl ⟨?_, rfl⟩
        rw [takeAll eB _ _ rfl]

def fitQ (s : Sig) (f : Flat) : Bool := okSig s && okFlat f

structure LenF (f : Flat) : Prop where
  places : f.places.length ≤ 1048576
  named : f.named.length ≤ 1048576
  names : ∀ p ∈ f.named, p.name.length ≤ 9223372036854775807

structure LenS (s : Sig) : Prop where
  params : s.length ≤ 1048576
  names : ∀ p ∈ s, p.name.length ≤ 9223372036854775807

theorem fit_ct (s : Sig) (f : Flat) (hs : LenS s) (hf : LenF f) : ACalls pk 85 [.agg (eG s), .agg (eF f)] [] (fun r o => r = .one (.bool (fitQ s f)) ∧ o = []) := by
  have a1 := hs.params
  have a2 := hf.places
  have a3 := hf.named
  refine acalls_of_body Tryz.func85 rfl (by kernel_rfl) rfl ?_
  refine rn rfl ?_
  refine goal_step (step_call [] rfl rfl rfl rfl rfl rfl (ivalidSig_ct s (by omega) hs.names)) ?_
  rintro σ2 ⟨r, o', ⟨rfl, rfl⟩, hσ⟩
  obtain rfl := Option.some.inj hσ
  clear hσ
  refine rn rfl ?_
  refine goal_guard rfl rfl rfl (fun h => ?_) (fun h => ?_) <;> (try simp only [gt_iff_lt, ge_iff_le, bne_iff_ne, ne_eq, bne_eq_false_iff_eq, beq_iff_eq, beq_eq_false_iff_ne, Bool.not_eq_true', Bool.not_eq_false', decide_eq_true_eq, decide_eq_false_iff_not, List.length_map] at h)
  · refine rn rfl ?_
    refine goal_step (step_call [] rfl rfl rfl rfl rfl rfl (ivalidFlat_ct f (by omega) (by omega) hf.names)) ?_
    rintro σ2 ⟨r, o', ⟨rfl, rfl⟩, hσ⟩
    obtain rfl := Option.some.inj hσ
    clear hσ
    refine rn rfl ?_
    refine rn rfl (fin_is [] rfl ⟨?_, rfl⟩)
    simp [fitQ, h]
  · refine rn rfl (fin_is [] rfl ⟨?_, rfl⟩)
    simp [fitQ, h]

theorem fitQ_iff {s : Sig} {f : Flat} : fitQ s f = true ↔ OkS s ∧ OkF f := by
  rw [fitQ, Bool.and_eq_true, okSig_iff, okFlat_iff]

theorem OkF.len {f : Flat} (h : OkF f) : LenF f := ⟨by have := h.places; omega, by have := h.named; omega, fun p hp => by
  have := h.pairs p hp
  simp only [okPair, okName, inR, Bool.and_eq_true, decide_eq_true_eq] at this
  omega⟩

theorem OkS.lenS {s : Sig} (h : OkS s) : LenS s := ⟨by have := h.len; omega, fun p hp => by have := h.nameLen hp; omega⟩

def accQ (s : Sig) (f : Flat) : Bool := decide ((bindQ s f).2 = [])

/-- What a call binds, and whether it does. -/
def BindQ (s : Sig) (f : Flat) : Bnds × Bool := if fitQ s f && accQ s f then ((boundQ s f).1, true) else ([], false)

def partQ (s : Sig) (f : Flat) : Bool := fitQ s f && decide ((boundQ s f).2 = [])

theorem take_snoc' {α : Type} {xs : List α} {i : Nat} {x : α} (h : xs[i]? = some x) : xs.take i ++ [x] = xs.take (i + 1) := take_snoc h

def overN (ps qs : List Pair) : List Pair := qs.foldl (fun ps p => putP ps p.name p.value) ps

def overQ (f g : Flat) : Flat := ⟨f.places ++ g.places, overN f.named g.named⟩

theorem overN_len : ∀ (qs ps : List Pair), (overN ps qs).length ≤ ps.length + qs.length
  | [], ps => by simp [overN]
  | q :: qs, ps => by
    have h1 := overN_len qs (putP ps q.name q.value)
    have h2 := putP_length ps q.name q.value
    simp only [overN, List.foldl_cons, List.length_cons] at h1 ⊢
    omega

theorem overN_mem : ∀ {qs ps : List Pair} {p : Pair}, p ∈ overN ps qs → (∃ q ∈ ps, p.name = q.name) ∨ ∃ q ∈ qs, p.name = q.name
  | [], ps, p, h => .inl ⟨p, h, rfl⟩
  | q :: qs, ps, p, h => by
    rcases overN_mem (qs := qs) (ps := putP ps q.name q.value) h with ⟨r, hr, hn⟩ | ⟨r, hr, hn⟩
    · rcases putP_mem hr with h1 | ⟨r', hr', h1⟩
      · exact .inr ⟨q, by simp, by rw [hn, h1]⟩
      · exact .inl ⟨r', hr', by rw [hn, h1]⟩
    · exact .inr ⟨r, by simp [hr], hn⟩

theorem LenF.over {f g : Flat} (hf : LenF f) (hg : LenF g) : (overQ f g).places.length ≤ 16777216 ∧ (overQ f g).named.length ≤ 16777216 ∧ ∀ p ∈ (overQ f g).named, p.name.length ≤ 9223372036854775807 := by
  refine ⟨by have := hf.places; have := hg.places; simp [overQ]; omega, by have h := overN_len g.named f.named; have := hf.named; have := hg.named; simp only [overQ]; omega, fun p hp => ?_⟩
  rcases overN_mem hp with ⟨q, hq, hn⟩ | ⟨q, hq, hn⟩
  · rw [hn]; exact hf.names q hq
  · rw [hn]; exact hg.names q hq

theorem gt_zero {α : Type} (xs : List α) : decide (((xs.length : Nat) : Int) > 0) = !decide (xs = []) := by
  cases xs with
  | nil => rfl
  | cons x xs => simp

/-- Slots of own memory. -/
def rL (b : Bnds) : T := .agg [.os 0 0 b.length b.length]

theorem iBind_ct (s : Sig) (f : Flat) (hs : LenS s) (hf : LenF f) : ACalls pk 66 [.agg (eG s), .agg (eF f)] [] (fun r o => r = .tup [rL (BindQ s f).1, .one (.bool (BindQ s f).2)] ∧ o = [ownL (BindQ s f).1]) := by
  refine acalls_of_body Tryz.func66 rfl (by kernel_rfl) rfl ?_
  refine rn rfl ?_
  refine goal_step (step_call [] rfl rfl rfl rfl rfl rfl (fit_ct s f hs hf)) ?_
  rintro σ2 ⟨r, o', ⟨rfl, rfl⟩, hσ⟩
  obtain rfl := Option.some.inj hσ
  clear hσ
  refine rn rfl ?_
  refine goal_cond rfl (fun h => ?_) (fun h => ?_) <;> (try simp only [gt_iff_lt, ge_iff_le, bne_iff_ne, ne_eq, bne_eq_false_iff_eq, beq_iff_eq, beq_eq_false_iff_ne, Bool.not_eq_true', Bool.not_eq_false', decide_eq_true_eq, decide_eq_false_iff_not, List.length_map] at h)
  · refine rn rfl ?_
    refine fin_weak (Weak.adoptO 2 0 3) (fin_is [3] rfl ⟨?_, ?_⟩)
    · simp [BindQ, h]; rfl
    · simp [BindQ, h]; rfl
  · have hfit := fitQ_iff.1 h
    refine rn rfl ?_
    refine goal_step (step_call [] rfl rfl rfl rfl rfl rfl (ibind_ct s f hfit.1 hf.places hf.named)) ?_
    rintro σ2 ⟨r, o', ⟨rfl, rfl⟩, hσ⟩
    obtain rfl := Option.some.inj hσ
    clear hσ
    refine rn rfl ?_
    rw [List.length_map, gt_zero]
    refine goal_cond rfl (fun h2 => ?_) (fun h2 => ?_) <;> simp only [Bool.not_eq_true', Bool.not_eq_false', decide_eq_true_eq, decide_eq_false_iff_not] at h2
    · refine rn rfl ?_
      refine fin_weak (Weak.adoptO 2 0 3) (fin_is [5] rfl ⟨?_, ?_⟩)
      · simp [BindQ, accQ, h2]; rfl
      · simp [BindQ, accQ, h2]; rfl
    · refine rn rfl ?_
      have hb : BindQ s f = ((boundQ s f).1, true) := by simp [BindQ, h, accQ, h2]
      refine fin_is [3] rfl ⟨?_, ?_⟩
      · rw [hb]; simp [rL, boundQ_len]
      · rw [hb]; rfl

theorem iBindD_ct (s : Sig) (f : Flat) (hs : LenS s) (hf : LenF f) : ACalls pk 66 [.agg (eG s), .agg (eF f)] [] (fun r o => r = .tup [.agg (eBi (BindQ s f).1), .one (.bool (BindQ s f).2)] ∧ o = []) :=
  (iBind_ct s f hs hf).told [] (by
    rintro r o ⟨rfl, rfl⟩
    refine ⟨_, _, rfl, ?_, rfl⟩
    rw [takeAll eL _ _ rfl]; rfl)

theorem iaccepts_ct (s : Sig) (f : Flat) (hs : LenS s) (hf : LenF f) : ACalls pk 35 [.agg (eG s), .agg (eF f)] [] (fun r o => r = .one (.bool (BindQ s f).2) ∧ o = []) := by
  refine acalls_of_body Tryz.func35 rfl (by kernel_rfl) rfl ?_
  refine rn rfl ?_
  refine goal_step (step_call [] rfl rfl rfl rfl rfl rfl (iBindD_ct s f hs hf)) ?_
  rintro σ2 ⟨r, o', ⟨rfl, rfl⟩, hσ⟩
  obtain rfl := Option.some.inj hσ
  clear hσ
  refine rn rfl ?_
  exact rn rfl (fin_is [] rfl ⟨rfl, rfl⟩)

structure Shp where
  count : Int
  names : List Str

def eX (x : Shp) : List C := [.int .i64 x.count, .fs (x.names.map eS)]

section

variable {X : Pk} {N np : Nat} {G : Ctx} {D : Nat → Prop} {e : List ALoc} {σ σ' : State} {a : Act} {w : World} {K : KP}

theorem dA_min {o : Oper} {x y : Operand} {t t2 : TypeId} {n m : Int} (ho : o.op = .call ⟨.builtin .min, #[x, y], #[t, t2]⟩) (hx : evalO σ x = .one (.int .i64 n)) (hy : evalO σ y = .one (.int .i64 m)) (hd : dstB N o.dst = true) :
    DidA X N np o (.q none) σ (putS o.dst (.one (.int .i64 (if m < n then m else n))) σ) := fun {G D e a w} H => by
  have hxv := one_int (hx ▸ H.ev x)
  have hyv := one_int (hy ▸ H.ev y)
  refine Did.pure H (v := .int .i64 (if m < n then m else n)) (fun w _ => ?_) (by simp only [TR, CR]) (putS_eq hd)
  simp [execOp, ho, resolve, invoke, Go.builtin, hxv, hyv, Builtin.min_, Builtin.min2]

end

/-- All of the memory, zs data. -/
def allD (w : World) (b : Nat) : Prop := b < w.heap.size

/-- A value of type 't' that can be read is some 'a', its cells told by 'enc'. -/
def Opens (P : Program) (t : TypeId) {α : Type} (enc : α → List C) (ok : α → Prop) : Prop :=
  ∀ (H : Type) (en : TypeId × Value → H) (w : World) (fuel : Nat) (cs : List Value) (x : DataW H × List MemPlace), DataW.trod en P w 0 (fun _ => true) true fuel t cs = some x →
    ∃ a : α, ok a ∧ CRp (allD w) w.heap [] (enc a) cs ∧ cs.length = (enc a).length

theorem opens_slice {P : Program} {t e : TypeId} {α : Type} {enc : α → List C} {ok : α → Prop} {sz : Nat} (ht : P.underlying t = some (.slice e)) (hc : P.cellsOf e = sz) (h0 : 0 < sz) (hl : ∀ a, (enc a).length = sz) (he : Opens P e enc ok) :
    Opens P t (fun xs : List α => [.fs (xs.map enc)]) (fun xs => xs.length ≤ 9223372036854775807 ∧ ∀ x ∈ xs, ok x) := by
  intro H en w fuel cs x h
  rcases DataW.trod_slice ht h with ⟨rfl, _⟩ | ⟨a, len, cap, elems, rest, n, _, rfl, _, _, hlc, hm, hlen, hel, _, _⟩
  · refine ⟨[], by simp, ?_, rfl⟩
    simp only [CRp, CR, List.map_nil, List.length_nil, and_true]
    exact ⟨none, 0, rfl, Nat.le_refl _, .inl trivial⟩
  · have each : ∀ i, i < len → ∃ cs' : List Value, w.cells? 0 (a.add (i * sz)) sz = some cs' ∧ ∃ b : α, ok b ∧ CRp (allD w) w.heap [] (enc b) cs' ∧ cs'.length = (enc b).length := by
      intro i hi
      have := hel i hi
      rw [hc] at this
      obtain ⟨y, hy⟩ : ∃ y, elems[i]? = some y := ⟨elems[i], by simp [hlen, hi]⟩
      rw [hy, Option.bind_eq_some_iff] at this
      obtain ⟨cs', h1, h2⟩ := this
      obtain ⟨b, hb⟩ := he H en w n cs' y h2
      exact ⟨cs', h1, b, hb⟩
    have hxs : ∀ k, k ≤ len → ∃ xs : List α, xs.length = k ∧ (∀ x ∈ xs, ok x) ∧ ∀ (i : Nat) (b : α), xs[i]? = some b → ∃ cs', w.cells? 0 (a.add (i * sz)) sz = some cs' ∧ CRp (allD w) w.heap [] (enc b) cs' := by
      intro k
      induction k with
      | zero => intro _; exact ⟨[], rfl, by simp, by simp⟩
      | succ k ih =>
        intro hk
        obtain ⟨xs, q1, q2, q3⟩ := ih (by omega)
        obtain ⟨cs', h1, b, hb1, hb2, _⟩ := each k (by omega)
        refine ⟨xs ++ [b], by simp [q1], ?_, ?_⟩
        · intro x hx
          rcases List.mem_append.1 hx with hx | hx
          · exact q2 x hx
          · simp at hx; subst hx; exact hb1
        · intro i b' hi
          rw [getElem?_app_one] at hi
          split at hi
          · exact q3 i b' hi
          · split at hi
            · rename_i heq
              simp at hi
              subst hi
              rw [heq, q1]
              exact ⟨cs', h1, hb2⟩
            · cases hi
    obtain ⟨xs, q1, q2, q3⟩ := hxs len (Nat.le_refl _)
    refine ⟨xs, ⟨?_, q2⟩, ?_, rfl⟩
    · rw [q1]; exact Nat.le_trans (Nat.le_trans hlc hm) (by decide)
    · simp only [CRp, CR, and_true]
      refine ⟨some a, cap, by simp [q1], by simpa [q1] using hlc, ?_⟩
      rcases Nat.eq_zero_or_pos len with hz | hz
      · left
        have : xs = [] := List.eq_nil_of_length_eq_zero (by omega)
        simp [this]
      · right
        obtain ⟨b0, hb0⟩ : ∃ b, xs[0]? = some b := ⟨xs[0], by simp [q1, hz]⟩
        obtain ⟨cs0, hc0, _⟩ := q3 0 b0 hb0
        have hcell0 := (World.cells?_some hc0).2.2 0 (by omega)
        have hl0 := (World.cells?_some hc0).1
        -- where the row lies
        obtain ⟨cells, tt, fr, hh, hs⟩ : ∃ cells tt fr, w.heap[a.block]? = some (.cells cells tt fr) ∧ a.spot = none := by
          have hv : ∃ v, w.cell? a = some v := by
            have h2 : a.add (0 * sz) = a := by simp [Addr.add]
            rw [h2] at hcell0
            have h3 : a.add 0 = a := by simp [Addr.add]
            rw [h3] at hcell0
            have : cs0[0]? ≠ none := by
              have h4 : cs0.length = sz := by
                have := World.cells?_some hc0
                first | exact this.1 | exact this.2.1
              rw [List.getElem?_eq_getElem (by omega)]; simp
            exact ⟨cs0[0]?.get (by cases hx : cs0[0]? with | none => exact absurd hx this | some v => rfl), by rw [hcell0]; simp⟩
          obtain ⟨v, hv⟩ := hv
          unfold World.cell? at hv
          split at hv
          · rename_i cells tt fr hh
            split at hv
            · cases hv
            · rename_i hsp
              exact ⟨cells, tt, fr, hh, by cases hq : a.spot with | none => rfl | some _ => rw [hq] at hsp; simp at hsp⟩
          · cases hv
        refine ⟨a, cells, tt, fr, sz, rfl, hs, (Array.getElem?_eq_some_iff.1 hh).1, hh, ?_⟩
        rw [CRr_iff]
        intro i r hi
        rw [List.getElem?_map] at hi
        cases hxi : xs[i]? with
        | none => rw [hxi] at hi; simp at hi
        | some b =>
          rw [hxi] at hi
          simp at hi
          subst hi
          obtain ⟨cs', hc', hr'⟩ := q3 i b hxi
          refine ⟨hl b, CRp.congr (fun j hj => ?_) hr'⟩
          rw [hl b] at hj
          have := (World.cells?_some hc').2.2 j hj
          rw [← this]
          have ha : (a.add (i * sz)).add j = ⟨a.block, a.off + i * sz + j, none⟩ := by rw [add_eq a _ hs, add_eq _ _ rfl]
          rw [ha, List.getElem?_drop]
          simp [World.cell?, hh, Nat.add_assoc]

section
open Go Go.ChangeShapes Go.WideShapes Go.ChangeAt Go.RowKit
theorem TIok.cellsOf {P : Program} {t : Nat} {ti : TI} (H : TIok P t ti) : P.cellsOf t = ti.size := by
  obtain ⟨i, z, hi, hs, _⟩ := H.info
  simp [Program.cellsOf, hi, hs]

section

variable {X : Pk} {t : Nat} {ti te : TI}

theorem xo_slice {α : Type} {enc : α → List C} {ok : α → Prop} (h : findTI X.L t = some ti) (hk : ti.kind = 2) (he : findTI X.L ti.elem = some te) (h0 : Nat.blt 0 te.size = true) (hl : ∀ a, (enc a).length = te.size) (hE : Opens X.P ti.elem enc ok) :
    Opens X.P t (fun xs : List α => [.fs (xs.map enc)]) (fun xs => xs.length ≤ 9223372036854775807 ∧ ∀ x ∈ xs, ok x) :=
  opens_slice ((X.tiok h).slice hk) (X.tiok he).cellsOf (by simpa [Nat.blt_eq] using h0) hl hE

end

theorem Opens.map {P : Program} {t : TypeId} {α β : Type} {enc : α → List C} {ok : α → Prop} {enc' : β → List C} {ok' : β → Prop} (h : Opens P t enc ok) (g : α → β) (he : ∀ a, enc' (g a) = enc a) (ho : ∀ a, ok a → ok' (g a)) : Opens P t enc' ok' := by
  intro H en w fuel cs x hx
  obtain ⟨a, h1, h2, h3⟩ := h H en w fuel cs x hx
  exact ⟨g a, ho a h1, by rw [he]; exact h2, by rw [he]; exact h3⟩

/-- A law's contract, zs a call from any memory. -/
theorem law_calls {X : Pk} {f : FuncId} {args : List T} {vals : Array Value} {w : World} (h : ACalls X f args [] (fun r o => r = .one (.bool true) ∧ o = [])) (ha : TRs (allD w) w.heap [] args vals.toList) :
    Calls X.P f vals w fun e w' => e = .returned (.bool true) ∧ Below w.heap.size w w' := by
  have hsr : SR (allD w) w.heap [] [] := ⟨rfl, by simp, by simp, by simp, fun b hb => hb⟩
  refine (h.2 (allD w) [] w vals.toList hsr ha (by simp)).mono ?_
  rintro en w' ⟨v, r, o', D', e', rfl, ⟨rfl, rfl⟩, htr, _, hext, _⟩
  simp only [TR, CR] at htr
  subst htr
  refine ⟨rfl, hext.os, hext.tape, hext.output, hext.size, fun k hk => hext.block k hk ?_⟩
  rintro ⟨id, a, esz, cap, n, he, _⟩
  simp at he
end

section
open Go Go.ChangeShapes
theorem cells_of_okWide {P : Program} {W : World} {r : Reach} {base : Nat} {t : TypeId} {v : Value} (hu : (∃ e, P.underlying t = some (.slice e)) ∨ (∃ k, P.underlying t = some (.int k)) ∨ P.underlying t = some .string)
    (h : Value.okWide P W r base t v) : v.cells.toList = [v] := by
  rcases hu with ⟨e, hu⟩ | ⟨k, hu⟩ | hu <;> cases v <;> first
    | rfl
    | (exfalso; simp [Value.okWide, hu, Cell.okWide, Cell.ok] at h)

theorem opens_u8 {P : Program} {t : TypeId} (ht : P.underlying t = some (.int .u8)) : Opens P t (fun b : UInt8 => [.int .u8 b.toNat]) (fun _ => True) := by
  intro H en w fuel cs x h
  obtain ⟨n, rfl, _, hw⟩ := DataW.trod_int ht h
  have hr : 0 ≤ n ∧ n < 256 := by
    simp [Lit.wf, IntKind.min, IntKind.max, IntKind.bits, IntKind.signed] at hw
    omega
  refine ⟨UInt8.ofNat n.toNat, trivial, ?_, rfl⟩
  simp only [CRp, CR, and_true]
  congr 1
  rw [UInt8.toNat_ofNat']
  omega

theorem xo_u8 {X : Pk} {t : Nat} {ti : TI} (h : findTI X.L t = some ti) (hk : ti.kind = 4) (hik : ti.ik = .u8) : Opens X.P t (fun b : UInt8 => [.int .u8 b.toNat]) (fun _ => True) := by
  have := (X.tiok h).int hk
  rw [hik] at this
  exact opens_u8 this

theorem openBytes : Opens pk.P 22 (fun bs : Str => [.fs (bs.map rowB)]) (fun bs => bs.length ≤ 9223372036854775807) :=
  Opens.map (xo_slice (enc := rowB) rfl rfl rfl rfl (fun _ => rfl) (xo_u8 rfl rfl rfl)) (fun x => x) (fun _ => rfl) (fun _ h => h.1)
end

theorem asFl (f : Flat) : T.agg [C.fs (List.take f.places.length (List.drop 0 (f.places.map eI))), C.fs (List.take f.named.length (List.drop 0 (f.named.map eP)))] = T.agg (eF f) := by
  rw [takeAll eI _ _ rfl, takeAll eP _ _ rfl]; rfl

theorem asG (s : Sig) : T.agg [C.fs (List.take s.length (List.drop 0 (s.map eQ)))] = T.agg (eG s) := by
  rw [takeAll eQ _ _ rfl]; rfl

theorem asGs (s : Sig) : T.one (C.fs (List.take s.length (List.drop 0 (s.map eQ)))) = T.one (.fs (s.map eQ)) := by rw [takeAll eQ _ _ rfl]

theorem oG_noFz' (s : Sig) : noFzO [ownQ s] = true := by simp [ownQ, noFzO, noFzR_map eQ (fun _ => rfl)]

theorem goodSignature_ct (bs : Str) (k : Int) (hb : bs.length ≤ 2000) (hk : 0 ≤ k) (hk' : k ≤ 1073730000) :
    ACalls pk 80 [.one (.op 0 0 0)] [oR bs k] (fun r o => ∃ s k', OkS s ∧ k ≤ k' ∧ k' ≤ k + 100 ∧ r = .agg [.os 1 0 s.length s.length] ∧ o = [oR bs k', ownQ s]) := by
  refine acalls_of_body Tryz.func80 rfl (by kernel_rfl) rfl ?_
  refine rn rfl ?_
  refine goal_step (step_callE [0] rfl rfl rfl rfl rfl rfl (rfl) (pick_ct bs k 2 hb (by omega) (by omega) (by omega))) ?_
  rintro σ2 ⟨r, o', ⟨⟨z, rfl, _, _⟩, rfl⟩, hσ⟩
  obtain rfl := Option.some.inj hσ
  clear hσ
  refine rn rfl ?_
  refine goal_cutR (fun σ' => ∃ kd : Int, 0 ≤ kd ∧ kd ≤ 4 ∧ σ' = ⟨[(4, .one (.int .i64 kd)), (3, .one (.os 2 0 0 0)), (2, .one (.op 1 0 0)), (0, .one (.op 0 0 0))], [oR bs (k + 1), some ⟨1, [[.fs []]], false, false, true⟩, ownQ []], []⟩) ?_ ?_
  · refine goal_cond rfl (fun h0 => ?_) (fun h0 => ?_) <;> (try simp only [gt_iff_lt, ge_iff_le, bne_iff_ne, ne_eq, bne_eq_false_iff_eq, beq_iff_eq, beq_eq_false_iff_ne, Bool.not_eq_true', Bool.not_eq_false', decide_eq_true_eq, decide_eq_false_iff_not, List.length_map] at h0)
    · refine rn rfl ?_
      exact cut_nrm [4, 3, 2, 0] [1, 2] rfl ⟨1, by omega, by omega, rfl⟩
    · refine rn rfl ?_
      exact cut_nrm [4, 3, 2, 0] [1, 2] rfl ⟨0, by omega, by omega, rfl⟩
  rintro _ ⟨kd, hd0, hd4, rfl⟩
  refine rn rfl ?_
  refine goal_step (step_callE [0] rfl rfl rfl rfl rfl rfl (rfl) (one_ct bs (k + 1) [3, 4, 2, 5, 1, 0, 6, 8] hb (by omega) (by omega) (by decide) (by decide))) ?_
  rintro σ2 ⟨r, o', ⟨⟨v, hv, rfl⟩, rfl⟩, hσ⟩
  obtain rfl := Option.some.inj hσ
  clear hσ
  refine rn rfl ?_
  have hv8 : 0 ≤ v ∧ v ≤ 8 := by
    simp only [List.mem_cons, List.not_mem_nil, or_false] at hv
    omega
  refine goal_loop_keep (fun m σ => ∃ (q kd k1 : Int) (l : Nat) (out : Sig), m = q.toNat ∧ 0 ≤ q ∧ q ≤ 8 ∧ 0 ≤ kd ∧ kd ≤ 4 ∧ l = out.length ∧ OkS out ∧ k ≤ k1 ∧ k1 + 6 * q ≤ k + 90 ∧
      σ = ⟨[(5, .one (.int .i64 q)), (4, .one (.int .i64 kd)), (3, .one (.os 2 0 l l)), (2, .one (.op 1 0 0)), (0, .one (.op 0 0 0))], [oR bs k1, some ⟨1, [[.fs []]], false, false, true⟩, ownQ out], []⟩) v.toNat [5, 4, 3, 2, 0] [1, 2] rfl
    ⟨v, kd, k + 1 + 1, 0, [], rfl, hv8.1, hv8.2, hd0, hd4, rfl, okSig_iff.1 rfl, by omega, by omega, rfl⟩ ?_
  rintro m σ ⟨q, kd, k1, l, out, rfl, hq0, hq8, hd0, hd4, rfl, hok, hk1, hk2, rfl⟩
  have hol := hok.len
  refine rn rfl ?_
  refine goal_cond rfl (fun hc => ?_) (fun hc => ?_) <;> (try simp only [gt_iff_lt, ge_iff_le, bne_iff_ne, ne_eq, bne_eq_false_iff_eq, beq_iff_eq, beq_eq_false_iff_ne, Bool.not_eq_true', Bool.not_eq_false', decide_eq_true_eq, decide_eq_false_iff_not, List.length_map] at hc)
  · refine rt 8 rfl ?_
    refine goal_cutR (fun σ' => ∃ kd' k2 : Int, 0 ≤ kd' ∧ kd' ≤ 4 ∧ k1 ≤ k2 ∧ k2 ≤ k1 + 2 ∧ σ' = ⟨[(5, .one (.int .i64 q)), (4, .one (.int .i64 kd')), (3, .one (.os 2 0 out.length out.length)), (2, .one (.op 1 0 0)), (0, .one (.op 0 0 0))], [oR bs k2, some ⟨1, [[.fs []]], false, false, true⟩, ownQ out], []⟩) ?_ ?_
    · refine rn rfl ?_
      refine goal_step (step_callE [0] rfl rfl rfl rfl rfl rfl (rfl) (pick_ct bs k1 3 hb (by omega) (by omega) (by omega))) ?_
      rintro σ2 ⟨r, o', ⟨⟨z1, rfl, _, _⟩, rfl⟩, hσ⟩
      obtain rfl := Option.some.inj hσ
      clear hσ
      refine rn rfl ?_
      refine goal_guard rfl rfl rfl (fun h1 => ?_) (fun h1 => ?_) <;> (try simp only [gt_iff_lt, ge_iff_le, bne_iff_ne, ne_eq, bne_eq_false_iff_eq, beq_iff_eq, beq_eq_false_iff_ne, Bool.not_eq_true', Bool.not_eq_false', decide_eq_true_eq, decide_eq_false_iff_not, List.length_map] at h1)
      · refine rn rfl ?_
        refine goal_cond rfl (fun h2 => ?_) (fun h2 => ?_) <;> (try simp only [gt_iff_lt, ge_iff_le, bne_iff_ne, ne_eq, bne_eq_false_iff_eq, beq_iff_eq, beq_eq_false_iff_ne, Bool.not_eq_true', Bool.not_eq_false', decide_eq_true_eq, decide_eq_false_iff_not, List.length_map] at h2)
        · have hw : IntKind.i64.wrap (4 - kd) = 4 - kd := wrap64 (by omega) (by omega)
          have hw1 : IntKind.i64.wrap (kd + 1) = kd + 1 := wrap64 (by omega) (by omega)
          refine rn rfl ?_
          rw [hw, hw1]
          refine goal_step (step_callE [0] rfl rfl rfl rfl rfl rfl (rfl) (pick_ct bs (k1 + 1) (4 - kd) hb (by omega) (by omega) (by omega))) ?_
          rintro σ2 ⟨r, o', ⟨⟨y, rfl, hy, _⟩, rfl⟩, hσ⟩
          obtain rfl := Option.some.inj hσ
          clear hσ
          refine rn rfl ?_
          have hy' := hy (by omega)
          have e : IntKind.i64.wrap (kd + 1 + y) = kd + 1 + y := wrap64 (by omega) (by omega)
          rw [e]
          exact cut_nrm [5, 4, 3, 2, 0] [1, 2] rfl ⟨kd + 1 + y, k1 + 1 + 1, by omega, by omega, by omega, by omega, rfl⟩
        · refine rn rfl ?_
          exact cut_nrm [5, 4, 3, 2, 0] [1, 2] rfl ⟨kd, k1 + 1, hd0, hd4, by omega, by omega, rfl⟩
      · refine rn rfl ?_
        exact cut_nrm [5, 4, 3, 2, 0] [1, 2] rfl ⟨kd, k1 + 1, hd0, hd4, by omega, by omega, rfl⟩
    clear hd0 hd4
    rintro _ ⟨kd', k2, hd0, hd4, hk3, hk4, rfl⟩
    refine rn rfl ?_
    refine goal_step (step_callE [0] rfl rfl rfl rfl rfl rfl rfl (of_ct bs k2 [[97], [98], [99], [100], [120], [121], [112], [113], [97, 114, 103, 115], [107, 119]] hb (by omega) (by omega) (by decide) (by decide))) ?_
    rintro σ2 ⟨r, o', ⟨⟨nm, hnm, rfl⟩, rfl⟩, hσ⟩
    obtain rfl := Option.some.inj hσ
    clear hσ
    have hnl : nm.length ≤ 7 := by
      simp only [List.mem_cons, List.not_mem_nil, or_false] at hnm
      rcases hnm with h | h | h | h | h | h | h | h | h | h <;> (rw [h]; decide)
    refine rt 11 rfl ?_
    refine goal_cutR (fun σ' => ∃ (p : Param) (k3 : Int), p.name.length ≤ 7 ∧ k2 ≤ k3 ∧ k3 ≤ k2 + 3 ∧ σ' = ⟨[(6, .one (.op 3 0 0)), (5, .one (.int .i64 q)), (4, .one (.int .i64 kd')), (3, .one (.os 2 0 out.length out.length)), (2, .one (.op 1 0 0)), (0, .one (.op 0 0 0))], [oR bs k3, some ⟨1, [[.fs []]], false, false, true⟩, ownQ out, some ⟨4, [eQ p], false, false, true⟩], []⟩) ?_ ?_
    · refine rn rfl ?_
      refine goal_step (step_callE [0] rfl rfl rfl rfl rfl rfl (rfl) (pick_ct bs (k2 + 1) 3 hb (by omega) (by omega) (by omega))) ?_
      rintro σ2 ⟨r, o', ⟨⟨z2, rfl, _, _⟩, rfl⟩, hσ⟩
      obtain rfl := Option.some.inj hσ
      clear hσ
      refine rn rfl ?_
      refine goal_guard rfl rfl rfl (fun h1 => ?_) (fun h1 => ?_) <;> (try simp only [gt_iff_lt, ge_iff_le, bne_iff_ne, ne_eq, bne_eq_false_iff_eq, beq_iff_eq, beq_eq_false_iff_ne, Bool.not_eq_true', Bool.not_eq_false', decide_eq_true_eq, decide_eq_false_iff_not, List.length_map] at h1)
      · refine rn rfl ?_
        refine goal_step (step_call [] rfl rfl rfl rfl rfl rfl (ssingle_ct ⟨nm, kd', false, 0⟩)) ?_
        rintro σ2 ⟨r, o', ⟨rfl, rfl⟩, hσ⟩
        obtain rfl := Option.some.inj hσ
        clear hσ
        refine rn rfl ?_
        refine goal_cond rfl (fun h2 => ?_) (fun h2 => ?_) <;> (try simp only [gt_iff_lt, ge_iff_le, bne_iff_ne, ne_eq, bne_eq_false_iff_eq, beq_iff_eq, beq_eq_false_iff_ne, Bool.not_eq_true', Bool.not_eq_false', decide_eq_true_eq, decide_eq_false_iff_not, List.length_map] at h2)
        · refine rn rfl ?_
          refine goal_step (step_callE [0] rfl rfl rfl rfl rfl rfl (rfl) (aNumber_ct bs (k2 + 1 + 1) hb (by omega) (by omega))) ?_
          rintro σ2 ⟨r, o', ⟨⟨w, _, _, rfl⟩, rfl⟩, hσ⟩
          obtain rfl := Option.some.inj hσ
          clear hσ
          refine rn rfl ?_
          refine rn rfl ?_
          exact cut_nrm [6, 5, 4, 3, 2, 0] [1, 2, 4] rfl ⟨⟨nm, kd', true, w⟩, k2 + 1 + 1 + 1, hnl, by omega, by omega, rfl⟩
        · refine rn rfl ?_
          exact cut_nrm [6, 5, 4, 3, 2, 0] [1, 2, 4] rfl ⟨⟨nm, kd', false, 0⟩, k2 + 1 + 1, hnl, by omega, by omega, rfl⟩
      · refine rn rfl ?_
        exact cut_nrm [6, 5, 4, 3, 2, 0] [1, 2, 4] rfl ⟨⟨nm, kd', false, 0⟩, k2 + 1 + 1, hnl, by omega, by omega, rfl⟩
    rintro _ ⟨p, k3, hpn, hk5, hk6, rfl⟩
    refine rt 14 rfl ?_
    refine goal_cutR (fun σ' => ∃ kd2 : Int, 0 ≤ kd2 ∧ kd2 ≤ 4 ∧ σ' = ⟨[(6, .one (.op 3 0 0)), (5, .one (.int .i64 q)), (4, .one (.int .i64 kd2)), (3, .one (.os 2 0 out.length out.length)), (2, .one (.op 1 0 0)), (0, .one (.op 0 0 0))], [oR bs k3, some ⟨1, [[.fs []]], false, false, true⟩, ownQ out, some ⟨4, [eQ p], false, false, true⟩], []⟩) ?_ ?_
    · refine rn rfl ?_
      refine goal_step (step_call [] rfl rfl rfl rfl rfl rfl (ssingle_ct p)) ?_
      rintro σ2 ⟨r, o', ⟨rfl, rfl⟩, hσ⟩
      obtain rfl := Option.some.inj hσ
      clear hσ
      refine rn rfl ?_
      refine goal_cond rfl (fun h1 => ?_) (fun h1 => ?_) <;> (try simp only [gt_iff_lt, ge_iff_le, bne_iff_ne, ne_eq, bne_eq_false_iff_eq, beq_iff_eq, beq_eq_false_iff_ne, Bool.not_eq_true', Bool.not_eq_false', decide_eq_true_eq, decide_eq_false_iff_not, List.length_map] at h1)
      · have hw : IntKind.i64.wrap (kd' + 1) = kd' + 1 := wrap64 (by omega) (by omega)
        refine rn rfl ?_
        rw [hw]
        refine goal_did rfl rfl (dA_min rfl rfl rfl rfl) ?_
        refine rn rfl ?_
        exact cut_nrm [6, 5, 4, 3, 2, 0] [1, 2, 3] rfl ⟨if 4 < kd' + 1 then 4 else kd' + 1, by split <;> omega, by split <;> omega, rfl⟩
      · refine rn rfl ?_
        exact cut_nrm [6, 5, 4, 3, 2, 0] [1, 2, 3] rfl ⟨kd', hd0, hd4, rfl⟩
    rintro _ ⟨kd2, hd5, hd6, rfl⟩
    refine rt1 16 rfl ?_
    refine goal_cutR (fun σ' => σ' = ⟨[(7, .one (.os 3 0 (out.length + 1) (out.length + 1))), (5, .one (.int .i64 q)), (4, .one (.int .i64 kd2)), (3, .one (.os 2 0 out.length out.length)), (2, .one (.op 1 0 0)), (0, .one (.op 0 0 0))], [oR bs k3, some ⟨1, [[.fs []]], false, false, true⟩, ownQ out, ownQ (out ++ [p])], []⟩) ?_ ?_
    · refine goal_draw' [2, 3] 6 rfl ?_
      refine drn [0, 2] (by kernel_rfl) (by kernel_rfl) rfl rfl ?_
      refine AH_two (i := 1) (j := 3) (by kernel_rfl) (step_lendE [] rfl rfl rfl rfl rfl rfl rfl (cons_eq (asGs out) rfl) (copyParams_ct out (by omega)) (by rintro r o ⟨rfl, rfl⟩; exact ⟨rfl, oG_noFz' out⟩)) (by simp) (step_did rfl rfl (dA_step rfl)) (mdOk rfl) ?_ ?_
      · rintro σ2 ⟨r, o', ⟨rfl, rfl⟩, hσ⟩
        obtain rfl := Option.some.inj hσ
        clear hσ
        refine AH_oneDid 3 rfl (by kernel_rfl) rfl (dA_step rfl) (mdOk rfl) ?_
        refine AH_oneDid 4 rfl (by kernel_rfl) rfl (dA_append (old := (out).map eQ) (rows := ([p] : List Param).map eQ) (((out) ++ ([p] : List Param)).map eQ) (out.length + 1) true (Dst.own rfl rfl rfl rfl rfl (by first | (simp; done) | (simp; omega)) (whole (by first | (simp; done) | (simp; omega)))) (Src.os rfl rfl (Nat.le_refl 1) rfl) rfl rfl rfl rfl rfl rfl rfl rfl (rows_len eQ_len _) (rows_len eQ_len _) (by (try simp only [List.length_map, List.length_append, List.length_cons, List.length_nil, List.length_take, List.length_drop]); show _ * 40 ≤ _; omega) (by first | (simp; done) | (simp; omega)) (by simp) (by first | (simp; done) | (simp; omega)) (fun _ => noOwnR_map _ eQ_noOwn _)) (mdOk rfl) ?_
        refine drn [5] (by kernel_rfl) (by kernel_rfl) rfl rfl ?_
        refine AH_end (by kernel_rfl) ?_
        refine rn rfl ?_
        exact cut_nrm [7, 5, 4, 3, 2, 0] [1, 2, 6] rfl rfl
      · rintro _ rfl
        refine AH_one (i := 1) (by kernel_rfl) (step_lendE [] rfl rfl rfl rfl rfl rfl rfl (cons_eq (asGs out) rfl) (copyParams_ct out (by omega)) (by rintro r o ⟨rfl, rfl⟩; exact ⟨rfl, oG_noFz' out⟩)) (by simp) ?_
        rintro σ2 ⟨r, o', ⟨rfl, rfl⟩, hσ⟩
        obtain rfl := Option.some.inj hσ
        clear hσ
        refine AH_oneDid 4 rfl (by kernel_rfl) rfl (dA_append (old := (out).map eQ) (rows := ([p] : List Param).map eQ) (((out) ++ ([p] : List Param)).map eQ) (out.length + 1) true (Dst.own rfl rfl rfl rfl rfl (by first | (simp; done) | (simp; omega)) (whole (by first | (simp; done) | (simp; omega)))) (Src.os rfl rfl (Nat.le_refl 1) rfl) rfl rfl rfl rfl rfl rfl rfl rfl (rows_len eQ_len _) (rows_len eQ_len _) (by (try simp only [List.length_map, List.length_append, List.length_cons, List.length_nil, List.length_take, List.length_drop]); show _ * 40 ≤ _; omega) (by first | (simp; done) | (simp; omega)) (by simp) (by first | (simp; done) | (simp; omega)) (fun _ => noOwnR_map _ eQ_noOwn _)) (mdOk rfl) ?_
        refine drn [5] (by kernel_rfl) (by kernel_rfl) rfl rfl ?_
        refine AH_end (by kernel_rfl) ?_
        refine rn rfl ?_
        exact cut_nrm [7, 5, 4, 3, 2, 0] [1, 2, 6] rfl rfl
    rintro _ rfl
    have hln : ∀ r ∈ out ++ [p], r.name.length ≤ 9223372036854775807 := by
      intro r hr
      rcases List.mem_append.1 hr with hr | hr
      · have := hok.nameLen hr; omega
      · simp only [List.mem_singleton] at hr; rw [hr]; omega
    refine rn rfl ?_
    refine goal_step (step_lendE [] rfl rfl rfl rfl rfl rfl rfl (cons_eq (congrArg (fun x => T.one (C.fs x)) (takeAll eQ (out ++ [p]) (out.length + 1) (by simp))) rfl) (svalidParams_ct (out ++ [p]) (by simp; omega) hln) (by rintro r o ⟨rfl, rfl⟩; exact ⟨rfl, rfl⟩)) ?_
    rintro σ2 ⟨r, o', ⟨rfl, rfl⟩, hσ⟩
    obtain rfl := Option.some.inj hσ
    clear hσ
    refine rn rfl ?_
    have hw : IntKind.i64.wrap (q - 1) = q - 1 := wrap64 (by omega) (by omega)
    refine goal_cond rfl (fun h9 => ?_) (fun h9 => ?_) <;> (try simp only [gt_iff_lt, ge_iff_le, bne_iff_ne, ne_eq, bne_eq_false_iff_eq, beq_iff_eq, beq_eq_false_iff_ne, Bool.not_eq_true', Bool.not_eq_false', decide_eq_true_eq, decide_eq_false_iff_not, List.length_map] at h9)
    · refine rn rfl ?_
      rw [hw]
      refine round_keep (q - 1).toNat [5, 4, 3, 2, 0] [1, 3] (by omega) rfl ⟨q - 1, kd2, k3, _, out ++ [p], rfl, by omega, by omega, hd5, hd6, (by simp : out.length + 1 = _), okSig_iff.1 h9, by omega, by omega, rfl⟩
    · refine rn rfl ?_
      rw [hw]
      refine round_keep (q - 1).toNat [5, 4, 3, 2, 0] [1, 2] (by omega) rfl ⟨q - 1, kd2, k3, _, out, rfl, by omega, by omega, hd5, hd6, rfl, hok, by omega, by omega, rfl⟩
  · refine rn rfl (round_ext ?_)
    refine rn rfl (fin_is [2] rfl ⟨out, k1, hok, hk1, by omega, rfl, rfl⟩)

structure SmallS (s : Sig) : Prop where
  len : s.length ≤ 8
  names : ∀ p ∈ s, p.name.length ≤ 7

theorem small_set {s : Sig} {j : Nat} {p : Param} (h : SmallS s) (hp : p.name.length ≤ 7) : SmallS (s.set j p) := by
  refine ⟨by simp [h.len], fun q hq => ?_⟩
  rcases List.mem_or_eq_of_mem_set hq with hq | hq
  · exact h.names q hq
  · rw [hq]; exact hp

theorem OkS.small {s : Sig} (h : OkS s) : SmallS s := ⟨h.len, fun p hp => by have := h.nameLen hp; omega⟩

theorem someSignature_ct (bs : Str) (k : Int) (hb : bs.length ≤ 2000) (hk : 0 ≤ k) (hk' : k ≤ 1073720000) :
    ACalls pk 50 [.one (.op 0 0 0)] [oR bs k] (fun r o => ∃ s k', SmallS s ∧ k ≤ k' ∧ k' ≤ k + 110 ∧ r = .agg (eG s) ∧ o = [oR bs k']) := by
  refine acalls_of_body Tryz.func50 rfl (by kernel_rfl) rfl ?_
  refine rn rfl ?_
  refine goal_step (step_callE [0] rfl rfl rfl rfl rfl rfl rfl (goodSignature_ct bs k hb hk (by omega))) ?_
  rintro σ2 ⟨r, o', ⟨s, k1, hs, hk1, hk2, rfl, rfl⟩, hσ⟩
  obtain rfl := Option.some.inj hσ
  clear hσ
  have hsm := hs.small
  have hsl := hsm.len
  refine rt 2 rfl ?_
  refine goal_cutR (fun σ' => ∃ (t : Sig) (k2 : Int), SmallS t ∧ k1 ≤ k2 ∧ k2 ≤ k1 + 10 ∧ t.length = s.length ∧ σ' = ⟨[(3, .one (.op 2 0 0)), (2, .one (.op 1 0 0))], [oR bs k2, some ⟨1, [[.fs []]], false, false, true⟩, some ⟨1, [[.os 3 0 s.length s.length]], false, false, true⟩, ownQ t], []⟩) ?_ ?_
  · refine rn rfl ?_
    refine goal_cond rfl (fun h0 => ?_) (fun h0 => ?_) <;> (try simp only [gt_iff_lt, ge_iff_le, bne_iff_ne, ne_eq, bne_eq_false_iff_eq, beq_iff_eq, beq_eq_false_iff_ne, Bool.not_eq_true', Bool.not_eq_false', decide_eq_true_eq, decide_eq_false_iff_not, List.length_map] at h0)
    · refine rn rfl ?_
      refine goal_step (step_callE [0] rfl rfl rfl rfl rfl rfl (rfl) (pick_ct bs k1 s.length hb (by omega) (by omega) (by omega))) ?_
      rintro σ2 ⟨r, o', ⟨⟨y, rfl, hy, _⟩, rfl⟩, hσ⟩
      obtain rfl := Option.some.inj hσ
      clear hσ
      refine rn rfl ?_
      have hy' := hy (by omega)
      obtain ⟨j, rfl⟩ : ∃ j : Nat, y = j := ⟨y.toNat, by omega⟩
      obtain ⟨p, hp⟩ := at_some (xs := s) (i := j) (by omega)
      have hpn := hsm.names p (List.mem_of_getElem? hp)
      refine rn rfl ?_
      refine goal_step (step_callE [0] rfl rfl rfl rfl rfl rfl (rfl) (pick_ct bs (k1 + 1) 24 hb (by omega) (by omega) (by omega))) ?_
      rintro σ2 ⟨r, o', ⟨⟨z, rfl, _, _⟩, rfl⟩, hσ⟩
      obtain rfl := Option.some.inj hσ
      clear hσ
      refine rn rfl ?_
      refine rn rfl ?_
      refine goal_cond rfl (fun c1 => ?_) (fun c1 => ?_) <;> (try simp only [gt_iff_lt, ge_iff_le, bne_iff_ne, ne_eq, bne_eq_false_iff_eq, beq_iff_eq, beq_eq_false_iff_ne, Bool.not_eq_true', Bool.not_eq_false', decide_eq_true_eq, decide_eq_false_iff_not, List.length_map] at c1)
      · refine rn rfl ?_
        refine goal_draw' [3] 8 rfl ?_
        refine drn [0, 1, 2, 3] (by kernel_rfl) (by kernel_rfl) rfl rfl ?_
        refine AH_one (i := 4) (by kernel_rfl) (step_callE [0] rfl rfl rfl rfl rfl rfl (rfl) (anyName_ct bs (k1 + 1 + 1) hb (by omega) (by omega))) (by simp) ?_
        rintro σ2 ⟨r, o', ⟨⟨nm, hnm, rfl⟩, rfl⟩, hσ⟩
        obtain rfl := Option.some.inj hσ
        clear hσ
        refine AH_did 5 rfl (by kernel_rfl) (by kernel_rfl) (by kernel_rfl) rfl rfl (dA_indexOwn rfl rfl rfl rfl rfl rfl rfl rfl rfl (by omega) (by (try simp); omega)) ?_
        refine AH_did 6 rfl (by kernel_rfl) (by kernel_rfl) (by kernel_rfl) rfl rfl (dA_step rfl) ?_
        refine AH_oneDid 7 rfl (by kernel_rfl) rfl (dA_storeEl (eQ p) ((s.set j ⟨nm, p.kind, p.hasD, p.dflt⟩).map eQ) true rfl rfl rfl rfl rfl (map_at (by simpa using hp)) rfl rfl (by simp [eQ]) (by rw [map_set]; simp [patch, eQ]) (fun _ => noOwnR_map _ eQ_noOwn _)) (mdOk rfl) ?_
        refine AH_end (by kernel_rfl) ?_
        refine rn rfl ?_
        exact cut_nrm [3, 2] [1, 3, 2] rfl ⟨s.set j ⟨nm, p.kind, p.hasD, p.dflt⟩, k1 + 1 + 1 + 2, small_set hsm (by exact hnm), by omega, by omega, by simp, rfl⟩
      · refine rn rfl ?_
        refine goal_cond rfl (fun c2 => ?_) (fun c2 => ?_) <;> (try simp only [gt_iff_lt, ge_iff_le, bne_iff_ne, ne_eq, bne_eq_false_iff_eq, beq_iff_eq, beq_eq_false_iff_ne, Bool.not_eq_true', Bool.not_eq_false', decide_eq_true_eq, decide_eq_false_iff_not, List.length_map] at c2)
        · refine rn rfl ?_
          refine goal_draw' [3] 9 rfl ?_
          refine drn [0, 1, 2, 3] (by kernel_rfl) (by kernel_rfl) rfl rfl ?_
          refine AH_oneDid 4 rfl (by kernel_rfl) rfl (dA_step rfl) (mdOk rfl) ?_
          refine AH_one (i := 5) (by kernel_rfl) (step_callE [0] rfl rfl rfl rfl rfl rfl (rfl) (one_ct bs (k1 + 1 + 1) [-1, 5, 0, 2, 4] hb (by omega) (by omega) (by decide) (by decide))) (by simp) ?_
          rintro σ2 ⟨r, o', ⟨⟨w, hw, rfl⟩, rfl⟩, hσ⟩
          obtain rfl := Option.some.inj hσ
          clear hσ
          refine AH_did 6 rfl (by kernel_rfl) (by kernel_rfl) (by kernel_rfl) rfl rfl (dA_indexOwn rfl rfl rfl rfl rfl rfl rfl rfl rfl (by omega) (by (try simp); omega)) ?_
          refine AH_did 7 rfl (by kernel_rfl) (by kernel_rfl) (by kernel_rfl) rfl rfl (dA_step rfl) ?_
          refine AH_oneDid 8 rfl (by kernel_rfl) rfl (dA_storeEl (eQ p) ((s.set j ⟨p.name, w, p.hasD, p.dflt⟩).map eQ) true rfl rfl rfl rfl rfl (map_at (by simpa using hp)) rfl rfl (by simp [eQ]) (by rw [map_set]; simp [patch, eQ]) (fun _ => noOwnR_map _ eQ_noOwn _)) (mdOk rfl) ?_
          refine AH_end (by kernel_rfl) ?_
          refine rn rfl ?_
          exact cut_nrm [3, 2] [1, 3, 2] rfl ⟨s.set j ⟨p.name, w, p.hasD, p.dflt⟩, k1 + 1 + 1 + 1, small_set hsm (by exact hpn), by omega, by omega, by simp, rfl⟩
        · refine rn rfl ?_
          refine goal_cond rfl (fun c3 => ?_) (fun c3 => ?_) <;> (try simp only [gt_iff_lt, ge_iff_le, bne_iff_ne, ne_eq, bne_eq_false_iff_eq, beq_iff_eq, beq_eq_false_iff_ne, Bool.not_eq_true', Bool.not_eq_false', decide_eq_true_eq, decide_eq_false_iff_not, List.length_map] at c3)
          · refine rn rfl ?_
            refine goal_drawL [2, 3] [12] 13 rfl ?_
            refine drnL [0, 1, 2, 3, 4, 5] (by kernel_rfl) (by kernel_rfl) rfl rfl ?_
            refine AHL_did 6 rfl (by kernel_rfl) (by kernel_rfl) (by kernel_rfl) (by kernel_rfl) rfl rfl (dA_indexOwn rfl rfl rfl rfl rfl rfl rfl rfl rfl (by omega) (by (try simp); omega)) ?_
            refine AHL_did 7 rfl (by kernel_rfl) (by kernel_rfl) (by kernel_rfl) (by kernel_rfl) rfl rfl (dA_step rfl) ?_
            refine AHL_did 8 rfl (by kernel_rfl) (by kernel_rfl) (by kernel_rfl) (by kernel_rfl) rfl rfl (dA_loadEl (eQ p) rfl rfl rfl rfl (map_at (by simpa using hp)) rfl rfl rfl) ?_
            refine drnL [9] (by kernel_rfl) (by kernel_rfl) rfl rfl ?_
            refine AHL_did 10 rfl (by kernel_rfl) (by kernel_rfl) (by kernel_rfl) (by kernel_rfl) rfl rfl (dA_indexOwn rfl rfl rfl rfl rfl rfl rfl rfl rfl (by omega) (by (try simp); omega)) ?_
            refine AHL_did 11 rfl (by kernel_rfl) (by kernel_rfl) (by kernel_rfl) (by kernel_rfl) rfl rfl (dA_step rfl) ?_
            refine AHL_lateDid 12 rfl (by kernel_rfl) rfl rfl (dA_storeEl (eQ p) ((s.set j ⟨p.name, p.kind, !p.hasD, p.dflt⟩).map eQ) true rfl rfl rfl rfl rfl (map_at (by simpa using hp)) rfl rfl (by simp [eQ]) (by rw [map_set]; simp [patch, eQ]) (fun _ => noOwnR_map _ eQ_noOwn _)) ?_
            refine AH_end (by kernel_rfl) ?_
            refine rn rfl ?_
            exact cut_nrm [3, 2] [1, 3, 2] rfl ⟨s.set j ⟨p.name, p.kind, !p.hasD, p.dflt⟩, k1 + 1 + 1, small_set hsm (by exact hpn), by omega, by omega, by simp, rfl⟩
          · refine rn rfl ?_
            refine goal_cond rfl (fun c4 => ?_) (fun c4 => ?_) <;> (try simp only [gt_iff_lt, ge_iff_le, bne_iff_ne, ne_eq, bne_eq_false_iff_eq, beq_iff_eq, beq_eq_false_iff_ne, Bool.not_eq_true', Bool.not_eq_false', decide_eq_true_eq, decide_eq_false_iff_not, List.length_map] at c4)
            · refine rn rfl ?_
              refine goal_draw' [3] 9 rfl ?_
              refine drn [0, 1, 2, 3] (by kernel_rfl) (by kernel_rfl) rfl rfl ?_
              refine AH_oneDid 4 rfl (by kernel_rfl) rfl (dA_step rfl) (mdOk rfl) ?_
              refine AH_one (i := 5) (by kernel_rfl) (step_callE [0] rfl rfl rfl rfl rfl rfl (rfl) (one_ct bs (k1 + 1 + 1) [100, 5] hb (by omega) (by omega) (by decide) (by decide))) (by simp) ?_
              rintro σ2 ⟨r, o', ⟨⟨w, hw, rfl⟩, rfl⟩, hσ⟩
              obtain rfl := Option.some.inj hσ
              clear hσ
              refine AH_did 6 rfl (by kernel_rfl) (by kernel_rfl) (by kernel_rfl) rfl rfl (dA_indexOwn rfl rfl rfl rfl rfl rfl rfl rfl rfl (by omega) (by (try simp); omega)) ?_
              refine AH_did 7 rfl (by kernel_rfl) (by kernel_rfl) (by kernel_rfl) rfl rfl (dA_step rfl) ?_
              refine AH_oneDid 8 rfl (by kernel_rfl) rfl (dA_storeEl (eQ p) ((s.set j ⟨p.name, p.kind, p.hasD, w⟩).map eQ) true rfl rfl rfl rfl rfl (map_at (by simpa using hp)) rfl rfl (by simp [eQ]) (by rw [map_set]; simp [patch, eQ]) (fun _ => noOwnR_map _ eQ_noOwn _)) (mdOk rfl) ?_
              refine AH_end (by kernel_rfl) ?_
              refine rn rfl ?_
              exact cut_nrm [3, 2] [1, 3, 2] rfl ⟨s.set j ⟨p.name, p.kind, p.hasD, w⟩, k1 + 1 + 1 + 1, small_set hsm (by exact hpn), by omega, by omega, by simp, rfl⟩
            · refine rn rfl ?_
              exact cut_nrm [3, 2] [1, 3, 2] rfl ⟨s, k1 + 1 + 1, hsm, by omega, by omega, rfl, rfl⟩
    · refine rn rfl ?_
      exact cut_nrm [3, 2] [1, 3, 2] rfl ⟨s, k1, hsm, by omega, by omega, rfl, rfl⟩
  rintro _ ⟨t, k2, ht, hk3, hk4, htl, rfl⟩
  refine rn rfl (fin_is [] rfl ⟨t, k2, ht, by omega, by omega, ?_, rfl⟩)
  rw [← htl]; exact asG t

/-- A flat of a draw: not long, its names short. -/
structure MidF (f : Flat) (a b : Nat) : Prop where
  places : f.places.length ≤ a
  named : f.named.length ≤ b
  names : ∀ p ∈ f.named, p.name.length ≤ 7

/-- Given by its place. -/
def byPl (pl : List Int) (i : Nat) (p : Param) : Bool := placedQ p && decide (i < pl.length)

def giveQ (s : Sig) (pl : List Int) (qs : List Pair) (i : Nat) (p : Param) : Slot :=
  if p.kind = 4 then ⟨false, [], qs.filter fun q => takesQ s q.name == (i : Int)⟩
  else if namedQ p && !byPl pl i p then (match qs.find? (nameIs p.name) with
    | some q => ⟨true, [q.value], []⟩
    | none => zL)
  else place1 (placesQ s) pl i p

def wrongQ (s : Sig) (pl : List Int) (q : Pair) : Option Problem :=
  if takesQ s q.name < 0 then some ⟨1, q.name⟩ else
  match s[(takesQ s q.name).toNat]? with
  | some p => if p.kind = 4 then none else if byPl pl (takesQ s q.name).toNat p then some ⟨2, q.name⟩ else none
  | none => none

def closedQ (s : Sig) (pl : List Int) (qs : List Pair) : Bnds × List Problem := (s.mapIdx (giveQ s pl qs), manyQ s pl ++ qs.filterMap (wrongQ s pl))

theorem giveQ_nil {s : Sig} (pl : List Int) (i : Nat) (p : Param) : giveQ s pl [] i p = place1 (placesQ s) pl i p := by
  unfold giveQ
  by_cases h4 : p.kind = 4
  · rw [if_pos h4]
    have : placedQ p = false := by
      cases h : placedQ p with
      | false => rfl
      | true => rw [placed_kind] at h; omega
    unfold place1
    simp [this, h4, zL]
  · rw [if_neg h4]
    split
    · rename_i h
      simp only [Bool.and_eq_true, Bool.not_eq_true'] at h
      have hk := named_kind.1 h.1
      unfold place1
      unfold byPl at h
      rw [h.2]
      have : (p.kind == 2) = false := by simp; omega
      simp [this]
    · rfl

theorem closed_nil (s : Sig) (pl : List Int) : closedQ s pl [] = (phase1 s pl, manyQ s pl) := by
  simp only [closedQ, phase1, List.filterMap_nil, List.append_nil]
  congr 1
  apply List.ext_getElem?
  intro i
  rw [List.getElem?_mapIdx, List.getElem?_mapIdx]
  cases s[i]? with
  | none => rfl
  | some p => simp only [Option.map_some, giveQ_nil]

theorem takes_named {s : Sig} (hs : OkS s) {i : Nat} {p : Param} (hp : s[i]? = some p) (hn : namedQ p = true) : takesQ s p.name = (i : Int) := by
  have hq : ∀ j q, s[j]? = some q → q.name = p.name → j = i := fun j q hj hqn => by
    have hnd := hs.nodup
    rw [List.nodup_iff_pairwise_ne, List.pairwise_iff_getElem] at hnd
    have hi := lt_of_some hp
    have hjl := lt_of_some hj
    rw [List.getElem?_eq_getElem hi] at hp
    rw [List.getElem?_eq_getElem hjl] at hj
    simp only [Option.some.injEq] at hp hj
    rcases Nat.lt_trichotomy j i with h | h | h
    · exact absurd (by rw [List.getElem_map, List.getElem_map, hp, hj, hqn]) (hnd j i (by simpa using hjl) (by simpa using hi) h)
    · exact h
    · exact absurd (by rw [List.getElem_map, List.getElem_map, hp, hj, hqn]) (hnd i j (by simpa using hi) (by simpa using hjl) h)
  have hany : s.any (qIs p.name) = true := by rw [List.any_eq_true]; exact ⟨p, List.mem_of_getElem? hp, by simp [qIs]⟩
  obtain ⟨q, hf, hqi, hqn, hlt⟩ := idxI_find (idxI_ge (i := 0).2 hany)
  have hqn' : q.name = p.name := by simpa [qIs] using hqn
  have hix := hq _ q hqi hqn'
  have hpq : q = p := by rw [hix, hp] at hqi; exact (Option.some.inj hqi).symm
  have h0 := idxI_ge (i := 0).2 hany
  unfold takesQ
  rw [hf]
  simp only [hpq, hn, if_true]
  omega

theorem find_snoc {qs : List Pair} {q : Pair} {n : Str} : (qs ++ [q]).find? (nameIs n) = (match qs.find? (nameIs n) with
    | some x => some x
    | none => if q.name = n then some q else none) := by
  rw [List.find?_append]
  cases qs.find? (nameIs n) with
  | some x => rfl
  | none =>
    simp only [Option.none_or, List.find?_cons, List.find?_nil, nameIs]
    by_cases h : q.name = n
    · simp [h]
    · have : (q.name == n) = false := by simpa using h
      simp [h, this]

theorem find_none {qs : List Pair} {n : Str} (h : n ∉ namesOf qs) : qs.find? (nameIs n) = none := by
  rw [List.find?_eq_none]
  intro x hx hxn
  exact h (by simp only [nameIs, beq_iff_eq] at hxn; rw [← hxn]; exact List.mem_map_of_mem hx)

theorem closed_step {s : Sig} (hs : OkS s) {pl : List Int} {qs : List Pair} {q : Pair} (hq : q.name ∉ namesOf qs) : stepB s (closedQ s pl qs) q = closedQ s pl (qs ++ [q]) := by
  by_cases hneg : takesQ s q.name < 0
  · rw [stepB_neg hneg]
    simp only [closedQ, List.filterMap_append, List.filterMap_cons, List.filterMap_nil, wrongQ, hneg, if_true, List.append_assoc]
    congr 1
    apply List.ext_getElem?
    intro i
    simp only [List.getElem?_mapIdx]
    cases hp : s[i]? with
    | none => rfl
    | some p =>
      simp only [Option.map_some, Option.some.injEq, giveQ]
      split
      · have : (takesQ s q.name == (i : Int)) = false := by simp; omega
        simp [this]
      · split
        · rename_i h4 hn
          simp only [Bool.and_eq_true] at hn
          have ht := takes_named hs hp hn.1
          rw [find_snoc]
          have hne : q.name ≠ p.name := fun h0 => by rw [h0, ht] at hneg; omega
          rw [if_neg hne]
          cases qs.find? (nameIs p.name) <;> rfl
        · rfl
  · obtain ⟨p, hp, hlt, hk⟩ := takesQ_some hneg
    have hat : takesQ s q.name = ((takesQ s q.name).toNat : Nat) := by omega
    generalize hj : (takesQ s q.name).toNat = j at hp hat
    have hx : (closedQ s pl qs).1[j]? = some (giveQ s pl qs j p) := by simp [closedQ, hp]
    have hother : ∀ (i : Nat) (r : Param), s[i]? = some r → i ≠ j → giveQ s pl (qs ++ [q]) i r = giveQ s pl qs i r := fun i r hr hij => by
      simp only [giveQ]
      split
      · have : (takesQ s q.name == (i : Int)) = false := by rw [hat]; simp; omega
        simp [this]
      · split
        · rename_i h4 hn
          simp only [Bool.and_eq_true] at hn
          have ht := takes_named hs hr hn.1
          rw [find_snoc]
          have hne : q.name ≠ r.name := fun h0 => by rw [h0, ht] at hat; omega
          rw [if_neg hne]
          cases qs.find? (nameIs r.name) <;> rfl
        · rfl
    have hset : ∀ y : Slot, giveQ s pl (qs ++ [q]) j p = y → (closedQ s pl qs).1.set j y = (closedQ s pl (qs ++ [q])).1 := fun y hy => by
      apply List.ext_getElem?
      intro i
      simp only [closedQ, List.getElem?_set, List.getElem?_mapIdx, List.length_mapIdx]
      by_cases hij : j = i
      · subst hij; rw [if_pos rfl, if_pos (lt_of_some hp), hp]; simp [hy]
      · rw [if_neg hij]
        cases hr : s[i]? with
        | none => rfl
        | some r => simp [hother i r hr (fun h => hij h.symm)]
    have hwr : ∀ w : Option Problem, wrongQ s pl q = w → (closedQ s pl (qs ++ [q])).2 = (closedQ s pl qs).2 ++ w.toList := fun w hw => by
      simp only [closedQ, List.filterMap_append, List.append_assoc]
      congr 1
      congr 1
      cases w <;> simp [List.filterMap_cons, hw]
    by_cases h4 : p.kind = 4
    · rw [stepB_map hat hp hx h4]
      have hw : wrongQ s pl q = none := by simp [wrongQ, hneg, hj, hp, h4]
      have h1 := hwr none hw
      refine Prod.ext (hset _ ?_) (by rw [h1]; simp)
      simp [giveQ, h4, hat]
    · have hn : namedQ p = true ∧ p.name = q.name := by
        rcases hk with h | h
        · exact h
        · exact absurd h h4
      have hnf : qs.find? (nameIs p.name) = none := by rw [hn.2]; exact find_none hq
      by_cases hb : byPl pl j p = true
      · have hg : (giveQ s pl qs j p).given = true := by
          unfold byPl at hb
          simp only [giveQ, h4, if_false, hn.1, byPl, hb, Bool.not_true, Bool.and_false, Bool.false_eq_true, place1, if_true]
        rw [stepB_twice hat hp hx h4 hg]
        have hw : wrongQ s pl q = some ⟨2, q.name⟩ := by simp [wrongQ, hneg, hj, hp, h4, hb]
        have h1 := hwr _ hw
        refine Prod.ext ?_ (by rw [h1]; rfl)
        have h2 := hset (giveQ s pl qs j p) (by simp only [giveQ, h4, if_false, hn.1, hb, Bool.not_true, Bool.and_false, Bool.false_eq_true])
        rw [set_same hx] at h2
        exact h2
      · have hb' : byPl pl j p = false := by simpa using hb
        have hg : (giveQ s pl qs j p).given = false := by
          simp only [giveQ, h4, if_false, hn.1, hb', Bool.not_false, Bool.and_self, if_true, hnf, zL]
        rw [stepB_set hat hp hx h4 hg]
        have hw : wrongQ s pl q = none := by simp [wrongQ, hneg, hj, hp, h4, hb']
        have h1 := hwr none hw
        refine Prod.ext (hset _ ?_) (by rw [h1]; simp)
        rw [hn.2] at hnf
        simp only [giveQ, h4, if_false, hn.1, hb', Bool.not_false, Bool.and_self, if_true, find_snoc, hnf, hn.2]

theorem closed_fold {s : Sig} (hs : OkS s) {pl : List Int} : ∀ (rs qs : List Pair), (namesOf (qs ++ rs)).Nodup → rs.foldl (stepB s) (closedQ s pl qs) = closedQ s pl (qs ++ rs)
  | [], qs, _ => by simp
  | r :: rs, qs, h => by
    have hr : r.name ∉ namesOf qs := by
      intro h0
      simp only [namesOf, List.map_append, List.map_cons] at h h0
      exact (List.nodup_append.1 h).2.2 _ h0 _ (List.mem_cons_self ..) rfl
    rw [List.foldl_cons, closed_step hs hr, closed_fold hs rs (qs ++ [r]) (by simpa using h)]
    simp

/-- What a call gives. -/
theorem bound_closed {s : Sig} (hs : OkS s) {f : Flat} (hf : (namesOf f.named).Nodup) : boundQ s f = closedQ s f.places f.named := by
  rw [boundQ, ← closed_nil, closed_fold hs f.named [] (by simpa using hf)]
  simp

def atP (f : Flat) (q : Param) : Bool := q.kind == 1 && f.named.any (nameIs q.name)

def atQ (s : Sig) (f : Flat) : Int := idxI (atP f) s 0

def giveP (f : Flat) (q : Param) : Param := if namedQ q then (match f.named.find? (nameIs q.name) with
  | some r => ⟨q.name, q.kind, true, r.value⟩
  | none => q) else q

def kindP (b : Bool) (q : Param) : Param := if q.kind == 1 && b then ⟨q.name, 3, q.hasD, q.dflt⟩ else q

def skipP (at' : Int) (f : Flat) (i : Nat) (q : Param) : Bool := (placedQ q && decide (i < f.places.length)) || (q.kind == 2 && decide (0 ≤ at'))

def partParam (at' : Int) (f : Flat) (i : Nat) (q : Param) : Option Param :=
  if skipP at' f i q then none else some (giveP f (kindP (decide (0 ≤ at') && decide (at' ≤ i)) q))

def psL (at' : Int) (f : Flat) (s : Sig) : Sig := s.zipIdx.filterMap fun x => partParam at' f x.2 x.1

theorem psL_succ {at' : Int} {f : Flat} {s : Sig} {i : Nat} {q : Param} (hq : s[i]? = some q) : psL at' f (s.take (i + 1)) = psL at' f (s.take i) ++ (partParam at' f i q).toList := by
  have hl : (s.take i).length = i := by have := lt_of_some hq; simp; omega
  unfold psL
  rw [← take_snoc hq, List.zipIdx_append, List.filterMap_append, hl]
  simp [List.filterMap_cons]
  cases partParam at' f i q <;> rfl

theorem partParam_name {at' : Int} {f : Flat} {i : Nat} {q r : Param} (h : partParam at' f i q = some r) : r.name = q.name := by
  unfold partParam at h
  split at h
  · cases h
  · simp only [Option.some.injEq] at h
    rw [← h]
    unfold giveP kindP
    split <;> split <;> (try split) <;> rfl

theorem idxI_le {α : Type} {pred : α → Bool} : ∀ {xs : List α} {k i : Nat} {x : α}, xs[i]? = some x → pred x = true → 0 ≤ idxI pred xs k ∧ idxI pred xs k ≤ ((k + i : Nat) : Int)
  | y :: xs, k, 0, x, hx, hp => by
    simp at hx; subst hx
    simp [idxI, hp]
  | y :: xs, k, i + 1, x, hx, hp => by
    simp only [List.getElem?_cons_succ] at hx
    have := idxI_le (k := k + 1) hx hp
    unfold idxI
    split
    · omega
    · omega

theorem part_np {s : Sig} {f : Flat} (h : partQ s f = true) {i : Nat} {x : Param} (hx : s[i]? = some x) (hp : placedQ x = true) (hi : i < f.places.length) (hn : namedQ x = true) : f.named.any (nameIs x.name) = false := by
  simp only [partQ, Bool.and_eq_true, decide_eq_true_eq] at h
  obtain ⟨h1, h2⟩ := h
  obtain ⟨hs, hf⟩ := fitQ_iff.1 h1
  have hnd : (namesOf f.named).Nodup := by
    have := okFlat_iff.2 hf
    simp [okFlat] at this; exact this.1.1.1.2
  rw [bound_closed hs hnd] at h2
  simp only [closedQ, List.append_eq_nil_iff, List.filterMap_eq_nil_iff] at h2
  cases ha : f.named.any (nameIs x.name) with
  | false => rfl
  | true =>
    rw [List.any_eq_true] at ha
    obtain ⟨q, hq, hqn⟩ := ha
    simp only [nameIs, beq_iff_eq] at hqn
    have hw := h2.2 q hq
    have ht := takes_named hs hx hn
    rw [← hqn] at ht
    have hk := placed_kind.1 hp
    have hb : byPl f.places i x = true := by simp [byPl, hp, hi]
    unfold wrongQ at hw
    rw [ht] at hw
    simp only [Int.toNat_natCast, hx] at hw
    rw [if_neg (by omega), if_neg (by omega), if_pos hb] at hw
    cases hw

theorem np_at {s : Sig} {f : Flat} (h : partQ s f = true) {i : Nat} {x : Param} (hx : s[i]? = some x) (hp : placedQ x = true) (hi : i < f.places.length) : atP f x = false := by
  unfold atP
  cases hk : x.kind == 1 with
  | false => rfl
  | true =>
    rw [part_np h hx hp hi (by simp at hk; simp [namedQ, hk])]; rfl

def psQ (s : Sig) (f : Flat) : Sig := psL (atQ s f) f s

theorem SmallS.lenS {s : Sig} (h : SmallS s) : LenS s := ⟨by have := h.len; omega, fun p hp => by have := h.names p hp; omega⟩

theorem eqParam_b (x : Param) : eqCells (eQ x) (eQ x) = some true := by
  simp [eqCells, eQ, eqCell, eqKind]

theorem equalSigSelf_ct (s : Sig) (h : s.length ≤ 16777216) : ACalls pk 13 [.agg (eG s), .agg (eG s)] [] (fun r o => r = .one (.bool true) ∧ o = []) := by
  refine acalls_of_body Tryz.func13 rfl (by kernel_rfl) rfl ?_
  refine rn rfl ?_
  refine goal_cond rfl (fun h0 => by simp at h0) (fun _ => ?_)
  refine rn rfl ?_
  refine goal_loop_keep (fun m σ => ∃ (n : Int) (i : Nat), n = i ∧ i ≤ s.length ∧ m = s.length - i ∧
      σ = ⟨[(5, .one (.int .i64 n)), (3, .one (.op 1 0 0)), (2, .one (.op 0 0 0))], [some ⟨1, [eG s], false, false, true⟩, some ⟨1, [eG s], false, false, true⟩], []⟩) s.length [5, 3, 2] [0, 1] rfl
    ⟨_, 0, rfl, by omega, by omega, rfl⟩ ?_
  rintro m σ ⟨n, i, rfl, hi, rfl, rfl⟩
  refine rn rfl ?_
  refine goal_cond rfl (fun hc => ?_) (fun hc => ?_) <;> (try simp only [gt_iff_lt, ge_iff_le, bne_iff_ne, ne_eq, bne_eq_false_iff_eq, beq_iff_eq, beq_eq_false_iff_ne, Bool.not_eq_true', Bool.not_eq_false', decide_eq_true_eq, decide_eq_false_iff_not, List.length_map] at hc)
  · obtain ⟨x, hx⟩ := at_some (xs := s) (i := i) (by omega)
    refine rn rfl ?_
    refine goal_draw' [0, 1] 11 rfl ?_
    refine drn [0, 1, 2, 5, 6, 7] (by kernel_rfl) (by kernel_rfl) rfl rfl ?_
    refine AH_did 3 rfl (by kernel_rfl) (by kernel_rfl) (by kernel_rfl) rfl rfl (dA_index (eQ x) rfl rfl rfl rfl rfl rfl rfl (by omega) (by (try simp); omega) (map_at (by simpa using hx)) rfl) ?_
    refine drn [4] (by kernel_rfl) (by kernel_rfl) rfl rfl ?_
    refine AH_did 8 rfl (by kernel_rfl) (by kernel_rfl) (by kernel_rfl) rfl rfl (dA_index (eQ x) rfl rfl rfl rfl rfl rfl rfl (by omega) (by (try simp); omega) (map_at (by simpa using hx)) rfl) ?_
    refine drn [9] (by kernel_rfl) (by kernel_rfl) rfl rfl ?_
    refine AH_did 10 rfl (by kernel_rfl) (by kernel_rfl) (by kernel_rfl) rfl rfl (dA_eqStruct (b := true) false (.inr ⟨rfl, rfl⟩) rfl rfl rfl rfl rfl rfl (eqParam_b x) (by kernel_rfl) (by kernel_rfl) (by kernel_rfl) rfl) ?_
    refine AH_end (by kernel_rfl) ?_
    refine rn rfl ?_
    refine goal_cond rfl (fun h0 => by cases h0) (fun _ => ?_)
    refine rn rfl ?_
    refine round_keep (s.length - (i + 1)) [5, 3, 2] [0, 1] (by omega) rfl ⟨_, i + 1, wrap64 (by omega) (by omega), by omega, rfl, rfl⟩
  · refine rn rfl (round_ext ?_)
    exact rn rfl (fin_is [] rfl ⟨rfl, rfl⟩)

theorem acc_iff {s : Sig} {f : Flat} (hs : OkS s) (hf : OkF f) : accQ s f = true ↔
    (placesQ s < f.places.length → s.any (kIs 2) = true) ∧ (∀ q ∈ f.named, wrongQ s f.places q = none) ∧ missingQ s (s.mapIdx (giveQ s f.places f.named)) = [] := by
  have hb := bound_closed hs hf.nodup
  unfold accQ bindQ
  rw [hb]
  simp only [closedQ, decide_eq_true_eq, List.append_eq_nil_iff, List.filterMap_eq_nil_iff, and_assoc]
  have hm : manyQ s f.places = [] ↔ (placesQ s < f.places.length → s.any (kIs 2) = true) := by
    unfold manyQ
    split
    · rename_i h
      simp only [Bool.and_eq_true, decide_eq_true_eq, Bool.not_eq_true'] at h
      constructor
      · intro h0; cases h0
      · intro h0; rw [h0 h.1] at h; cases h.2
    · rename_i h
      simp only [true_iff]
      intro h0
      cases ha : s.any (kIs 2) with
      | true => rfl
      | false => exact absurd (by simp [h0, ha]) h
  rw [hm]

theorem give_given {s : Sig} {pl : List Int} {qs : List Pair} {i : Nat} {p : Param} (h : singleQ p = true) :
    (giveQ s pl qs i p).given = (byPl pl i p || (namedQ p && qs.any (nameIs p.name))) := by
  rw [single_kind] at h
  have hf : (qs.find? (nameIs p.name)).isSome = qs.any (nameIs p.name) := by
    cases ha : qs.any (nameIs p.name) with
    | true =>
      rw [List.find?_isSome]
      exact List.any_eq_true.1 ha
    | false =>
      cases hq : qs.find? (nameIs p.name) with
      | none => rfl
      | some q =>
        have h1 := List.mem_of_find?_eq_some hq
        have h2 := List.find?_some hq
        have : qs.any (nameIs p.name) = true := List.any_eq_true.2 ⟨q, h1, h2⟩
        rw [this] at ha; cases ha
  unfold giveQ
  rw [if_neg (by omega)]
  cases hb : byPl pl i p with
  | true =>
    simp only [Bool.not_true, Bool.and_false, Bool.true_or]
    unfold byPl at hb
    simp [place1, hb]
  | false =>
    cases hn : namedQ p with
    | true =>
      simp only [Bool.not_false, Bool.and_self, if_true, Bool.false_or, Bool.true_and]
      rw [← hf]
      cases qs.find? (nameIs p.name) <;> rfl
    | false =>
      simp only [Bool.false_and, Bool.false_or]
      unfold byPl at hb
      have h2 : (p.kind == 2) = false := by simp; omega
      simp [place1, hb, h2, zL]

/-- What is lacking, parameter by parameter. -/
theorem lack_iff {s : Sig} {pl : List Int} {qs : List Pair} : missingQ s (s.mapIdx (giveQ s pl qs)) = [] ↔
    ∀ (i : Nat) (p : Param), s[i]? = some p → singleQ p = true → p.hasD = true ∨ byPl pl i p = true ∨ (namedQ p = true ∧ qs.any (nameIs p.name) = true) := by
  unfold missingQ
  rw [List.filterMap_eq_nil_iff]
  constructor
  · intro h i p hp hsg
    have hz : (p, giveQ s pl qs i p) ∈ s.zip (s.mapIdx (giveQ s pl qs)) := List.mem_of_getElem? (i := i) (by
      rw [List.getElem?_zip_eq_some]; exact ⟨hp, by simp [List.getElem?_mapIdx, hp]⟩)
    have h1 := h _ hz
    unfold lackQ at h1
    simp only [give_given hsg, hsg, Bool.true_and] at h1
    split at h1
    · cases h1
    · rename_i h2
      cases hd : p.hasD with
      | true => exact .inl rfl
      | false =>
        right
        rw [hd] at h2
        simp only [Bool.not_false, Bool.true_and, Bool.not_eq_true', Bool.not_eq_false] at h2
        simpa using h2
  · intro h z hz
    obtain ⟨i, hi⟩ := List.getElem?_of_mem hz
    rw [List.getElem?_zip_eq_some] at hi
    obtain ⟨h1, h2⟩ := hi
    rw [List.getElem?_mapIdx, h1] at h2
    simp only [Option.map_some, Option.some.injEq] at h2
    unfold lackQ
    split
    · rename_i h3
      simp only [Bool.and_eq_true, Bool.not_eq_true'] at h3
      have h4 := h i z.1 h1 h3.1.1
      rw [← h2, give_given h3.1.1] at h3
      rcases h4 with h4 | h4 | ⟨h4, h5⟩
      · rw [h4] at h3; cases h3.1.2
      · rw [h4] at h3; cases h3.2
      · rw [h4, h5] at h3; simp at h3
    · rfl

/-- What is wrong with a name. -/
theorem wrong_iff {s : Sig} {pl : List Int} {q : Pair} : wrongQ s pl q = none ↔
    0 ≤ takesQ s q.name ∧ ∀ p, s[(takesQ s q.name).toNat]? = some p → p.kind ≠ 4 → byPl pl (takesQ s q.name).toNat p = false := by
  unfold wrongQ
  constructor
  · intro h
    split at h
    · cases h
    · rename_i h1
      refine ⟨by omega, fun p hp hk => ?_⟩
      rw [hp] at h
      simp only at h
      rw [if_neg hk] at h
      cases hb : byPl pl (takesQ s q.name).toNat p with
      | false => rfl
      | true => rw [if_pos hb] at h; cases h
  · rintro ⟨h1, h2⟩
    rw [if_neg (by omega)]
    cases hp : s[(takesQ s q.name).toNat]? with
    | none => rfl
    | some p =>
      simp only
      by_cases hk : p.kind = 4
      · rw [if_pos hk]
      · rw [if_neg hk, if_neg (by rw [h2 p hp hk]; simp)]

theorem name_inj {s : Sig} (hs : OkS s) {i j : Nat} {p q : Param} (hp : s[i]? = some p) (hq : s[j]? = some q) (h : p.name = q.name) : i = j := by
  refine (List.getElem?_inj (l := s.map Param.name) (by have := lt_of_some hp; simpa using this) hs.nodup).1 ?_
  rw [List.getElem?_map, List.getElem?_map, hp, hq]
  simp [h]

theorem any_names {qs : List Pair} {n : Str} : qs.any (nameIs n) = true ↔ n ∈ namesOf qs := by
  simp [namesOf, nameIs]

/-- Where a name goes. -/
def goesQ (s : Sig) (n : Str) : Prop := (∃ (i : Nat) (p : Param), s[i]? = some p ∧ namedQ p = true ∧ p.name = n) ∨ ∃ p ∈ s, p.kind = 4

theorem takes_goes {s : Sig} (hs : OkS s) {n : Str} : 0 ≤ takesQ s n ↔ goesQ s n := by
  constructor
  · intro h
    obtain ⟨p, hp, _, hk⟩ := takesQ_some (show ¬ takesQ s n < 0 by omega)
    rcases hk with ⟨h1, h2⟩ | h1
    · exact .inl ⟨_, p, hp, h1, h2⟩
    · exact .inr ⟨p, List.mem_of_getElem? hp, h1⟩
  · intro h
    by_cases hA : ∃ (i : Nat) (p : Param), s[i]? = some p ∧ namedQ p = true ∧ p.name = n
    · obtain ⟨i, p, hp, hn, rfl⟩ := hA
      rw [takes_named hs hp hn]; omega
    · rcases h with h | ⟨p, hp, hk⟩
      · exact absurd h hA
      · have h4 : takesQ s n = idxI (kIs 4) s 0 := by
          cases hf : s.find? (qIs n) with
          | none => simp [takesQ, hf]
          | some q =>
            cases hn : namedQ q with
            | false => simp [takesQ, hf, hn]
            | true =>
              have h1 := List.mem_of_find?_eq_some hf
              have h2 := List.find?_some hf
              obtain ⟨i, hi⟩ := List.getElem?_of_mem h1
              exact absurd ⟨i, q, hi, hn, by simpa [qIs] using h2⟩ hA
        rw [h4]
        exact idxI_ge.2 (List.any_eq_true.2 ⟨p, hp, by simpa [kIs] using hk⟩)

theorem wrong_iff2 {s : Sig} (hs : OkS s) {pl : List Int} {q : Pair} : wrongQ s pl q = none ↔
    goesQ s q.name ∧ ∀ (i : Nat) (p : Param), s[i]? = some p → namedQ p = true → p.name = q.name → byPl pl i p = false := by
  rw [wrong_iff, takes_goes hs]
  constructor
  · rintro ⟨h1, h2⟩
    refine ⟨h1, fun i p hp hn he => ?_⟩
    have ht := takes_named hs hp hn
    rw [he] at ht
    have := h2 p (by rw [ht]; simpa using hp) (by have := named_kind.1 hn; omega)
    rw [ht] at this
    simpa using this
  · rintro ⟨h1, h2⟩
    refine ⟨h1, fun p hp hk => ?_⟩
    obtain ⟨p', hp', _, hk'⟩ := takesQ_some (show ¬ takesQ s q.name < 0 by have := (takes_goes hs).2 h1; omega)
    rw [hp] at hp'
    cases hp'
    rcases hk' with ⟨h3, h4⟩ | h3
    · exact h2 _ p hp h3 h4
    · exact absurd h3 hk

theorem find_isSome {f : Flat} {n : Str} : (f.named.find? (nameIs n)).isSome = f.named.any (nameIs n) := by
  cases ha : f.named.any (nameIs n) with
  | true => rw [List.find?_isSome]; exact List.any_eq_true.1 ha
  | false =>
    cases hq : f.named.find? (nameIs n) with
    | none => rfl
    | some q =>
      have : f.named.any (nameIs n) = true := List.any_eq_true.2 ⟨q, List.mem_of_find?_eq_some hq, List.find?_some hq⟩
      rw [this] at ha; cases ha

theorem kindP_facts (b : Bool) (q : Param) : (kindP b q).name = q.name ∧ (kindP b q).kind = (if q.kind = 1 ∧ b = true then 3 else q.kind) ∧ (kindP b q).hasD = q.hasD ∧ namedQ (kindP b q) = namedQ q := by
  unfold kindP namedQ
  by_cases h1 : q.kind = 1
  · cases b <;> simp [h1]
  · simp [h1]

theorem giveP_facts (f : Flat) (q : Param) : (giveP f q).name = q.name ∧ (giveP f q).kind = q.kind ∧ (giveP f q).hasD = (q.hasD || (namedQ q && f.named.any (nameIs q.name))) := by
  unfold giveP
  rw [← find_isSome]
  cases hn : namedQ q with
  | false => simp
  | true =>
    simp only [if_true]
    cases f.named.find? (nameIs q.name) <;> simp

/-- What becomes of a parameter. -/
structure KeptQ (k : Int) (f : Flat) (i : Nat) (p p' : Param) : Prop where
  name : p'.name = p.name
  kind : p'.kind = if p.kind = 1 ∧ 0 ≤ k ∧ k ≤ i then 3 else p.kind
  hasD : p'.hasD = (p.hasD || (namedQ p && f.named.any (nameIs p.name)))
  place : ¬ (placedQ p = true ∧ i < f.places.length)
  rest : ¬ (p.kind = 2 ∧ 0 ≤ k)

theorem partParam_facts {k : Int} {f : Flat} {i : Nat} {p p' : Param} (h : partParam k f i p = some p') : KeptQ k f i p p' := by
  have hn := partParam_name h
  unfold partParam at h
  split at h
  · cases h
  · rename_i hs
    simp only [Option.some.injEq] at h
    obtain ⟨a1, a2, a3, a4⟩ := kindP_facts (decide (0 ≤ k) && decide (k ≤ i)) p
    obtain ⟨b1, b2, b3⟩ := giveP_facts f (kindP (decide (0 ≤ k) && decide (k ≤ i)) p)
    rw [h] at b1 b2 b3
    refine ⟨hn, ?_, ?_, ?_, ?_⟩
    · rw [b2, a2]; simp
    · rw [b3, a3, a4, a1]
    · rintro ⟨h1, h2⟩; exact hs (by simp [skipP, h1, h2])
    · rintro ⟨h1, h2⟩; exact hs (by simp [skipP, h1, h2])

theorem partParam_keep {k : Int} {f : Flat} {i : Nat} {p : Param} (h1 : ¬ (placedQ p = true ∧ i < f.places.length)) (h2 : ¬ (p.kind = 2 ∧ 0 ≤ k)) : ∃ p', partParam k f i p = some p' := by
  unfold partParam
  rw [if_neg]
  · exact ⟨_, rfl⟩
  · unfold skipP
    simp only [Bool.or_eq_true, Bool.and_eq_true, decide_eq_true_eq, beq_iff_eq]
    rintro (h | h)
    · exact h1 h
    · exact h2 h

theorem psL_split {k : Int} {f : Flat} {s : Sig} (i : Nat) : ∃ r, psL k f s = psL k f (s.take i) ++ r := by
  refine ⟨((s.drop i).zipIdx (0 + (s.take i).length)).filterMap (fun x => partParam k f x.2 x.1), ?_⟩
  conv => lhs; rw [← List.take_append_drop i s]
  unfold psL
  rw [List.zipIdx_append, List.filterMap_append]

/-- The facts of a partial call's signature. -/
structure PsFacts (s : Sig) (pf : Flat) : Prop where
  sig : OkS s
  flat : OkF pf
  out : OkS (psQ s pf)
  part : partQ s pf = true

theorem PsFacts.first {s : Sig} {pf : Flat} (h : PsFacts s pf) (h0 : 0 ≤ atQ s pf) : ∃ (n : Nat) (y : Param), atQ s pf = n ∧ s[n]? = some y ∧ y.kind = 1 ∧ pf.named.any (nameIs y.name) = true ∧ pf.places.length ≤ n := by
  obtain ⟨y, _, hy, hyp, hlt⟩ := idxI_find h0
  have hk := hyp
  simp only [atP, Bool.and_eq_true, beq_iff_eq] at hk
  refine ⟨(atQ s pf).toNat, y, by omega, hy, hk.1, hk.2, ?_⟩
  refine Classical.byContradiction fun hc => ?_
  have := np_at h.part hy (placed_kind.2 (.inr hk.1)) (by unfold atQ at hc; omega)
  rw [hyp] at this; cases this

theorem PsFacts.from {s : Sig} {pf : Flat} (h : PsFacts s pf) {i : Nat} {p : Param} (hp : s[i]? = some p) (hk : p.kind = 1) (hn : pf.named.any (nameIs p.name) = true) : 0 ≤ atQ s pf ∧ atQ s pf ≤ i := by
  have := idxI_le (k := 0) (pred := atP pf) hp (by simp [atP, hk, hn])
  unfold atQ; omega

theorem PsFacts.kinds {s : Sig} {pf : Flat} (h : PsFacts s pf) {i : Nat} {p : Param} (hp : s[i]? = some p) (h0 : 0 ≤ atQ s pf) (h1 : atQ s pf ≤ i) (hk : placedQ p = true) : p.kind = 1 := by
  obtain ⟨n, y, hn, hy, hyk, _, _⟩ := h.first h0
  have := h.sig.sorted (i - n) n y p hy (by rw [show n + (i - n) = i by omega]; exact hp)
  rw [placed_kind] at hk; omega

theorem KeptQ.placed {s : Sig} {pf : Flat} (h : PsFacts s pf) {i : Nat} {p p' : Param} (hp : s[i]? = some p) (hk : KeptQ (atQ s pf) pf i p p') : placedQ p' = true ↔ placedQ p = true ∧ ¬ (0 ≤ atQ s pf ∧ atQ s pf ≤ i) := by
  have h1 := hk.kind
  constructor
  · intro h2
    rw [placed_kind] at h2
    split at h1
    · omega
    · rename_i h3
      have hpp : placedQ p = true := placed_kind.2 (by omega)
      refine ⟨hpp, fun h4 => h3 ⟨h.kinds hp h4.1 h4.2 hpp, h4⟩⟩
  · rintro ⟨h2, h3⟩
    rw [placed_kind] at h2 ⊢
    rw [if_neg (fun h4 => h3 h4.2)] at h1
    omega

theorem KeptQ.named {k : Int} {pf : Flat} {i : Nat} {p p' : Param} (hk : KeptQ k pf i p p') : namedQ p' = namedQ p := by
  have h1 := hk.kind
  have : namedQ p' = true ↔ namedQ p = true := by
    rw [named_kind, named_kind]
    split at h1 <;> omega
  cases h : namedQ p with
  | true => exact this.2 h
  | false =>
    cases h' : namedQ p' with
    | false => rfl
    | true => rw [this.1 h'] at h; cases h

theorem PsFacts.len {s : Sig} {pf : Flat} (h : PsFacts s pf) : ∀ (i : Nat), i ≤ placesQ s → (psL (atQ s pf) pf (s.take i)).length = i - pf.places.length
  | 0, _ => by simp [psL]
  | i + 1, hi => by
    have hP := placesQ_le s
    obtain ⟨p, hp⟩ := at_some (xs := s) (i := i) (by omega)
    have hpl := (h.sig.placed_iff hp).2 (by omega)
    rw [psL_succ hp, List.length_append, PsFacts.len h i (by omega)]
    by_cases hia : i < pf.places.length
    · have : partParam (atQ s pf) pf i p = none := by simp [partParam, skipP, hpl, hia]
      rw [this]; simp; omega
    · obtain ⟨p', hp'⟩ := partParam_keep (k := atQ s pf) (f := pf) (i := i) (p := p) (by omega) (by rw [placed_kind] at hpl; omega)
      rw [hp']; simp; omega

/-- Where a parameter goes. -/
theorem PsFacts.to {s : Sig} {pf : Flat} (h : PsFacts s pf) {i : Nat} {p : Param} (hp : s[i]? = some p) (h1 : ¬ (placedQ p = true ∧ i < pf.places.length)) (h2 : ¬ (p.kind = 2 ∧ 0 ≤ atQ s pf)) :
    ∃ (j : Nat) (p' : Param), (psQ s pf)[j]? = some p' ∧ KeptQ (atQ s pf) pf i p p' ∧ (placedQ p' = true → j + pf.places.length = i) := by
  obtain ⟨p', hp'⟩ := partParam_keep (f := pf) h1 h2
  have hk := partParam_facts hp'
  obtain ⟨r, hr⟩ := psL_split (k := atQ s pf) (f := pf) (s := s) (i + 1)
  rw [psL_succ hp, hp'] at hr
  refine ⟨(psL (atQ s pf) pf (s.take i)).length, p', ?_, hk, fun hpl => ?_⟩
  · unfold psQ
    rw [hr, List.append_assoc, List.getElem?_append_right (by omega)]
    simp
  · have hpp := ((hk.placed h hp).1 hpl).1
    have hi := (h.sig.placed_iff hp).1 hpp
    rw [h.len i (by omega)]
    have := hk.place
    have : ¬ i < pf.places.length := fun h0 => this ⟨hpp, h0⟩
    omega

/-- Where a parameter comes from. -/
theorem PsFacts.of {s : Sig} {pf : Flat} (h : PsFacts s pf) {j : Nat} {p' : Param} (hp : (psQ s pf)[j]? = some p') :
    ∃ (i : Nat) (p : Param), s[i]? = some p ∧ KeptQ (atQ s pf) pf i p p' ∧ (placedQ p' = true → j + pf.places.length = i) := by
  have hm := List.mem_of_getElem? hp
  unfold psQ psL at hm
  rw [List.mem_filterMap] at hm
  obtain ⟨⟨p, i⟩, hq, hr⟩ := hm
  rw [List.mem_zipIdx_iff_getElem?] at hq
  have hk := partParam_facts hr
  obtain ⟨j', p2, hj', hk', hpos⟩ := h.to hq hk.place hk.rest
  have hjj := name_inj h.out hp hj' (by rw [hk.name, hk'.name])
  subst hjj
  rw [hp] at hj'
  cases hj'
  exact ⟨i, p, hq, hk, hpos⟩

section

variable {s : Sig} {pf f : Flat}

end

theorem less_ct (a b : Str) : ACalls pk 140 [.one (.str a), .one (.str b)] [] (fun r o => r = .one (.bool (ltS a b)) ∧ o = []) := by
  refine acalls_of_body Tryz.func140 rfl (by kernel_rfl) rfl ?_
  refine rn rfl ?_
  refine goal_step (step_call [] rfl rfl rfl rfl rfl rfl (isNaN_ct a)) ?_
  rintro σ2 ⟨r, o', ⟨rfl, rfl⟩, hσ⟩
  obtain rfl := Option.some.inj hσ
  clear hσ
  refine rn rfl ?_
  refine goal_guard rfl rfl rfl (fun h => by cases h) (fun _ => ?_)
  exact rn rfl (fin_is [] rfl ⟨rfl, rfl⟩)

theorem insertionSortS_ct (xs : List Str) (kc : Nat) (hl : xs.length ≤ 1048576) :
    ACalls pk 134 [.one (.os 0 0 xs.length kc), .one (.int .i64 0), .one (.int .i64 xs.length)] [ownS xs] (fun r o => r = .tup [] ∧ o = [ownS (isortL ltS xs)]) := by
  refine acalls_of_body Tryz.func134 rfl (by kernel_rfl) rfl ?_
  refine rn rfl ?_
  refine goal_loop_keep (fun m σ => ∃ (n : Int) (i : Nat) (ys : List Str), n = i ∧ 1 ≤ i ∧ m = xs.length + 1 - i ∧ (i ≤ xs.length ∨ xs = []) ∧ ys = isortL ltS (xs.take i) ++ xs.drop i ∧
      σ = ⟨[(6, .one (.int .i64 n)), (2, .one (.int .i64 xs.length)), (1, .one (.int .i64 0)), (0, .one (.os 0 0 xs.length kc))], [ownS ys], []⟩) xs.length [6, 2, 1, 0] [] rfl
    ⟨_, 1, xs, rfl, by omega, by omega, ?_, ?_, rfl⟩ ?_
  · cases xs with
    | nil => exact .inr rfl
    | cons x xs => left; simp
  · cases xs with
    | nil => rfl
    | cons x xs => simp [isortL, insR, sinkR]
  rintro m σ ⟨n, i, ys, rfl, hi, rfl, hix, hys, rfl⟩
  have hylen : ys.length = xs.length := by rw [hys]; simp [isortL_length]; omega
  refine rn rfl ?_
  refine goal_cond rfl (fun h => ?_) (fun h => ?_) <;> simp only [decide_eq_true_eq, decide_eq_false_iff_not] at h
  · obtain ⟨p, hp⟩ := at_some (xs := xs) (i := i) (by omega)
    refine rn rfl ?_
    refine goal_loop_keep (fun m σ => ∃ (q : Int) (A R : List Str), q = A.length ∧ m = A.length ∧ (A ++ p :: R).length = xs.length ∧ sinkR ltS p A.reverse R = isortL ltS (xs.take (i + 1)) ++ xs.drop (i + 1) ∧
        σ = ⟨[(7, .one (.int .i64 q)), (6, .one (.int .i64 i)), (2, .one (.int .i64 xs.length)), (1, .one (.int .i64 0)), (0, .one (.os 0 0 xs.length kc))], [ownS (A ++ p :: R)], []⟩) i [7, 6, 2, 1, 0] [] rfl
      ⟨(i : Int), isortL ltS (xs.take i), xs.drop (i + 1), ?_, ?_, ?_, ?_, ?_⟩ ?_
    · simp [isortL_length]; omega
    · simp [isortL_length]; omega
    · rw [← drop_at hp, ← hys]; exact hylen
    · rw [sinkR_ins, isortL_succ ltS hp]
    · rw [← drop_at hp, ← hys]; rfl
    rintro m σ ⟨q, A, R, rfl, rfl, hlen, hsink, rfl⟩
    refine rn rfl ?_
    refine goal_cut (fun σ' => ∃ b : Bool, (b = true → ∃ A' x, A = A' ++ [x] ∧ ltS p x = true) ∧ (b = false → ∀ A' x, A = A' ++ [x] → ltS p x = false) ∧
      σ' = ⟨[(30, .one (.bool b)), (7, .one (.int .i64 A.length)), (6, .one (.int .i64 i)), (2, .one (.int .i64 xs.length)), (1, .one (.int .i64 0)), (0, .one (.os 0 0 xs.length kc))], [ownS (A ++ p :: R)], []⟩) ?_ ?_
    · refine goal_draw' [0] 15 rfl ?_
      refine drn [0, 1, 2, 3] (by kernel_rfl) (by kernel_rfl) rfl rfl ?_
      refine AH_guard (i := 4) rfl rfl rfl (fun hg => ?_) (fun hg => ?_) <;> simp only [gt_iff_lt, decide_eq_true_eq, decide_eq_false_iff_not] at hg
      · obtain ⟨A', x, rfl⟩ : ∃ A' x, A = A' ++ [x] := by
          rcases List.eq_nil_or_concat A with h0 | ⟨A', x, h0⟩
          · subst h0; simp at hg
          · exact ⟨A', x, by simpa using h0⟩
        have hw : IntKind.i64.wrap ((A' ++ [x]).length - 1) = A'.length := by rw [wrap64] <;> simp <;> simp at hlen <;> omega
        have hlen' : A'.length + 1 + (R.length + 1) = xs.length := by simp at hlen; omega
        have hAp : (A' ++ [x]) ++ p :: R = A' ++ x :: p :: R := by simp
        rw [hAp]
        refine drn [4, 5, 8, 9, 10] (by kernel_rfl) (by kernel_rfl) rfl rfl ?_
        refine AH_did 6 rfl (by kernel_rfl) (by kernel_rfl) (by kernel_rfl) rfl rfl (dA_indexOwn rfl rfl rfl rfl rfl rfl rfl rfl rfl (by omega) (by simp; omega)) ?_
        refine AH_did 7 rfl (by kernel_rfl) (by kernel_rfl) (by kernel_rfl) rfl rfl (dA_loadEl (eS p) rfl rfl rfl rfl (map_at (get_snd _ _ _ _ _ (by simp))) rfl rfl rfl) ?_
        refine AH_did 11 rfl (by kernel_rfl) (by kernel_rfl) (by kernel_rfl) rfl rfl (dA_indexOwn rfl rfl rfl rfl rfl rfl rfl rfl rfl (by rw [hw]; omega) (by rw [hw]; omega)) ?_
        refine AH_did 12 rfl (by kernel_rfl) (by kernel_rfl) (by kernel_rfl) rfl rfl (dA_loadEl (eS x) rfl rfl rfl rfl (map_at (get_fst _ _ _ _ (by rw [hw]; simp))) rfl rfl rfl) ?_
        refine AH_one (i := 13) (by kernel_rfl) (step_call [] rfl rfl rfl rfl rfl rfl (less_ct p x)) (by simp) ?_
        rintro σ2 ⟨r, o', ⟨rfl, rfl⟩, hσ⟩
        obtain rfl := Option.some.inj hσ
        refine drn [14] (by kernel_rfl) (by kernel_rfl) rfl rfl ?_
        refine AH_end (by kernel_rfl) ?_
        refine cut_end [30, 7, 6, 2, 1, 0] [] rfl ⟨ltS p x, fun h => ⟨A', x, rfl, h⟩, fun h => ?_, rfl⟩
        intro A2 x2 h2
        have := List.append_inj' h2 rfl
        simp at this
        obtain ⟨_, rfl⟩ := this
        exact h
      · refine drn [4, 5, 6, 7, 8, 9, 10, 11, 12, 13, 14] (by kernel_rfl) (by kernel_rfl) rfl rfl ?_
        refine AH_end (by kernel_rfl) ?_
        refine cut_end [30, 7, 6, 2, 1, 0] [] rfl ⟨false, (fun h => by cases h), fun _ A' x h2 => ?_, rfl⟩
        subst h2
        simp at hg
    rintro σ' ⟨b, hb1, hb2, rfl⟩
    refine rn rfl ?_
    refine goal_cond rfl (fun h2 => ?_) (fun h2 => ?_)
    · obtain ⟨A', x, rfl, hlt⟩ := hb1 h2
      have hlen' : A'.length + 1 + (R.length + 1) = xs.length := by simp at hlen; omega
      have hw : IntKind.i64.wrap ((A' ++ [x]).length - 1) = A'.length := by rw [wrap64] <;> simp <;> omega
      have hAp : (A' ++ [x]) ++ p :: R = A' ++ x :: p :: R := by simp
      rw [hAp]
      refine rn rfl ?_
      refine goal_cut (fun σ' => σ' = ⟨[(7, .one (.int .i64 (A' ++ [x]).length)), (6, .one (.int .i64 i)), (2, .one (.int .i64 xs.length)), (1, .one (.int .i64 0)), (0, .one (.os 0 0 xs.length kc))], [ownS (A' ++ p :: x :: R)], []⟩) ?_ ?_
      · refine goal_draw' [] 18 rfl ?_
        refine drn [0, 1, 2, 3, 4, 5, 6, 7, 10, 11] (by kernel_rfl) (by kernel_rfl) rfl rfl ?_
        refine AH_did 8 rfl (by kernel_rfl) (by kernel_rfl) (by kernel_rfl) rfl rfl (dA_indexOwn rfl rfl rfl rfl rfl rfl rfl rfl rfl (by rw [hw]; omega) (by rw [hw]; omega)) ?_
        refine AH_did 12 rfl (by kernel_rfl) (by kernel_rfl) (by kernel_rfl) rfl rfl (dA_indexOwn rfl rfl rfl rfl rfl rfl rfl rfl rfl (by omega) (by simp; omega)) ?_
        have g1 : ((A' ++ x :: p :: R).map eS)[0 + (IntKind.i64.wrap ((A' ++ [x]).length - 1)).toNat]? = some (eS x) := map_at (get_fst _ _ _ _ (by rw [hw]; simp))
        have g2 : ((A' ++ x :: p :: R).map eS)[0 + (((A' ++ [x]).length : Nat) : Int).toNat]? = some (eS p) := map_at (get_snd _ _ _ _ _ (by simp))
        refine AH_two (i := 9) (j := 13) (by kernel_rfl) (step_did rfl rfl (dA_loadEl (eS x) rfl rfl rfl rfl g1 rfl rfl rfl)) (mdOk rfl) (step_did rfl rfl (dA_loadEl (eS p) rfl rfl rfl rfl g2 rfl rfl rfl)) (mdOk rfl) ?_ ?_ <;> rintro _ rfl
        · refine AH_one (i := 13) (by kernel_rfl) (step_did rfl rfl (dA_loadEl (eS p) rfl rfl rfl rfl g2 rfl rfl rfl)) (mdOk rfl) ?_
          rintro _ rfl
          refine AH_did 14 rfl (by kernel_rfl) (by kernel_rfl) (by kernel_rfl) rfl rfl (dA_indexOwn rfl rfl rfl rfl rfl rfl rfl rfl rfl (by omega) (by simp; omega)) ?_
          refine AH_oneDid 15 rfl (by kernel_rfl) rfl (dA_storeEl (eS p) (((A' ++ x :: p :: R).set (A'.length + 1) x).map eS) true rfl rfl rfl rfl rfl g2 rfl rfl (by simp [eS]) (by rw [map_set]; simp [patch, eS]) (fun _ => noOwnR_map _ eS_noOwn _)) (mdOk rfl) ?_
          refine AH_did 16 rfl (by kernel_rfl) (by kernel_rfl) (by kernel_rfl) rfl rfl (dA_indexOwn rfl rfl rfl rfl rfl rfl rfl rfl rfl (by rw [hw]; omega) (by rw [hw]; omega)) ?_
          refine AH_oneDid 17 rfl (by kernel_rfl) rfl (dA_storeEl (eS x) ((A' ++ p :: x :: R).map eS) true rfl rfl rfl rfl rfl (map_at (by rw [hw]; simp)) rfl rfl (by simp [eS]) (by rw [← swap_at, map_set, hw]; simp [patch, eS]) (fun _ => noOwnR_map _ eS_noOwn _)) (mdOk rfl) ?_
          refine AH_end (by kernel_rfl) ?_
          exact cut_end [7, 6, 2, 1, 0] [] rfl rfl
        · refine AH_one (i := 9) (by kernel_rfl) (step_did rfl rfl (dA_loadEl (eS x) rfl rfl rfl rfl g1 rfl rfl rfl)) (mdOk rfl) ?_
          rintro _ rfl
          refine AH_did 14 rfl (by kernel_rfl) (by kernel_rfl) (by kernel_rfl) rfl rfl (dA_indexOwn rfl rfl rfl rfl rfl rfl rfl rfl rfl (by omega) (by simp; omega)) ?_
          refine AH_oneDid 15 rfl (by kernel_rfl) rfl (dA_storeEl (eS p) (((A' ++ x :: p :: R).set (A'.length + 1) x).map eS) true rfl rfl rfl rfl rfl g2 rfl rfl (by simp [eS]) (by rw [map_set]; simp [patch, eS]) (fun _ => noOwnR_map _ eS_noOwn _)) (mdOk rfl) ?_
          refine AH_did 16 rfl (by kernel_rfl) (by kernel_rfl) (by kernel_rfl) rfl rfl (dA_indexOwn rfl rfl rfl rfl rfl rfl rfl rfl rfl (by rw [hw]; omega) (by rw [hw]; omega)) ?_
          refine AH_oneDid 17 rfl (by kernel_rfl) rfl (dA_storeEl (eS x) ((A' ++ p :: x :: R).map eS) true rfl rfl rfl rfl rfl (map_at (by rw [hw]; simp)) rfl rfl (by simp [eS]) (by rw [← swap_at, map_set, hw]; simp [patch, eS]) (fun _ => noOwnR_map _ eS_noOwn _)) (mdOk rfl) ?_
          refine AH_end (by kernel_rfl) ?_
          exact cut_end [7, 6, 2, 1, 0] [] rfl rfl
      rintro σ' rfl
      refine rn rfl ?_
      refine round_keep A'.length [7, 6, 2, 1, 0] [] (by simp) rfl ⟨_, A', x :: R, hw, rfl, by simp; omega, ?_, rfl⟩
      rw [← hsink]
      simp [sinkR, hlt]
    · refine rn rfl (round_ext ?_)
      refine rn rfl ?_
      refine round_keep (xs.length + 1 - (i + 1)) [6, 2, 1, 0] [] (by omega) rfl ⟨_, i + 1, A ++ p :: R, wrap64 (by omega) (by omega), by omega, by omega, .inl (by omega), ?_, rfl⟩
      rw [← hsink]
      rcases List.eq_nil_or_concat A with h0 | ⟨A', x, h0⟩
      · subst h0; rfl
      · have h0' : A = A' ++ [x] := by simpa using h0
        have h3 := hb2 h2 A' x h0'
        subst h0'
        simp [sinkR, h3]
  · refine rn rfl (round_ext ?_)
    refine rn rfl (fin_is [] rfl ⟨rfl, ?_⟩)
    have : xs.length ≤ i := by omega
    rw [List.take_of_length_le this, List.drop_eq_nil_of_le this, List.append_nil] at hys
    rw [hys]; rfl

theorem pdqSmallS_ct (xs : List Str) (kc : Nat) (z : Int) (hl : xs.length ≤ 12) :
    ACalls pk 115 [.one (.os 0 0 xs.length kc), .one (.int .i64 0), .one (.int .i64 xs.length), .one (.int .i64 z)] [ownS xs] (fun r o => r = .tup [] ∧ o = [ownS (isortL ltS xs)]) := by
  refine acalls_of_body Tryz.func115 rfl (by kernel_rfl) rfl ?_
  refine rn rfl ?_
  refine goal_loop_keep (fun m σ => σ = ⟨[(2, .one (.int .i64 xs.length)), (1, .one (.int .i64 0)), (0, .one (.os 0 0 xs.length kc))], [ownS xs], []⟩) 0 [2, 1, 0] [] rfl rfl ?_
  rintro m σ rfl
  refine rn rfl ?_
  have hw : IntKind.i64.wrap ((xs.length : Int) - 0) = xs.length := by rw [wrap64] <;> omega
  refine goal_cond rfl (fun h => ?_) (fun h => ?_) <;> simp only [hw, decide_eq_true_eq, decide_eq_false_iff_not] at h
  · refine rn rfl ?_
    refine goal_step (step_call [0] rfl rfl rfl rfl rfl rfl (insertionSortS_ct xs kc (by omega))) ?_
    rintro σ2 ⟨r, o', ⟨rfl, rfl⟩, hσ⟩
    obtain rfl := Option.some.inj hσ
    clear hσ
    refine rn rfl ?_
    exact rn rfl (round_ret (fin_is [] rfl ⟨rfl, rfl⟩))
  · omega

theorem sortSmallS_ct (xs : List Str) (kc : Nat) (hl : xs.length ≤ 12) :
    ACalls pk 93 [.one (.os 0 0 xs.length kc)] [ownS xs] (fun r o => r = .tup [] ∧ o = [ownS (isortL ltS xs)]) := by
  refine acalls_of_body Tryz.func93 rfl (by kernel_rfl) rfl ?_
  refine rn rfl ?_
  have hw : IntKind.u64.wrap (xs.length : Int) = xs.length := by
    simp only [IntKind.wrap, IntKind.bits, IntKind.signed]
    simp
    omega
  refine goal_step (step_call [] rfl rfl rfl rfl rfl (by simp only [hw]; rfl) (len_ct xs.length (by omega))) ?_
  rintro σ2 ⟨r, o', ⟨⟨z, rfl⟩, rfl⟩, hσ⟩
  obtain rfl := Option.some.inj hσ
  refine rn rfl ?_
  refine goal_step (step_call [0] rfl rfl rfl rfl rfl rfl (pdqSmallS_ct xs kc z hl)) ?_
  rintro σ2 ⟨r, o', ⟨rfl, rfl⟩, hσ⟩
  obtain rfl := Option.some.inj hσ
  clear hσ
  refine rn rfl ?_
  exact rn rfl (fin_is [] rfl ⟨rfl, rfl⟩)

end Go.Proofs.YtbaglnfffgonlaaGreatDoor
