/- Part 4 of the proof: an abstract machine over the model; contracts of the functions that the law reaches. -/
import Derived.Test.YthbnieiohbpacaaGreatKTBS3
set_option linter.unusedVariables false
set_option linter.unusedSimpArgs false
namespace Go.Proofs.YthbnieiohbpacaaGreat
open Go
set_option maxRecDepth 100000
set_option maxHeartbeats 1000000

def sameL (x y : Slot) : Bool := x.given == y.given && (decide (x.list = y.list) && decide (isortL ltN x.pairs = isortL ltN y.pairs))

def sameB (a b : Bnds) : Bool := decide (a.length = b.length) && (a.zip b).all (fun z => sameL z.1 z.2)

theorem sameB_iff {a b : Bnds} : sameB a b = true ↔ a.length = b.length ∧ ∀ (i : Nat) (x y : Slot), a[i]? = some x → b[i]? = some y → sameL x y = true := by
  unfold sameB
  rw [Bool.and_eq_true, decide_eq_true_eq, List.all_eq_true]
  refine and_congr_right fun _ => ?_
  constructor
  · intro h i x y hx hy
    exact h (x, y) (List.mem_of_getElem? (i := i) (List.getElem?_zip_eq_some.2 ⟨hx, hy⟩))
  · intro h z hz
    obtain ⟨i, hi⟩ := List.getElem?_of_mem hz
    rw [List.getElem?_zip_eq_some] at hi
    exact h i _ _ hi.1 hi.2

theorem sameL_self (x : Slot) : sameL x x = true := by simp [sameL]

theorem sameB_self (b : Bnds) : sameB b b = true := sameB_iff.2 ⟨rfl, fun i x y hx hy => by rw [hx] at hy; cases hy; exact sameL_self x⟩

structure SmallL (x : Slot) : Prop where
  list : x.list.length ≤ 1048576
  pairs : x.pairs.length ≤ 12

theorem sameC_ct (x y : Slot) (hx : SmallL x) (hy : SmallL y) : ACalls pk 39 [.agg (eL x), .agg (eL y)] [] (fun r o => r = .one (.bool (sameL x y)) ∧ o = []) := by
  have h1 := hx.list
  have h2 := hx.pairs
  have h3 := hy.pairs
  have g1 := isortL_length ltN x.pairs
  refine acalls_of_body Tryz.func39 rfl (by kernel_rfl) rfl ?_
  refine rn rfl ?_
  refine goal_draw' [0, 1] 22 rfl ?_
  refine drn [0, 1, 2, 3, 4, 5] (by kernel_rfl) (by kernel_rfl) rfl rfl ?_
  refine AH_guard (i := 6) rfl rfl rfl (fun h4 => ?_) (fun h4 => ?_) <;> (try simp only [gt_iff_lt, ge_iff_le, bne_iff_ne, ne_eq, bne_eq_false_iff_eq, beq_iff_eq, beq_eq_false_iff_ne, Bool.not_eq_true', Bool.not_eq_false', decide_eq_true_eq, decide_eq_false_iff_not, List.length_map] at h4)
  · refine drn [6, 7, 8, 9] (by kernel_rfl) (by kernel_rfl) rfl rfl ?_
    refine AH_one (i := 10) (by kernel_rfl) (step_call [] rfl rfl rfl rfl rfl rfl (libEqualI_ct x.list y.list (by omega))) (by simp) ?_
    rintro σ2 ⟨r, o', ⟨rfl, rfl⟩, hσ⟩
    obtain rfl := Option.some.inj hσ
    clear hσ
    refine drn [11, 12] (by kernel_rfl) (by kernel_rfl) rfl rfl ?_
    refine AH_guard (i := 13) rfl rfl rfl (fun h5 => ?_) (fun h5 => ?_) <;> (try simp only [gt_iff_lt, ge_iff_le, bne_iff_ne, ne_eq, bne_eq_false_iff_eq, beq_iff_eq, beq_eq_false_iff_ne, Bool.not_eq_true', Bool.not_eq_false', decide_eq_true_eq, decide_eq_false_iff_not, List.length_map] at h5)
    · refine drn [13, 14, 16, 17] (by kernel_rfl) (by kernel_rfl) rfl rfl ?_
      refine AH_one (i := 15) (by kernel_rfl) (step_call [] rfl rfl rfl rfl rfl rfl (byNameD_ct x.pairs (by omega))) (by simp) ?_
      rintro σ2 ⟨r, o', ⟨rfl, rfl⟩, hσ⟩
      obtain rfl := Option.some.inj hσ
      clear hσ
      refine AH_one (i := 18) (by kernel_rfl) (step_call [] rfl rfl rfl rfl rfl rfl (byNameD_ct y.pairs (by omega))) (by simp) ?_
      rintro σ2 ⟨r, o', ⟨rfl, rfl⟩, hσ⟩
      obtain rfl := Option.some.inj hσ
      clear hσ
      refine AH_one (i := 19) (by kernel_rfl) (step_call [] rfl rfl rfl rfl rfl rfl (libEqualP_ct (isortL ltN x.pairs) (isortL ltN y.pairs) (by omega))) (by simp) ?_
      rintro σ2 ⟨r, o', ⟨rfl, rfl⟩, hσ⟩
      obtain rfl := Option.some.inj hσ
      clear hσ
      refine drn [20, 21] (by kernel_rfl) (by kernel_rfl) rfl rfl ?_
      refine AH_end (by kernel_rfl) ?_
      refine rn rfl ?_
      refine rn rfl (fin_is [] rfl ⟨?_, rfl⟩)
      simp [sameL, h4, h5]
    · refine drn [13, 14, 15, 16, 17, 18, 19, 20, 21] (by kernel_rfl) (by kernel_rfl) rfl rfl ?_
      refine AH_end (by kernel_rfl) ?_
      refine rn rfl ?_
      refine rn rfl (fin_is [] rfl ⟨?_, rfl⟩)
      simp [sameL, h5]
  · refine drn [6, 7, 8, 9, 10, 11, 12, 13, 14, 15, 16, 17, 18, 19, 20, 21] (by kernel_rfl) (by kernel_rfl) rfl rfl ?_
    refine AH_end (by kernel_rfl) ?_
    refine rn rfl ?_
    refine rn rfl (fin_is [] rfl ⟨?_, rfl⟩)
    simp [sameL, h4]

theorem equalFunc_ct (a b : Bnds) (f : FuncId) (ha : a.length ≤ 1048576) (h : ∀ x ∈ a, ∀ y ∈ b, ACalls pk f [.agg (eL x), .agg (eL y)] [] (fun r o => r = .one (.bool (sameL x y)) ∧ o = [])) :
    ACalls pk 38 [.one (.fs (a.map eL)), .one (.fs (b.map eL)), .one (.fn f [])] [] (fun r o => r = .one (.bool (sameB a b)) ∧ o = []) := by
  refine acalls_of_body Tryz.func38 rfl (by kernel_rfl) rfl ?_
  refine rn rfl ?_
  refine goal_cond rfl (fun h0 => ?_) (fun h0 => ?_) <;> simp only [List.length_map, bne_iff_ne, ne_eq, bne_eq_false_iff_eq] at h0
  · refine rn rfl (fin_is [] rfl ⟨?_, rfl⟩)
    have : a.length ≠ b.length := by omega
    simp [sameB, this]
  · have hlen : a.length = b.length := by omega
    refine rn rfl ?_
    refine goal_loop_keep (fun m σ => ∃ (q L : Int) (i : Nat), q = i ∧ L = a.length ∧ i ≤ a.length ∧ m = a.length - i ∧ (∀ (j : Nat) (x y : Slot), a[j]? = some x → b[j]? = some y → j < i → sameL x y = true) ∧
        σ = ⟨[(17, .one (.int .i64 q)), (16, .one (.int .i64 L)), (15, .one (.fs (a.map eL))), (2, .one (.fn f [])), (1, .one (.fs (b.map eL)))], [], []⟩) a.length [17, 16, 15, 2, 1] [] rfl
      ⟨_, _, 0, rfl, by simp, by omega, by omega, fun j x y _ _ hj => by omega, rfl⟩ ?_
    rintro m σ ⟨q, L, i, rfl, rfl, hi, rfl, hall, rfl⟩
    refine rn rfl ?_
    refine goal_cond rfl (fun h1 => ?_) (fun h1 => ?_) <;> (try simp only [gt_iff_lt, ge_iff_le, bne_iff_ne, ne_eq, bne_eq_false_iff_eq, beq_iff_eq, beq_eq_false_iff_ne, Bool.not_eq_true', Bool.not_eq_false', decide_eq_true_eq, decide_eq_false_iff_not, List.length_map] at h1)
    · obtain ⟨x, hx⟩ := at_some (xs := a) (i := i) (by omega)
      obtain ⟨y, hy⟩ := at_some (xs := b) (i := i) (by omega)
      refine rn rfl ?_
      refine goal_did rfl rfl (dA_index (eL x) rfl rfl rfl rfl rfl rfl rfl (by omega) (by (try simp); omega) (map_at (by simpa using hx)) rfl) ?_
      refine rn rfl ?_
      refine goal_did rfl rfl (dA_index (eL y) rfl rfl rfl rfl rfl rfl rfl (by omega) (by (try simp); omega) (map_at (by simpa using hy)) rfl) ?_
      refine rn rfl ?_
      refine goal_step (step_call [] rfl rfl rfl rfl rfl rfl (h x (List.mem_of_getElem? hx) y (List.mem_of_getElem? hy))) ?_
      rintro σ2 ⟨r, o', ⟨rfl, rfl⟩, hσ⟩
      obtain rfl := Option.some.inj hσ
      clear hσ
      refine rn rfl ?_
      refine goal_cond rfl (fun h2 => ?_) (fun h2 => ?_) <;> simp only [Bool.not_eq_true', Bool.not_eq_false'] at h2
      · refine rn rfl (round_ret (fin_is [] rfl ⟨?_, rfl⟩))
        cases hs : sameB a b with
        | false => rfl
        | true => rw [(sameB_iff.1 hs).2 i x y hx hy] at h2; cases h2
      · refine rn rfl ?_
        refine round_keep (a.length - (i + 1)) [17, 16, 15, 2, 1] [] (by omega) rfl ⟨_, _, i + 1, wrap64 (by omega) (by omega), rfl, by omega, rfl, fun j x' y' hx' hy' hj => ?_, rfl⟩
        by_cases hji : j = i
        · subst hji
          rw [hx] at hx'; rw [hy] at hy'
          cases hx'; cases hy'
          exact h2
        · exact hall j x' y' hx' hy' (by omega)
    · refine rn rfl (round_ext ?_)
      refine rn rfl (fin_is [] rfl ⟨?_, rfl⟩)
      rw [sameB_iff.2 ⟨hlen, fun j x y hx hy => hall j x y hx hy (by have := lt_of_some hx; omega)⟩]

theorem isameB_ct (a b : Bnds) (ha : a.length ≤ 1048576) (h1 : ∀ x ∈ a, SmallL x) (h2 : ∀ x ∈ b, SmallL x) : ACalls pk 18 [.agg (eBi a), .agg (eBi b)] [] (fun r o => r = .one (.bool (sameB a b)) ∧ o = []) := by
  refine acalls_of_body Tryz.func18 rfl (by kernel_rfl) rfl ?_
  refine rn rfl ?_
  refine goal_step (step_call [] rfl rfl rfl rfl rfl rfl (equalFunc_ct a b _ ha (fun x hx y hy => sameC_ct x y (h1 x hx) (h2 y hy)))) ?_
  rintro σ2 ⟨r, o', ⟨rfl, rfl⟩, hσ⟩
  obtain rfl := Option.some.inj hσ
  clear hσ
  refine rn rfl ?_
  exact rn rfl (fin_is [] rfl ⟨rfl, rfl⟩)

theorem bound_small {s : Sig} {f : Flat} (hs : OkS s) (hf : OkF f) : (boundQ s f).1.length ≤ 8 ∧ ∀ x ∈ (boundQ s f).1, x.list.length ≤ 8 ∧ x.pairs.length ≤ 8 := by
  have h1 := hf.places
  have h2 := hf.named
  rw [bound_closed hs hf.nodup]
  refine ⟨by simp only [closedQ, List.length_mapIdx]; exact hs.len, fun x hx => ?_⟩
  simp only [closedQ, List.mem_mapIdx] at hx
  obtain ⟨i, hi, rfl⟩ := hx
  unfold giveQ
  split
  · have := List.length_filter_le (fun q : Pair => takesQ s q.name == (i : Int)) f.named
    simp; omega
  · split
    · split <;> simp [zL]
    · exact place1_small _ _ _ _ h1

theorem small_of {x : Slot} (h : x.list.length ≤ 8 ∧ x.pairs.length ≤ 8) : SmallL x := ⟨by omega, by omega⟩

theorem OkS.okName {s : Sig} (h : OkS s) {p : Param} (hp : p ∈ s) : okName p.name = true := by
  have := h.params p hp
  simp only [okQ, Bool.and_eq_true] at this
  exact this.1.1.1.1

theorem bind_ok {s : Sig} {f : Flat} (hs : OkS s) (hf : OkF f) : (BindQ s f).2 = accQ s f := by
  unfold BindQ
  rw [fitQ_iff.2 ⟨hs, hf⟩]
  simp only [Bool.true_and]
  split
  · rename_i h; exact h.symm
  · rename_i h; simpa using h

def hd0 (xs : List Int) : Int := xs.headD 0

def stU (st : Flat × Bool) (px : Param × Slot) : Flat × Bool :=
  if px.1.kind = 2 then (⟨st.1.places ++ px.2.list, st.1.named⟩, st.2)
  else if px.1.kind = 4 then (⟨st.1.places, st.1.named ++ px.2.pairs⟩, st.2)
  else if px.2.given = false then (st.1, st.2 && !placedQ px.1)
  else if placedQ px.1 && st.2 then (⟨st.1.places ++ [hd0 px.2.list], st.1.named⟩, st.2)
  else (⟨st.1.places, st.1.named ++ [⟨px.1.name, hd0 px.2.list⟩]⟩, st.2)

def unbQ (s : Sig) (b : Bnds) : Flat := ((s.zip b).foldl stU (zF, true)).1

structure OkB (s : Sig) (b : Bnds) : Prop where
  len : b.length = s.length
  few : s.length ≤ 8
  kinds : ∀ p ∈ s, 0 ≤ p.kind ∧ p.kind ≤ 4
  one : ∀ (i : Nat) (p : Param) (x : Slot), s[i]? = some p → b[i]? = some x → singleQ p = true → x.given = true → ∃ v, x.list = [v]
  size : ∀ x ∈ b, x.list.length ≤ 1048576 ∧ x.pairs.length ≤ 1048576

theorem stU_len {M : Nat} (hM : 1 ≤ M) (st : Flat × Bool) (p : Param) (x : Slot) (h : x.list.length ≤ M ∧ x.pairs.length ≤ M) : (stU st (p, x)).1.places.length ≤ st.1.places.length + M ∧ (stU st (p, x)).1.named.length ≤ st.1.named.length + M := by
  unfold stU
  simp only
  split
  · simp; omega
  · split
    · simp; omega
    · split
      · simp
      · split <;> simp <;> omega

theorem unb_lenM {M : Nat} (hM : 1 ≤ M) (b : Bnds) (hb : ∀ x ∈ b, x.list.length ≤ M ∧ x.pairs.length ≤ M) : ∀ (zs : List (Param × Slot)) (st : Flat × Bool), (∀ z ∈ zs, z.2 ∈ b) → (zs.foldl stU st).1.places.length ≤ st.1.places.length + M * zs.length ∧ (zs.foldl stU st).1.named.length ≤ st.1.named.length + M * zs.length
  | [], st, _ => by simp
  | z :: zs, st, h => by
    have h1 := unb_lenM hM b hb zs (stU st z) (fun y hy => h y (by simp [hy]))
    have h2 := stU_len hM st z.1 z.2 (hb _ (h z (by simp)))
    rw [List.foldl_cons]
    simp only [List.length_cons]
    have e : stU st z = stU st (z.1, z.2) := rfl
    rw [← e] at h2
    rw [Nat.mul_succ]
    omega

theorem unb_len (b : Bnds) (hb : ∀ x ∈ b, x.list.length ≤ 1048576 ∧ x.pairs.length ≤ 1048576) (zs : List (Param × Slot)) (st : Flat × Bool) (h : ∀ z ∈ zs, z.2 ∈ b) :
    (zs.foldl stU st).1.places.length ≤ st.1.places.length + 1048576 * zs.length ∧ (zs.foldl stU st).1.named.length ≤ st.1.named.length + 1048576 * zs.length := unb_lenM (by omega) b hb zs st h

def cntL (x : Slot) : Nat := x.list.length + x.pairs.length

def cntB (b : Bnds) : Nat := (b.map cntL).sum

theorem cntB_bound {M : Nat} : ∀ {b : Bnds}, (∀ x ∈ b, cntL x ≤ M) → cntB b ≤ M * b.length
  | [], _ => by simp [cntB]
  | x :: b, h => by
    have h1 := cntB_bound (b := b) (fun y hy => h y (by simp [hy]))
    have h2 := h x (by simp)
    simp only [cntB, List.map_cons, List.sum_cons, List.length_cons, Nat.mul_succ] at h1 ⊢
    omega

theorem unb_cntZ : ∀ (zs : List (Param × Slot)) (st : Flat × Bool), (∀ z ∈ zs, (0 ≤ z.1.kind ∧ z.1.kind ≤ 4) ∧ (singleQ z.1 = true → z.2.given = true → 1 ≤ z.2.list.length)) →
    (zs.foldl stU st).1.places.length + (zs.foldl stU st).1.named.length ≤ st.1.places.length + st.1.named.length + cntB (zs.map Prod.snd)
  | [], st, _ => by simp
  | z :: zs, st, h => by
    have h1 := unb_cntZ zs (stU st z) (fun y hy => h y (by simp [hy]))
    obtain ⟨hk, ho⟩ := h z (by simp)
    rw [List.foldl_cons]
    have h2 : (stU st z).1.places.length + (stU st z).1.named.length ≤ st.1.places.length + st.1.named.length + cntL z.2 := by
      unfold stU cntL
      split
      · simp; omega
      · rename_i h2
        split
        · simp; omega
        · rename_i h4
          split
          · dsimp only; omega
          · rename_i hg
            have h3 := ho (by rw [single_kind]; omega) (by simpa using hg)
            split <;> simp <;> omega
    simp only [cntB, List.map_cons, List.sum_cons] at h1 ⊢
    omega

theorem unb_cnt {s : Sig} {b : Bnds} (h : OkB s b) : (unbQ s b).places.length + (unbQ s b).named.length ≤ cntB b := by
  have h1 := unb_cntZ (s.zip b) (zF, true) (fun z hz => ⟨h.kinds _ (List.of_mem_zip hz).1, fun hs hg => by
    obtain ⟨i, hi⟩ := List.getElem?_of_mem hz
    rw [List.getElem?_zip_eq_some] at hi
    obtain ⟨v, hv⟩ := h.one i _ _ hi.1 hi.2 hs hg
    rw [hv]; simp⟩)
  rw [List.map_snd_zip (by rw [h.len]; exact Nat.le_refl _)] at h1
  unfold unbQ
  simpa [zF] using h1

theorem kind_split {p : Param} (h : 0 ≤ p.kind ∧ p.kind ≤ 4) : placedQ p = true ∨ p.kind = 2 ∨ p.kind = 3 ∨ p.kind = 4 := by
  rw [placed_kind]; omega

theorem iunbind_ct (s : Sig) (b : Bnds) (h : OkB s b) : ACalls pk 10 [.agg (eG s), .agg (eBi b)] [] (fun r o => r = rF (unbQ s b) ∧ o = oF (unbQ s b)) := by
  have hlen := h.len
  have hfew := h.few
  have hzl : (s.zip b).length = s.length := by simp [hlen]
  refine acalls_of_body Tryz.func10 rfl (by kernel_rfl) rfl ?_
  refine rn rfl ?_
  refine goal_weakCod (Weak.adoptO 3 0 1) ?_
  refine goal_weakCod (Weak.adoptO 3 1 2) ?_
  refine goal_loop_keep (fun m σ => ∃ (q L : Int) (i l1 l2 : Nat) (ob : Bool) (F : Flat), q = i ∧ L = s.length ∧ i ≤ s.length ∧ m = s.length - i ∧ l1 = F.places.length ∧ l2 = F.named.length ∧ (F, ob) = ((s.zip b).take i).foldl stU (zF, true) ∧
      σ = ⟨[(13, .one (.int .i64 q)), (12, .one (.int .i64 L)), (11, .one (.fs (s.map eQ))), (6, .one (.bool ob)), (5, .one (.op 2 0 0)), (4, .one (.op 1 0 0)), (3, .one (.op 0 0 0))],
        [some ⟨1, [eBi b], false, false, true⟩, some ⟨2, [[.fs [], .fs []]], false, false, true⟩, some ⟨2, [[.os 3 0 l1 l1, .os 4 0 l2 l2]], false, false, true⟩, ownI F.places, ownP F.named], []⟩) s.length [13, 12, 11, 6, 5, 4, 3] [1, 2, 3, 4, 5] rfl
    ⟨_, _, 0, 0, 0, _, zF, rfl, ?_, by omega, by omega, rfl, rfl, rfl, rfl⟩ ?_
  · simp
  rintro m σ ⟨q, L, i, l1, l2, ob, F, rfl, rfl, hi, rfl, rfl, rfl, hF, rfl⟩
  have hln := unb_len b h.size ((s.zip b).take i) (zF, true) (fun z hz => by
    have := List.mem_of_mem_take hz
    exact (List.of_mem_zip this).2)
  rw [← hF] at hln
  simp only [List.length_take, hzl, zF, List.length_nil] at hln
  refine rn rfl ?_
  refine goal_cond rfl (fun hc => ?_) (fun hc => ?_) <;> (try simp only [gt_iff_lt, ge_iff_le, bne_iff_ne, ne_eq, bne_eq_false_iff_eq, beq_iff_eq, beq_eq_false_iff_ne, Bool.not_eq_true', Bool.not_eq_false', decide_eq_true_eq, decide_eq_false_iff_not, List.length_map] at hc)
  · obtain ⟨p, hp⟩ := at_some (xs := s) (i := i) (by omega)
    obtain ⟨x, hx⟩ := at_some (xs := b) (i := i) (by omega)
    have hsz := h.size x (List.mem_of_getElem? hx)
    have hz : (s.zip b)[i]? = some (p, x) := by rw [List.getElem?_zip_eq_some]; exact ⟨hp, hx⟩
    have hst : ((s.zip b).take (i + 1)).foldl stU (zF, true) = stU (F, ob) (p, x) := by rw [foldl_take_succ _ _ hz, ← hF]
    have hone := h.one i p x hp hx
    have hk := h.kinds p (List.mem_of_getElem? hp)
    refine rn rfl ?_
    refine goal_did rfl rfl (dA_index (eQ p) rfl rfl rfl rfl rfl rfl rfl (by omega) (by (try simp); omega) (map_at (by simpa using hp)) rfl) ?_
    refine rn rfl ?_
    refine goal_did rfl rfl (dA_index (eL x) rfl rfl rfl rfl rfl rfl rfl (by omega) (by (try simp); omega) (map_at (by simpa using hx)) rfl) ?_
    refine rn rfl ?_
    cases hpl : placedQ p with
    | true =>
      have hk2 : p.kind ≠ 2 ∧ p.kind ≠ 4 := by rw [placed_kind] at hpl; omega
      refine goal_step (step_call [] rfl rfl rfl rfl rfl rfl (iplaced_ct p)) ?_
      rintro σ2 ⟨r, o', ⟨rfl, rfl⟩, hσ⟩
      obtain rfl := Option.some.inj hσ
      clear hσ
      refine rn rfl ?_
      refine goal_guard rfl rfl rfl (fun _ => ?_) (fun h0 => by rw [hpl] at h0; cases h0)
      refine rn rfl ?_
      refine goal_guard rfl rfl rfl (fun ho => ?_) (fun ho => ?_) <;> (try simp only [gt_iff_lt, ge_iff_le, bne_iff_ne, ne_eq, bne_eq_false_iff_eq, beq_iff_eq, beq_eq_false_iff_ne, Bool.not_eq_true', Bool.not_eq_false', decide_eq_true_eq, decide_eq_false_iff_not, List.length_map] at ho)
      · subst ho
        refine rn rfl ?_
        refine goal_cond rfl (fun hg => ?_) (fun hg => ?_) <;> (try simp only [gt_iff_lt, ge_iff_le, bne_iff_ne, ne_eq, bne_eq_false_iff_eq, beq_iff_eq, beq_eq_false_iff_ne, Bool.not_eq_true', Bool.not_eq_false', decide_eq_true_eq, decide_eq_false_iff_not, List.length_map] at hg)
        · obtain ⟨v, hv⟩ := hone (by simp [singleQ, hpl]) hg
          refine rn rfl ?_
          refine goal_cond rfl (fun _ => ?_) (fun h0 => by rw [hg] at h0; cases h0)
          refine rn rfl ?_
          refine goal_did rfl rfl (dA_append (old := (F.places).map eI) (rows := (x.list : List Int).map eI) (((F.places) ++ (x.list : List Int)).map eI) (F.places.length + x.list.length) true (Dst.own rfl rfl rfl rfl rfl (by first | (simp; done) | (simp; omega)) (whole (by first | (simp; done) | (simp; omega)))) (Src.fs rfl) rfl rfl rfl rfl rfl rfl rfl rfl (rows_len eI_len _) (rows_len eI_len _) (by (try simp only [List.length_map, List.length_append, List.length_cons, List.length_nil, List.length_take, List.length_drop]); show _ * 8 ≤ _; omega) (by first | (simp; done) | (simp; omega)) (by simp) (by first | (simp; done) | (simp; omega)) (fun _ => noOwnR_map _ eI_noOwn _)) ?_
          refine rn rfl ?_
          refine round_keep (s.length - (i + 1)) [13, 12, 11, 6, 5, 4, 3] [0, 1, 2, 7, 4] (by omega) rfl ⟨_, _, i + 1, F.places.length + x.list.length, F.named.length, true, ⟨F.places ++ x.list, F.named⟩, wrap64 (by omega) (by omega), rfl, by omega, rfl, by simp, by simp, by rw [hst]; simp [stU, hk2.1, hk2.2, hpl, hg, hv, hd0], rfl⟩
        · refine rn rfl ?_
          refine goal_cond rfl (fun h0 => by simp at h0; omega) (fun _ => ?_)
          refine rn rfl ?_
          refine goal_step (step_call [] rfl rfl rfl rfl rfl rfl (iplaced_ct p)) ?_
          rintro σ2 ⟨r, o', ⟨rfl, rfl⟩, hσ⟩
          obtain rfl := Option.some.inj hσ
          clear hσ
          refine rn rfl ?_
          refine goal_guard rfl rfl rfl (fun _ => ?_) (fun h0 => by rw [hpl] at h0; cases h0)
          refine rn rfl ?_
          refine goal_cond rfl (fun _ => ?_) (fun h0 => by simp [hg] at h0)
          refine rn rfl ?_
          refine round_keep (s.length - (i + 1)) [13, 12, 11, 6, 5, 4, 3] [0, 1, 2, 3, 4] (by omega) rfl ⟨_, _, i + 1, F.places.length, F.named.length, false, F, wrap64 (by omega) (by omega), rfl, by omega, rfl, by simp, by simp, by rw [hst]; simp [stU, hk2.1, hk2.2, hpl, hg], rfl⟩
      · subst ho
        refine rn rfl ?_
        refine goal_cond rfl (fun h0 => by simp at h0; omega) (fun _ => ?_)
        refine rn rfl ?_
        refine goal_step (step_call [] rfl rfl rfl rfl rfl rfl (iplaced_ct p)) ?_
        rintro σ2 ⟨r, o', ⟨rfl, rfl⟩, hσ⟩
        obtain rfl := Option.some.inj hσ
        clear hσ
        refine rn rfl ?_
        refine goal_guard rfl rfl rfl (fun _ => ?_) (fun h0 => by rw [hpl] at h0; cases h0)
        refine rn rfl ?_
        refine goal_cond rfl (fun hg => ?_) (fun hg => ?_) <;> (try simp only [gt_iff_lt, ge_iff_le, bne_iff_ne, ne_eq, bne_eq_false_iff_eq, beq_iff_eq, beq_eq_false_iff_ne, Bool.not_eq_true', Bool.not_eq_false', decide_eq_true_eq, decide_eq_false_iff_not, List.length_map] at hg)
        · refine rn rfl ?_
          refine round_keep (s.length - (i + 1)) [13, 12, 11, 6, 5, 4, 3] [0, 1, 2, 3, 4] (by omega) rfl ⟨_, _, i + 1, F.places.length, F.named.length, false, F, wrap64 (by omega) (by omega), rfl, by omega, rfl, by simp, by simp, by rw [hst]; simp [stU, hk2.1, hk2.2, hpl, hg], rfl⟩
        · refine rn rfl ?_
          refine goal_step (step_call [] rfl rfl rfl rfl rfl rfl (isingle_ct p)) ?_
          rintro σ2 ⟨r, o', ⟨rfl, rfl⟩, hσ⟩
          obtain rfl := Option.some.inj hσ
          clear hσ
          refine rn rfl ?_
          refine goal_guard rfl rfl rfl (fun _ => ?_) (fun h0 => by simp [singleQ, hpl] at h0)
          refine rn rfl ?_
          refine goal_cond rfl (fun _ => ?_) (fun h0 => by rw [hg] at h0; cases h0)
          obtain ⟨v, hv⟩ := hone (by simp [singleQ, hpl]) hg
          refine rn rfl ?_
          refine goal_drawL [2, 5, 6] [12] 13 rfl ?_
          refine drnL [0, 1, 2, 3, 4, 5] (by kernel_rfl) (by kernel_rfl) rfl rfl ?_
          refine AHL_did 6 rfl (by kernel_rfl) (by kernel_rfl) (by kernel_rfl) (by kernel_rfl) rfl rfl (dA_index (eI v) rfl rfl rfl rfl rfl rfl rfl (by omega) (by simp [hv]) (by simp [hv]) rfl) ?_
          refine drnL [7, 8] (by kernel_rfl) (by kernel_rfl) rfl rfl ?_
          refine AHL_oneDid 9 rfl (by kernel_rfl) rfl rfl (dA_step rfl) (mdOk rfl) ?_
          refine AHL_oneDid 10 rfl (by kernel_rfl) rfl rfl (dA_append (old := (F.named).map eP) (rows := ([⟨p.name, v⟩] : List Pair).map eP) (((F.named) ++ ([⟨p.name, v⟩] : List Pair)).map eP) (F.named.length + 1) true (Dst.own rfl rfl rfl rfl rfl (by first | (simp; done) | (simp; omega)) (whole (by first | (simp; done) | (simp; omega)))) (Src.os rfl rfl (Nat.le_refl 1) rfl) rfl rfl rfl rfl rfl rfl rfl rfl (rows_len eP_len _) (rows_len eP_len _) (by (try simp only [List.length_map, List.length_append, List.length_cons, List.length_nil, List.length_take, List.length_drop]); show _ * 24 ≤ _; omega) (by first | (simp; done) | (simp; omega)) (by simp) (by first | (simp; done) | (simp; omega)) (fun _ => noOwnR_map _ eP_noOwn _)) (mdOk rfl) ?_
          refine drnL [11] (by kernel_rfl) (by kernel_rfl) rfl rfl ?_
          refine AHL_lateDid 12 rfl (by kernel_rfl) rfl rfl (dA_step rfl) ?_
          refine AH_end (by kernel_rfl) ?_
          refine rn rfl ?_
          refine round_keep (s.length - (i + 1)) [13, 12, 11, 6, 5, 4, 3] [0, 1, 2, 3, 8] (by omega) rfl ⟨_, _, i + 1, F.places.length, F.named.length + 1, false, ⟨F.places, F.named ++ [⟨p.name, v⟩]⟩, wrap64 (by omega) (by omega), rfl, by omega, rfl, by simp, by simp, by rw [hst]; simp [stU, hk2.1, hk2.2, hpl, hg, hv, hd0], rfl⟩
    | false =>
      refine goal_step (step_call [] rfl rfl rfl rfl rfl rfl (iplaced_ct p)) ?_
      rintro σ2 ⟨r, o', ⟨rfl, rfl⟩, hσ⟩
      obtain rfl := Option.some.inj hσ
      clear hσ
      refine rn rfl ?_
      refine goal_guard rfl rfl rfl (fun h0 => by rw [hpl] at h0; cases h0) (fun _ => ?_)
      refine rn rfl ?_
      refine goal_cond rfl (fun h2 => ?_) (fun h2 => ?_) <;> (try simp only [gt_iff_lt, ge_iff_le, bne_iff_ne, ne_eq, bne_eq_false_iff_eq, beq_iff_eq, beq_eq_false_iff_ne, Bool.not_eq_true', Bool.not_eq_false', decide_eq_true_eq, decide_eq_false_iff_not, List.length_map] at h2)
      · refine rn rfl ?_
        refine goal_did rfl rfl (dA_append (old := (F.places).map eI) (rows := (x.list : List Int).map eI) (((F.places) ++ (x.list : List Int)).map eI) (F.places.length + x.list.length) true (Dst.own rfl rfl rfl rfl rfl (by first | (simp; done) | (simp; omega)) (whole (by first | (simp; done) | (simp; omega)))) (Src.fs rfl) rfl rfl rfl rfl rfl rfl rfl rfl (rows_len eI_len _) (rows_len eI_len _) (by (try simp only [List.length_map, List.length_append, List.length_cons, List.length_nil, List.length_take, List.length_drop]); show _ * 8 ≤ _; omega) (by first | (simp; done) | (simp; omega)) (by simp) (by first | (simp; done) | (simp; omega)) (fun _ => noOwnR_map _ eI_noOwn _)) ?_
        refine rn rfl ?_
        refine round_keep (s.length - (i + 1)) [13, 12, 11, 6, 5, 4, 3] [0, 1, 2, 7, 4] (by omega) rfl ⟨_, _, i + 1, F.places.length + x.list.length, F.named.length, ob, ⟨F.places ++ x.list, F.named⟩, wrap64 (by omega) (by omega), rfl, by omega, rfl, by simp, by simp, by rw [hst]; simp [stU, h2], rfl⟩
      · refine rn rfl ?_
        refine goal_step (step_call [] rfl rfl rfl rfl rfl rfl (iplaced_ct p)) ?_
        rintro σ2 ⟨r, o', ⟨rfl, rfl⟩, hσ⟩
        obtain rfl := Option.some.inj hσ
        clear hσ
        refine rn rfl ?_
        refine goal_guard rfl rfl rfl (fun h0 => by rw [hpl] at h0; cases h0) (fun _ => ?_)
        refine rn rfl ?_
        refine goal_step (step_call [] rfl rfl rfl rfl rfl rfl (isingle_ct p)) ?_
        rintro σ2 ⟨r, o', ⟨rfl, rfl⟩, hσ⟩
        obtain rfl := Option.some.inj hσ
        clear hσ
        refine rn rfl ?_
        refine goal_guard rfl rfl rfl (fun h3 => ?_) (fun h3 => ?_) <;> (try simp only [gt_iff_lt, ge_iff_le, bne_iff_ne, ne_eq, bne_eq_false_iff_eq, beq_iff_eq, beq_eq_false_iff_ne, Bool.not_eq_true', Bool.not_eq_false', decide_eq_true_eq, decide_eq_false_iff_not, List.length_map] at h3)
        · have h4 : p.kind ≠ 4 := by rw [single_kind] at h3; omega
          refine rn rfl ?_
          refine goal_cond rfl (fun hg => ?_) (fun hg => ?_) <;> (try simp only [gt_iff_lt, ge_iff_le, bne_iff_ne, ne_eq, bne_eq_false_iff_eq, beq_iff_eq, beq_eq_false_iff_ne, Bool.not_eq_true', Bool.not_eq_false', decide_eq_true_eq, decide_eq_false_iff_not, List.length_map] at hg)
          · obtain ⟨v, hv⟩ := hone h3 hg
            refine rn rfl ?_
            refine goal_drawL [2, 5, 6] [12] 13 rfl ?_
            refine drnL [0, 1, 2, 3, 4, 5] (by kernel_rfl) (by kernel_rfl) rfl rfl ?_
            refine AHL_did 6 rfl (by kernel_rfl) (by kernel_rfl) (by kernel_rfl) (by kernel_rfl) rfl rfl (dA_index (eI v) rfl rfl rfl rfl rfl rfl rfl (by omega) (by simp [hv]) (by simp [hv]) rfl) ?_
            refine drnL [7, 8] (by kernel_rfl) (by kernel_rfl) rfl rfl ?_
            refine AHL_oneDid 9 rfl (by kernel_rfl) rfl rfl (dA_step rfl) (mdOk rfl) ?_
            refine AHL_oneDid 10 rfl (by kernel_rfl) rfl rfl (dA_append (old := (F.named).map eP) (rows := ([⟨p.name, v⟩] : List Pair).map eP) (((F.named) ++ ([⟨p.name, v⟩] : List Pair)).map eP) (F.named.length + 1) true (Dst.own rfl rfl rfl rfl rfl (by first | (simp; done) | (simp; omega)) (whole (by first | (simp; done) | (simp; omega)))) (Src.os rfl rfl (Nat.le_refl 1) rfl) rfl rfl rfl rfl rfl rfl rfl rfl (rows_len eP_len _) (rows_len eP_len _) (by (try simp only [List.length_map, List.length_append, List.length_cons, List.length_nil, List.length_take, List.length_drop]); show _ * 24 ≤ _; omega) (by first | (simp; done) | (simp; omega)) (by simp) (by first | (simp; done) | (simp; omega)) (fun _ => noOwnR_map _ eP_noOwn _)) (mdOk rfl) ?_
            refine drnL [11] (by kernel_rfl) (by kernel_rfl) rfl rfl ?_
            refine AHL_lateDid 12 rfl (by kernel_rfl) rfl rfl (dA_step rfl) ?_
            refine AH_end (by kernel_rfl) ?_
            refine rn rfl ?_
            refine round_keep (s.length - (i + 1)) [13, 12, 11, 6, 5, 4, 3] [0, 1, 2, 3, 8] (by omega) rfl ⟨_, _, i + 1, F.places.length, F.named.length + 1, ob, ⟨F.places, F.named ++ [⟨p.name, v⟩]⟩, wrap64 (by omega) (by omega), rfl, by omega, rfl, by simp, by simp, by rw [hst]; simp [stU, h2, h4, hpl, hg, hv, hd0], rfl⟩
          · refine rn rfl ?_
            refine goal_cond rfl (fun h0 => by simp at h0; omega) (fun _ => ?_)
            refine rn rfl ?_
            refine round_keep (s.length - (i + 1)) [13, 12, 11, 6, 5, 4, 3] [0, 1, 2, 3, 4] (by omega) rfl ⟨_, _, i + 1, F.places.length, F.named.length, ob, F, wrap64 (by omega) (by omega), rfl, by omega, rfl, by simp, by simp, by rw [hst]; simp [stU, h2, h4, hpl, hg], rfl⟩
        · have h4 : p.kind = 4 := by
            rcases kind_split hk with h0 | h0 | h0 | h0
            · rw [hpl] at h0; cases h0
            · exact absurd h0 h2
            · simp [singleQ, h0] at h3
            · exact h0
          refine rn rfl ?_
          refine goal_cond rfl (fun _ => ?_) (fun h0 => by simp at h0; omega)
          refine rn rfl ?_
          refine goal_did rfl rfl (dA_append (old := (F.named).map eP) (rows := (x.pairs : List Pair).map eP) (((F.named) ++ (x.pairs : List Pair)).map eP) (F.named.length + x.pairs.length) true (Dst.own rfl rfl rfl rfl rfl (by first | (simp; done) | (simp; omega)) (whole (by first | (simp; done) | (simp; omega)))) (Src.fs rfl) rfl rfl rfl rfl rfl rfl rfl rfl (rows_len eP_len _) (rows_len eP_len _) (by (try simp only [List.length_map, List.length_append, List.length_cons, List.length_nil, List.length_take, List.length_drop]); show _ * 24 ≤ _; omega) (by first | (simp; done) | (simp; omega)) (by simp) (by first | (simp; done) | (simp; omega)) (fun _ => noOwnR_map _ eP_noOwn _)) ?_
          refine rn rfl ?_
          refine round_keep (s.length - (i + 1)) [13, 12, 11, 6, 5, 4, 3] [0, 1, 2, 3, 7] (by omega) rfl ⟨_, _, i + 1, F.places.length, F.named.length + x.pairs.length, ob, ⟨F.places, F.named ++ x.pairs⟩, wrap64 (by omega) (by omega), rfl, by omega, rfl, by simp, by simp, by rw [hst]; simp [stU, h4], rfl⟩
  · refine rn rfl (round_ext ?_)
    have hfin : unbQ s b = F := by
      unfold unbQ
      rw [List.take_of_length_le (by omega)] at hF
      rw [← hF]
    rw [hfin]
    refine rn rfl ?_
    refine goal_step (step_callE [] rfl rfl rfl rfl rfl rfl (cons_eq (asFl F) rfl) (copyOf_ct F (by omega) (by omega))) ?_
    rintro σ2 ⟨r, o', ⟨rfl, rfl⟩, hσ⟩
    obtain rfl := Option.some.inj hσ
    clear hσ
    refine rn rfl ?_
    exact rn rfl (fin_is [5, 6] rfl ⟨rfl, rfl⟩)

def SS (xs : List Str) : Prop := xs.Pairwise (fun a b => ltS a b = true)

theorem SS.nodup {xs : List Str} (h : SS xs) : xs.Nodup := List.Pairwise.imp (fun hab he => by rw [he, ltS_irrefl] at hab; cases hab) h

theorem SS.ext {a b : List Str} (ha : SS a) (hb : SS b) (h : ∀ x, x ∈ a ↔ x ∈ b) : a = b := by
  refine List.Perm.eq_of_pairwise (le := fun x y => ltS x y = true) ?_ ha hb ((List.perm_ext_iff_of_nodup ha.nodup hb.nodup).2 h)
  intro x y _ _ h1 h2
  rw [ltS_asymm h1] at h2; cases h2

theorem bindQ_ok {s : Sig} {f : Flat} (h : (BindQ s f).2 = true) : OkS s ∧ OkF f ∧ accQ s f = true ∧ BindQ s f = ((boundQ s f).1, true) := by
  unfold BindQ at h ⊢
  split at h
  · rename_i h1
    have h2 := h1
    simp only [Bool.and_eq_true] at h2
    obtain ⟨hs, hf⟩ := fitQ_iff.1 h2.1
    exact ⟨hs, hf, h2.2, by rw [if_pos h1]⟩
  · cases h

theorem iunbindD_ct (s : Sig) (b : Bnds) (h : OkB s b) : ACalls pk 10 [.agg (eG s), .agg (eBi b)] [] (fun r o => r = .agg (eF (unbQ s b)) ∧ o = []) :=
  (iunbind_ct s b h).told [] (by rintro r o ⟨rfl, rfl⟩; exact ⟨_, _, rfl, asFl _, rfl⟩)

theorem sunbound_ct (s : Sig) (b : Bnds) (h : OkB s b) : ACalls pk 14 [.agg (eG s), .agg (eBi b)] [] (fun r o => r = .agg (eF (unbQ s b)) ∧ o = []) := by
  have hlen := h.len
  have hfew := h.few
  have hzl : (s.zip b).length = s.length := by simp [hlen]
  refine acalls_of_body Tryz.func14 rfl (by kernel_rfl) rfl ?_
  refine rn rfl ?_
  refine goal_loop_keep (fun m σ => ∃ (q : Int) (i l1 l2 : Nat) (ob : Bool) (F : Flat), q = i ∧ i ≤ s.length ∧ m = s.length - i ∧ l1 = F.places.length ∧ l2 = F.named.length ∧ (F, ob) = ((s.zip b).take i).foldl stU (zF, true) ∧
      σ = ⟨[(7, .one (.int .i64 q)), (6, .one (.bool ob)), (5, .one (.op 3 0 0)), (4, .one (.op 2 0 0)), (3, .one (.op 1 0 0)), (2, .one (.op 0 0 0))],
        [some ⟨1, [eG s], false, false, true⟩, some ⟨1, [eBi b], false, false, true⟩, some ⟨2, [[.fs [], .fs []]], false, false, true⟩, some ⟨2, [[.os 4 0 l1 l1, .os 5 0 l2 l2]], false, false, true⟩, ownI F.places, ownP F.named], []⟩) s.length [7, 6, 5, 4, 3, 2] [0, 1, 2, 5, 3, 4] rfl
    ⟨_, 0, 0, 0, _, zF, rfl, by omega, by omega, rfl, rfl, rfl, rfl⟩ ?_
  rintro m σ ⟨q, i, l1, l2, ob, F, rfl, hi, rfl, rfl, rfl, hF, rfl⟩
  have hln := unb_len b h.size ((s.zip b).take i) (zF, true) (fun z hz => by
    have := List.mem_of_mem_take hz
    exact (List.of_mem_zip this).2)
  rw [← hF] at hln
  simp only [List.length_take, hzl, zF, List.length_nil] at hln
  refine rn rfl ?_
  refine goal_cond rfl (fun hc => ?_) (fun hc => ?_) <;> (try simp only [gt_iff_lt, ge_iff_le, bne_iff_ne, ne_eq, bne_eq_false_iff_eq, beq_iff_eq, beq_eq_false_iff_ne, Bool.not_eq_true', Bool.not_eq_false', decide_eq_true_eq, decide_eq_false_iff_not, List.length_map] at hc)
  · obtain ⟨p, hp⟩ := at_some (xs := s) (i := i) (by omega)
    obtain ⟨x, hx⟩ := at_some (xs := b) (i := i) (by omega)
    have hsz := h.size x (List.mem_of_getElem? hx)
    have hz : (s.zip b)[i]? = some (p, x) := by rw [List.getElem?_zip_eq_some]; exact ⟨hp, hx⟩
    have hst : ((s.zip b).take (i + 1)).foldl stU (zF, true) = stU (F, ob) (p, x) := by rw [foldl_take_succ _ _ hz, ← hF]
    have hone := h.one i p x hp hx
    have hk := h.kinds p (List.mem_of_getElem? hp)
    refine rn rfl ?_
    refine goal_did rfl rfl (dA_index (eQ p) rfl rfl rfl rfl rfl rfl rfl (by omega) (by (try simp); omega) (map_at (by simpa using hp)) rfl) ?_
    refine rn rfl ?_
    refine goal_did rfl rfl (dA_index (eL x) rfl rfl rfl rfl rfl rfl rfl (by omega) (by (try simp); omega) (map_at (by simpa using hx)) rfl) ?_
    refine rn rfl ?_
    refine goal_cond rfl (fun h2 => ?_) (fun h2 => ?_) <;> (try simp only [gt_iff_lt, ge_iff_le, bne_iff_ne, ne_eq, bne_eq_false_iff_eq, beq_iff_eq, beq_eq_false_iff_ne, Bool.not_eq_true', Bool.not_eq_false', decide_eq_true_eq, decide_eq_false_iff_not, List.length_map] at h2)
    · refine rn rfl ?_
      refine goal_did rfl rfl (dA_append (old := (F.places).map eI) (rows := (x.list : List Int).map eI) (((F.places) ++ (x.list : List Int)).map eI) (F.places.length + x.list.length) true (Dst.own rfl rfl rfl rfl rfl (by first | (simp; done) | (simp; omega)) (whole (by first | (simp; done) | (simp; omega)))) (Src.fs rfl) rfl rfl rfl rfl rfl rfl rfl rfl (rows_len eI_len _) (rows_len eI_len _) (by (try simp only [List.length_map, List.length_append, List.length_cons, List.length_nil, List.length_take, List.length_drop]); show _ * 8 ≤ _; omega) (by first | (simp; done) | (simp; omega)) (by simp) (by first | (simp; done) | (simp; omega)) (fun _ => noOwnR_map _ eI_noOwn _)) ?_
      refine rn rfl ?_
      refine round_keep (s.length - (i + 1)) [7, 6, 5, 4, 3, 2] [0, 1, 2, 3, 8, 5] (by omega) rfl ⟨_, i + 1, F.places.length + x.list.length, F.named.length, ob, ⟨F.places ++ x.list, F.named⟩, wrap64 (by omega) (by omega), by omega, rfl, by simp, by simp, by rw [hst]; simp [stU, h2], rfl⟩
    · refine rn rfl ?_
      refine goal_cond rfl (fun h4 => ?_) (fun h4 => ?_) <;> (try simp only [gt_iff_lt, ge_iff_le, bne_iff_ne, ne_eq, bne_eq_false_iff_eq, beq_iff_eq, beq_eq_false_iff_ne, Bool.not_eq_true', Bool.not_eq_false', decide_eq_true_eq, decide_eq_false_iff_not, List.length_map] at h4)
      · refine rn rfl ?_
        refine goal_did rfl rfl (dA_append (old := (F.named).map eP) (rows := (x.pairs : List Pair).map eP) (((F.named) ++ (x.pairs : List Pair)).map eP) (F.named.length + x.pairs.length) true (Dst.own rfl rfl rfl rfl rfl (by first | (simp; done) | (simp; omega)) (whole (by first | (simp; done) | (simp; omega)))) (Src.fs rfl) rfl rfl rfl rfl rfl rfl rfl rfl (rows_len eP_len _) (rows_len eP_len _) (by (try simp only [List.length_map, List.length_append, List.length_cons, List.length_nil, List.length_take, List.length_drop]); show _ * 24 ≤ _; omega) (by first | (simp; done) | (simp; omega)) (by simp) (by first | (simp; done) | (simp; omega)) (fun _ => noOwnR_map _ eP_noOwn _)) ?_
        refine rn rfl ?_
        refine round_keep (s.length - (i + 1)) [7, 6, 5, 4, 3, 2] [0, 1, 2, 3, 4, 8] (by omega) rfl ⟨_, i + 1, F.places.length, F.named.length + x.pairs.length, ob, ⟨F.places, F.named ++ x.pairs⟩, wrap64 (by omega) (by omega), by omega, rfl, by simp, by simp, by rw [hst]; simp [stU, h4], rfl⟩
      · have hsg : singleQ p = true := by rw [single_kind]; omega
        refine rn rfl ?_
        refine goal_cond rfl (fun hg => ?_) (fun hg => ?_) <;> (try simp only [gt_iff_lt, ge_iff_le, bne_iff_ne, ne_eq, bne_eq_false_iff_eq, beq_iff_eq, beq_eq_false_iff_ne, Bool.not_eq_true', Bool.not_eq_false', decide_eq_true_eq, decide_eq_false_iff_not, List.length_map] at hg)
        · refine rn rfl ?_
          refine goal_guard rfl rfl rfl (fun ho => ?_) (fun ho => ?_) <;> (try simp only [gt_iff_lt, ge_iff_le, bne_iff_ne, ne_eq, bne_eq_false_iff_eq, beq_iff_eq, beq_eq_false_iff_ne, Bool.not_eq_true', Bool.not_eq_false', decide_eq_true_eq, decide_eq_false_iff_not, List.length_map] at ho)
          · refine rn rfl ?_
            refine goal_step (step_call [] rfl rfl rfl rfl rfl rfl (splaced_ct p)) ?_
            rintro σ2 ⟨r, o', ⟨rfl, rfl⟩, hσ⟩
            obtain rfl := Option.some.inj hσ
            clear hσ
            refine rn rfl ?_
            refine round_keep (s.length - (i + 1)) [7, 6, 5, 4, 3, 2] [0, 1, 2, 3, 4, 5] (by omega) rfl ⟨_, i + 1, F.places.length, F.named.length, !placedQ p, F, wrap64 (by omega) (by omega), by omega, rfl, by simp, by simp, by rw [hst]; simp [stU, h2, h4, hg, ho], rfl⟩
          · refine rn rfl ?_
            refine round_keep (s.length - (i + 1)) [7, 6, 5, 4, 3, 2] [0, 1, 2, 3, 4, 5] (by omega) rfl ⟨_, i + 1, F.places.length, F.named.length, false, F, wrap64 (by omega) (by omega), by omega, rfl, by simp, by simp, by rw [hst]; simp [stU, h2, h4, hg, ho], rfl⟩
        · obtain ⟨v, hv⟩ := hone hsg (by simpa using hg)
          have hg' : x.given = true := by simpa using hg
          refine rn rfl ?_
          refine goal_step (step_call [] rfl rfl rfl rfl rfl rfl (splaced_ct p)) ?_
          rintro σ2 ⟨r, o', ⟨rfl, rfl⟩, hσ⟩
          obtain rfl := Option.some.inj hσ
          clear hσ
          refine rn rfl ?_
          refine goal_guard rfl rfl rfl (fun hpl => ?_) (fun hpl => ?_) <;> (try simp only [gt_iff_lt, ge_iff_le, bne_iff_ne, ne_eq, bne_eq_false_iff_eq, beq_iff_eq, beq_eq_false_iff_ne, Bool.not_eq_true', Bool.not_eq_false', decide_eq_true_eq, decide_eq_false_iff_not, List.length_map] at hpl)
          · refine rn rfl ?_
            refine goal_cond rfl (fun ho => ?_) (fun ho => ?_) <;> (try simp only [gt_iff_lt, ge_iff_le, bne_iff_ne, ne_eq, bne_eq_false_iff_eq, beq_iff_eq, beq_eq_false_iff_ne, Bool.not_eq_true', Bool.not_eq_false', decide_eq_true_eq, decide_eq_false_iff_not, List.length_map] at ho)
            · refine rn rfl ?_
              refine goal_drawL [3, 7] [9] 10 rfl ?_
              refine drnL [0, 1, 2, 3] (by kernel_rfl) (by kernel_rfl) rfl rfl ?_
              refine AHL_did 4 rfl (by kernel_rfl) (by kernel_rfl) (by kernel_rfl) (by kernel_rfl) rfl rfl (dA_index (eI v) rfl rfl rfl rfl rfl rfl rfl (by omega) (by simp [hv]) (by simp [hv]) rfl) ?_
              refine drnL [5] (by kernel_rfl) (by kernel_rfl) rfl rfl ?_
              refine AHL_oneDid 6 rfl (by kernel_rfl) rfl rfl (dA_step rfl) (mdOk rfl) ?_
              refine AHL_oneDid 7 rfl (by kernel_rfl) rfl rfl (dA_append (old := (F.places).map eI) (rows := ([v] : List Int).map eI) (((F.places) ++ ([v] : List Int)).map eI) (F.places.length + 1) true (Dst.own rfl rfl rfl rfl rfl (by first | (simp; done) | (simp; omega)) (whole (by first | (simp; done) | (simp; omega)))) (Src.os rfl rfl (Nat.le_refl 1) rfl) rfl rfl rfl rfl rfl rfl rfl rfl (rows_len eI_len _) (rows_len eI_len _) (by (try simp only [List.length_map, List.length_append, List.length_cons, List.length_nil, List.length_take, List.length_drop]); show _ * 8 ≤ _; omega) (by first | (simp; done) | (simp; omega)) (by simp) (by first | (simp; done) | (simp; omega)) (fun _ => noOwnR_map _ eI_noOwn _)) (mdOk rfl) ?_
              refine drnL [8] (by kernel_rfl) (by kernel_rfl) rfl rfl ?_
              refine AHL_lateDid 9 rfl (by kernel_rfl) rfl rfl (dA_step rfl) ?_
              refine AH_end (by kernel_rfl) ?_
              refine rn rfl ?_
              refine round_keep (s.length - (i + 1)) [7, 6, 5, 4, 3, 2] [0, 1, 2, 3, 9, 5] (by omega) rfl ⟨_, i + 1, F.places.length + 1, F.named.length, ob, ⟨F.places ++ [v], F.named⟩, wrap64 (by omega) (by omega), by omega, rfl, by simp, by simp, by rw [hst]; simp [stU, h2, h4, hg', hpl, ho, hv, hd0], rfl⟩
            · refine rn rfl ?_
              refine goal_drawL [3, 6, 7] [12] 13 rfl ?_
              refine drnL [0, 1, 2, 3, 4, 5] (by kernel_rfl) (by kernel_rfl) rfl rfl ?_
              refine AHL_did 6 rfl (by kernel_rfl) (by kernel_rfl) (by kernel_rfl) (by kernel_rfl) rfl rfl (dA_index (eI v) rfl rfl rfl rfl rfl rfl rfl (by omega) (by simp [hv]) (by simp [hv]) rfl) ?_
              refine drnL [7, 8] (by kernel_rfl) (by kernel_rfl) rfl rfl ?_
              refine AHL_oneDid 9 rfl (by kernel_rfl) rfl rfl (dA_step rfl) (mdOk rfl) ?_
              refine AHL_oneDid 10 rfl (by kernel_rfl) rfl rfl (dA_append (old := (F.named).map eP) (rows := ([⟨p.name, v⟩] : List Pair).map eP) (((F.named) ++ ([⟨p.name, v⟩] : List Pair)).map eP) (F.named.length + 1) true (Dst.own rfl rfl rfl rfl rfl (by first | (simp; done) | (simp; omega)) (whole (by first | (simp; done) | (simp; omega)))) (Src.os rfl rfl (Nat.le_refl 1) rfl) rfl rfl rfl rfl rfl rfl rfl rfl (rows_len eP_len _) (rows_len eP_len _) (by (try simp only [List.length_map, List.length_append, List.length_cons, List.length_nil, List.length_take, List.length_drop]); show _ * 24 ≤ _; omega) (by first | (simp; done) | (simp; omega)) (by simp) (by first | (simp; done) | (simp; omega)) (fun _ => noOwnR_map _ eP_noOwn _)) (mdOk rfl) ?_
              refine drnL [11] (by kernel_rfl) (by kernel_rfl) rfl rfl ?_
              refine AHL_lateDid 12 rfl (by kernel_rfl) rfl rfl (dA_step rfl) ?_
              refine AH_end (by kernel_rfl) ?_
              refine rn rfl ?_
              refine round_keep (s.length - (i + 1)) [7, 6, 5, 4, 3, 2] [0, 1, 2, 3, 4, 9] (by omega) rfl ⟨_, i + 1, F.places.length, F.named.length + 1, ob, ⟨F.places, F.named ++ [⟨p.name, v⟩]⟩, wrap64 (by omega) (by omega), by omega, rfl, by simp, by simp, by rw [hst]; simp [stU, h2, h4, hg', hpl, ho, hv, hd0], rfl⟩
          · refine rn rfl ?_
            refine goal_drawL [3, 6, 7] [12] 13 rfl ?_
            refine drnL [0, 1, 2, 3, 4, 5] (by kernel_rfl) (by kernel_rfl) rfl rfl ?_
            refine AHL_did 6 rfl (by kernel_rfl) (by kernel_rfl) (by kernel_rfl) (by kernel_rfl) rfl rfl (dA_index (eI v) rfl rfl rfl rfl rfl rfl rfl (by omega) (by simp [hv]) (by simp [hv]) rfl) ?_
            refine drnL [7, 8] (by kernel_rfl) (by kernel_rfl) rfl rfl ?_
            refine AHL_oneDid 9 rfl (by kernel_rfl) rfl rfl (dA_step rfl) (mdOk rfl) ?_
            refine AHL_oneDid 10 rfl (by kernel_rfl) rfl rfl (dA_append (old := (F.named).map eP) (rows := ([⟨p.name, v⟩] : List Pair).map eP) (((F.named) ++ ([⟨p.name, v⟩] : List Pair)).map eP) (F.named.length + 1) true (Dst.own rfl rfl rfl rfl rfl (by first | (simp; done) | (simp; omega)) (whole (by first | (simp; done) | (simp; omega)))) (Src.os rfl rfl (Nat.le_refl 1) rfl) rfl rfl rfl rfl rfl rfl rfl rfl (rows_len eP_len _) (rows_len eP_len _) (by (try simp only [List.length_map, List.length_append, List.length_cons, List.length_nil, List.length_take, List.length_drop]); show _ * 24 ≤ _; omega) (by first | (simp; done) | (simp; omega)) (by simp) (by first | (simp; done) | (simp; omega)) (fun _ => noOwnR_map _ eP_noOwn _)) (mdOk rfl) ?_
            refine drnL [11] (by kernel_rfl) (by kernel_rfl) rfl rfl ?_
            refine AHL_lateDid 12 rfl (by kernel_rfl) rfl rfl (dA_step rfl) ?_
            refine AH_end (by kernel_rfl) ?_
            refine rn rfl ?_
            refine round_keep (s.length - (i + 1)) [7, 6, 5, 4, 3, 2] [0, 1, 2, 3, 4, 9] (by omega) rfl ⟨_, i + 1, F.places.length, F.named.length + 1, ob, ⟨F.places, F.named ++ [⟨p.name, v⟩]⟩, wrap64 (by omega) (by omega), by omega, rfl, by simp, by simp, by rw [hst]; simp [stU, h2, h4, hg', hpl, hv, hd0], rfl⟩
  · refine rn rfl (round_ext ?_)
    have hfin : unbQ s b = F := by
      unfold unbQ
      rw [List.take_of_length_le (by omega)] at hF
      rw [← hF]
    rw [hfin]
    refine rn rfl (fin_is [] rfl ⟨?_, rfl⟩)
    exact asFl F

theorem give_one {s : Sig} {pl : List Int} {qs : List Pair} {i : Nat} {p : Param} (h : singleQ p = true) : ((giveQ s pl qs i p).given = true → ∃ v, (giveQ s pl qs i p).list = [v]) ∧ ((giveQ s pl qs i p).given = false → (giveQ s pl qs i p).list = []) ∧
    (p.kind = 0 → (giveQ s pl qs i p).given = decide (i < pl.length)) := by
  rw [single_kind] at h
  unfold giveQ
  rw [if_neg (by omega)]
  split
  · rename_i hn
    simp only [Bool.and_eq_true] at hn
    have hk := named_kind.1 hn.1
    split
    · exact ⟨fun _ => ⟨_, rfl⟩, (fun h0 => by cases h0), (fun h0 => by omega)⟩
    · exact ⟨(fun h0 => by cases h0), (fun _ => rfl), (fun h0 => by omega)⟩
  · unfold place1
    by_cases hb : (placedQ p && decide (i < pl.length)) = true
    · rw [if_pos hb]
      simp only [Bool.and_eq_true] at hb
      exact ⟨fun _ => ⟨_, rfl⟩, (fun h0 => by cases h0), fun _ => hb.2.symm⟩
    · rw [if_neg hb]
      have h2 : (p.kind == 2) = false := by simp; omega
      simp only [h2]
      refine ⟨(fun h0 => by cases h0), (fun _ => rfl), fun h0 => ?_⟩
      have hp : placedQ p = true := placed_kind.2 (.inl h0)
      rw [hp] at hb
      show false = _
      simpa using hb

theorem give_size {s : Sig} {pl : List Int} {qs : List Pair} {i : Nat} {p : Param} (h1 : pl.length ≤ 8) (h2 : qs.length ≤ 8) : (giveQ s pl qs i p).list.length ≤ 1048576 ∧ (giveQ s pl qs i p).pairs.length ≤ 1048576 := by
  have hf := List.length_filter_le (fun q : Pair => takesQ s q.name == (i : Int)) qs
  unfold giveQ
  split
  · simp; omega
  · split
    · split
      · simp
      · simp [zL]
    · unfold place1
      split
      · simp
      · split
        · simp; omega
        · simp [zL]

theorem bound_at {s : Sig} {f : Flat} (hs : OkS s) (hf : OkF f) {i : Nat} {p : Param} {x : Slot} (hp : s[i]? = some p) (hx : (boundQ s f).1[i]? = some x) : x = giveQ s f.places f.named i p := by
  rw [bound_closed hs hf.nodup] at hx
  simp only [closedQ, List.getElem?_mapIdx, hp, Option.map_some, Option.some.injEq] at hx
  exact hx.symm

theorem bound_okB {s : Sig} {f : Flat} (hs : OkS s) (hf : OkF f) : OkB s (boundQ s f).1 := by
  refine ⟨boundQ_len s f, hs.len, fun p hp => hs.kindRange hp, fun i p x hp hx hsg hg => ?_, fun x hx => ?_⟩
  · have := bound_at hs hf hp hx
    subst this
    exact (give_one hsg).1 hg
  · obtain ⟨i, hi⟩ := List.getElem?_of_mem hx
    obtain ⟨p, hp⟩ := at_some (xs := s) (i := i) (by have := lt_of_some hi; rw [boundQ_len] at this; exact this)
    rw [bound_at hs hf hp hi]
    exact give_size hf.places hf.named

/-- What a call that is accepted gives to one parameter. -/
structure Given (s : Sig) (f : Flat) (b : Bnds) : Prop where
  sig : OkS s
  flat : OkF f
  acc : accQ s f = true
  eq : b = (boundQ s f).1

section

variable {s : Sig} {f : Flat} {b : Bnds}

theorem Given.len (h : Given s f b) : b.length = s.length := by rw [h.eq, boundQ_len]

theorem Given.at (h : Given s f b) {i : Nat} {p : Param} {x : Slot} (hp : s[i]? = some p) (hx : b[i]? = some x) : x = giveQ s f.places f.named i p := by
  rw [h.eq] at hx
  exact bound_at h.sig h.flat hp hx

theorem Given.get (h : Given s f b) {i : Nat} {p : Param} (hp : s[i]? = some p) : b[i]? = some (giveQ s f.places f.named i p) := by
  obtain ⟨x, hx⟩ := at_some (xs := b) (i := i) (by rw [h.len]; exact lt_of_some hp)
  rw [hx, h.at hp hx]

/-- A parameter that is found by its place alone has got a value only by its place; then all ahead of it have. -/
theorem Given.before (h : Given s f b) {i j : Nat} {p q : Param} (hp : s[i]? = some p) (hq : s[j]? = some q) (hk : p.kind = 0) (hji : j < i) (hg : (giveQ s f.places f.named i p).given = true) : (giveQ s f.places f.named j q).given = true := by
  have h1 := (give_one (s := s) (pl := f.places) (qs := f.named) (i := i) (single_kind.2 (.inl hk))).2.2 hk
  rw [hg] at h1
  have hlt : i < f.places.length := by simpa using h1.symm
  have hP := (h.sig.placed_iff hp).1 (placed_kind.2 (.inl hk))
  have hpl := (h.sig.placed_iff hq).2 (by omega)
  have hs : singleQ q = true := by rw [single_kind]; rw [placed_kind] at hpl; omega
  rw [give_given hs]
  have : byPl f.places j q = true := by simp [byPl, hpl]; omega
  rw [this]; rfl

/-- The walk of 'unbind', prefix by prefix. -/
structure UnbAt (s : Sig) (b : Bnds) (i : Nat) (F : Flat) (op : Bool) (V R : List Int) (X Y : List Pair) : Prop where
  places : F.places = V ++ R
  named : F.named = X ++ Y
  vlen : V.length ≤ min i (placesQ s)
  vals : ∀ (j : Nat) (x : Slot), j < V.length → b[j]? = some x → x.given = true ∧ V[j]? = some (hd0 x.list)
  opn : op = true → V.length = min i (placesQ s)
  shut : op = false → V.length < placesQ s ∧ V.length < i ∧ ∀ x, b[V.length]? = some x → x.given = false
  rest : ∀ (j : Nat) (p : Param) (x : Slot), j < i → s[j]? = some p → b[j]? = some x → p.kind = 2 → R = x.list
  rest0 : (∀ (j : Nat) (p : Param), j < i → s[j]? = some p → p.kind ≠ 2) → R = []
  map : ∀ (j : Nat) (p : Param) (x : Slot), j < i → s[j]? = some p → b[j]? = some x → p.kind = 4 → Y = x.pairs
  map0 : (∀ (j : Nat) (p : Param), j < i → s[j]? = some p → p.kind ≠ 4) → Y = []
  mem : ∀ q : Pair, q ∈ X ↔ ∃ (j : Nat) (p : Param) (x : Slot), j < i ∧ s[j]? = some p ∧ b[j]? = some x ∧ x.given = true ∧ (p.kind = 3 ∨ (p.kind = 1 ∧ V.length < j)) ∧ q = ⟨p.name, hd0 x.list⟩
  nodup : (namesOf X).Nodup

theorem Given.unbAt (h : Given s f b) : ∀ i, i ≤ s.length → ∃ F op V R X Y, ((s.zip b).take i).foldl stU (zF, true) = (F, op) ∧ UnbAt s b i F op V R X Y
  | 0, _ => ⟨zF, true, [], [], [], [], by simp, ⟨rfl, rfl, by simp, fun j x hj => by simp at hj, fun _ => by simp, (fun h0 => by cases h0), fun j p x hj => by omega, fun _ => rfl, fun j p x hj => by omega, fun _ => rfl, fun q => by
      constructor
      · intro h0; simp at h0
      · rintro ⟨j, p, x, hj, _⟩; omega, by simp [namesOf]⟩⟩
  | i + 1, hi => by
    obtain ⟨F, op, V, R, X, Y, hfold, I⟩ := Given.unbAt h i (by omega)
    obtain ⟨p, hp⟩ := at_some (xs := s) (i := i) (by omega)
    have hx := h.get hp
    generalize hxe : giveQ s f.places f.named i p = x at hx
    have hz : (s.zip b)[i]? = some (p, x) := List.getElem?_zip_eq_some.2 ⟨hp, hx⟩
    have hst : ((s.zip b).take (i + 1)).foldl stU (zF, true) = stU (F, op) (p, x) := by rw [foldl_take_succ _ _ hz, hfold]
    rw [hst]
    have hP := h.sig.placed_iff hp
    have hkr := h.sig.kindRange (List.mem_of_getElem? hp)
    have upto : ∀ (j : Nat) (q : Param), j < i + 1 → s[j]? = some q → j < i ∨ (j = i ∧ q = p) := fun j q hj hq => by
      by_cases hji : j = i
      · subst hji; rw [hp] at hq; cases hq; exact .inr ⟨rfl, rfl⟩
      · exact .inl (by omega)
    have xat : ∀ (j : Nat) (y : Slot), j = i → b[j]? = some y → y = x := fun j y hj hy => by subst hj; rw [hx] at hy; cases hy; rfl
    have before : ∀ (j : Nat) (q : Param), j < i → s[j]? = some q → q.kind ≤ p.kind := fun j q hj hq => h.sig.sorted (i - j) j q p hq (by rw [show j + (i - j) = i by omega]; exact hp)
    have notin : ∀ q ∈ X, q.name ≠ p.name := fun q hq he => by
      obtain ⟨j, r, y, hj, hr, _, _, _, rfl⟩ := (I.mem q).1 hq
      have := name_inj h.sig hr hp he
      omega
    have memStay : (x.given = true → ¬ (p.kind = 3 ∨ (p.kind = 1 ∧ V.length < i))) → ∀ (V' : List Int), V.length ≤ V'.length → (∀ j q, j < i → s[j]? = some q → q.kind = 1 → V.length < j → V'.length < j) → ∀ q : Pair, q ∈ X ↔ ∃ (j : Nat) (p : Param) (x : Slot), j < i + 1 ∧ s[j]? = some p ∧ b[j]? = some x ∧ x.given = true ∧ (p.kind = 3 ∨ (p.kind = 1 ∧ V'.length < j)) ∧ q = ⟨p.name, hd0 x.list⟩ := fun hno V' hV hV' q => by
      rw [I.mem q]
      constructor
      · rintro ⟨j, r, y, hj, hr, hy, hg, hk, rfl⟩
        refine ⟨j, r, y, by omega, hr, hy, hg, ?_, rfl⟩
        rcases hk with hk | ⟨hk, hl⟩
        · exact .inl hk
        · exact .inr ⟨hk, hV' j r hj hr hk hl⟩
      · rintro ⟨j, r, y, hj, hr, hy, hg, hk, rfl⟩
        rcases upto j r hj hr with hji | ⟨rfl, rfl⟩
        · refine ⟨j, r, y, hji, hr, hy, hg, ?_, rfl⟩
          rcases hk with hk | ⟨hk, hl⟩
          · exact .inl hk
          · exact .inr ⟨hk, by omega⟩
        · exfalso
          have := xat j y rfl hy
          subst this
          refine hno hg ?_
          rcases hk with hk | ⟨hk, hl⟩
          · exact .inl hk
          · exact .inr ⟨hk, by omega⟩
    by_cases hk2 : p.kind = 2
    · have hR : R = [] := I.rest0 fun j q hj hq hk => by
        have := h.sig.one hq hp (by omega) (by simp [singleQ, placedQ, hk2]); omega
      have hnp : ¬ i < placesQ s := fun h0 => by have := hP.2 h0; rw [placed_kind] at this; omega
      have hs' : stU (F, op) (p, x) = (⟨F.places ++ x.list, F.named⟩, op) := by simp [stU, hk2]
      rw [hs']
      refine ⟨_, op, V, x.list, X, Y, rfl, ⟨by rw [I.places, hR, List.append_nil], I.named, by have := I.vlen; omega, I.vals, fun h0 => by rw [I.opn h0]; omega, fun h0 => ?_, fun j q y hj hq hy hk => ?_, fun h0 => absurd hk2 (h0 i p (by omega) hp), fun j q y hj hq hy hk => ?_, fun h0 => I.map0 fun j q hj hq => h0 j q (by omega) hq, memStay (fun _ h0 => by omega) V (Nat.le_refl _) (fun j q _ _ _ hl => hl), I.nodup⟩⟩
      · obtain ⟨a1, a2, a3⟩ := I.shut h0
        exact ⟨a1, by omega, a3⟩
      · rcases upto j q hj hq with hji | ⟨rfl, rfl⟩
        · have := h.sig.one hq hp (by omega) (by simp [singleQ, placedQ, hk2]); omega
        · rw [xat j y rfl hy]
      · rcases upto j q hj hq with hji | ⟨rfl, rfl⟩
        · exact I.map j q y hji hq hy hk
        · omega
    by_cases hk4 : p.kind = 4
    · have hY : Y = [] := I.map0 fun j q hj hq hk => by
        have := h.sig.one hq hp (by omega) (by simp [singleQ, placedQ, hk4]); omega
      have hnp : ¬ i < placesQ s := fun h0 => by have := hP.2 h0; rw [placed_kind] at this; omega
      have hs' : stU (F, op) (p, x) = (⟨F.places, F.named ++ x.pairs⟩, op) := by simp [stU, hk4]
      rw [hs']
      refine ⟨_, op, V, R, X, x.pairs, rfl, ⟨I.places, by rw [I.named, hY, List.append_nil], by have := I.vlen; omega, I.vals, fun h0 => by rw [I.opn h0]; omega, fun h0 => ?_, fun j q y hj hq hy hk => ?_, fun h0 => I.rest0 fun j q hj hq => h0 j q (by omega) hq, fun j q y hj hq hy hk => ?_, fun h0 => absurd hk4 (h0 i p (by omega) hp), memStay (fun _ h0 => by omega) V (Nat.le_refl _) (fun j q _ _ _ hl => hl), I.nodup⟩⟩
      · obtain ⟨a1, a2, a3⟩ := I.shut h0
        exact ⟨a1, by omega, a3⟩
      · rcases upto j q hj hq with hji | ⟨rfl, rfl⟩
        · exact I.rest j q y hji hq hy hk
        · omega
      · rcases upto j q hj hq with hji | ⟨rfl, rfl⟩
        · have := h.sig.one hq hp (by omega) (by simp [singleQ, placedQ, hk4]); omega
        · rw [xat j y rfl hy]
    have restStay : ∀ (j : Nat) (q : Param) (y : Slot), j < i + 1 → s[j]? = some q → b[j]? = some y → q.kind = 2 → R = y.list := fun j q y hj hq hy hk => by
      rcases upto j q hj hq with hji | ⟨rfl, rfl⟩
      · exact I.rest j q y hji hq hy hk
      · exact absurd hk hk2
    have rest0Stay : (∀ (j : Nat) (q : Param), j < i + 1 → s[j]? = some q → q.kind ≠ 2) → R = [] := fun h0 => I.rest0 fun j q hj hq => h0 j q (by omega) hq
    have mapStay : ∀ (j : Nat) (q : Param) (y : Slot), j < i + 1 → s[j]? = some q → b[j]? = some y → q.kind = 4 → Y = y.pairs := fun j q y hj hq hy hk => by
      rcases upto j q hj hq with hji | ⟨rfl, rfl⟩
      · exact I.map j q y hji hq hy hk
      · exact absurd hk hk4
    have map0Stay : (∀ (j : Nat) (q : Param), j < i + 1 → s[j]? = some q → q.kind ≠ 4) → Y = [] := fun h0 => I.map0 fun j q hj hq => h0 j q (by omega) hq
    have hsg : singleQ p = true := single_kind.2 (by omega)
    cases hg : x.given with
    | false =>
      have hs' : stU (F, op) (p, x) = (F, op && !placedQ p) := by simp [stU, hk2, hk4, hg]
      rw [hs']
      refine ⟨_, _, V, R, X, Y, rfl, ⟨I.places, I.named, by have := I.vlen; omega, I.vals, fun h0 => ?_, fun h0 => ?_, restStay, rest0Stay, mapStay, map0Stay, memStay (fun h0 => by rw [hg] at h0; cases h0) V (Nat.le_refl _) (fun j q _ _ _ hl => hl), I.nodup⟩⟩
      · simp only [Bool.and_eq_true, Bool.not_eq_true'] at h0
        have hnp : ¬ i < placesQ s := fun h1 => by rw [hP.2 h1] at h0; cases h0.2
        rw [I.opn h0.1]; omega
      · cases ho : op with
        | false =>
          obtain ⟨a1, a2, a3⟩ := I.shut ho
          exact ⟨a1, by omega, a3⟩
        | true =>
          rw [ho] at h0
          simp only [Bool.true_and, Bool.not_eq_false'] at h0
          have hip := hP.1 h0
          have hv := I.opn ho
          have hv' : V.length = i := by omega
          refine ⟨by omega, by omega, fun y hy => ?_⟩
          rw [hv'] at hy
          rw [xat i y rfl hy]; exact hg
    | true =>
      by_cases hpo : (placedQ p && op) = true
      · have hs' : stU (F, op) (p, x) = (⟨F.places ++ [hd0 x.list], F.named⟩, op) := by simp [stU, hk2, hk4, hg, hpo]
        rw [hs']
        simp only [Bool.and_eq_true] at hpo
        have hip := hP.1 hpo.1
        have hv := I.opn hpo.2
        have hv' : V.length = i := by omega
        have hR : R = [] := I.rest0 fun j q hj hq hk => by
          have := before j q hj hq
          have h9 := hpo.1
          rw [placed_kind] at h9; omega
        refine ⟨_, op, V ++ [hd0 x.list], R, X, Y, rfl, ⟨by rw [I.places, hR]; simp, I.named, by simp; omega, fun j y hj hy => ?_, fun _ => by simp; omega, fun h0 => (by rw [hpo.2] at h0; cases h0), restStay, rest0Stay, mapStay, map0Stay, ?_, I.nodup⟩⟩
        · simp only [List.length_append, List.length_cons, List.length_nil] at hj
          by_cases hjv : j < V.length
          · obtain ⟨a1, a2⟩ := I.vals j y hjv hy
            exact ⟨a1, by rw [List.getElem?_append_left hjv]; exact a2⟩
          · have hji : j = i := by omega
            have := xat j y hji hy
            subst this
            exact ⟨hg, by rw [List.getElem?_append_right (by omega)]; simp [hji, hv']⟩
        · refine memStay (fun _ h0 => ?_) (V ++ [hd0 x.list]) (by simp) (fun j q hj _ _ hl => by omega)
          have h9 := hpo.1
          rw [placed_kind] at h9
          omega
      · have hs' : stU (F, op) (p, x) = (⟨F.places, F.named ++ [⟨p.name, hd0 x.list⟩]⟩, op) := by simp [stU, hk2, hk4, hg, hpo]
        rw [hs']
        have hY : Y = [] := I.map0 fun j q hj hq hk => by
          have := before j q hj hq; omega
        have hkk : p.kind = 3 ∨ (p.kind = 1 ∧ V.length < i) := by
          by_cases hk3 : p.kind = 3
          · exact .inl hk3
          · have hpl : placedQ p = true := by rw [placed_kind]; rw [single_kind] at hsg; omega
            have ho : op = false := by
              cases ho : op with
              | false => rfl
              | true => rw [hpl, ho] at hpo; exact absurd rfl hpo
            obtain ⟨a1, a2, a3⟩ := I.shut ho
            refine .inr ⟨?_, a2⟩
            refine Classical.byContradiction fun hk1 => ?_
            have hk0 : p.kind = 0 := by rw [placed_kind] at hpl; omega
            obtain ⟨q, hq⟩ := at_some (xs := s) (i := V.length) (by omega)
            have hgq := h.before hp hq hk0 a2 (by rw [hxe]; exact hg)
            have := a3 _ (h.get hq)
            rw [hgq] at this; cases this
        refine ⟨_, op, V, R, X ++ [⟨p.name, hd0 x.list⟩], Y, rfl, ⟨I.places, by rw [I.named, hY]; simp, by have := I.vlen; omega, I.vals, fun h0 => ?_, fun h0 => ?_, restStay, rest0Stay, mapStay, map0Stay, fun q => ?_, ?_⟩⟩
        · have hnp : ¬ i < placesQ s := fun h1 => by rw [hP.2 h1, h0] at hpo; exact hpo rfl
          rw [I.opn h0]; omega
        · obtain ⟨a1, a2, a3⟩ := I.shut h0
          exact ⟨a1, by omega, a3⟩
        · rw [List.mem_append, List.mem_singleton, I.mem q]
          constructor
          · rintro (⟨j, r, y, hj, hr, hy, hgy, hk, rfl⟩ | rfl)
            · exact ⟨j, r, y, by omega, hr, hy, hgy, hk, rfl⟩
            · exact ⟨i, p, x, by omega, hp, hx, hg, hkk, rfl⟩
          · rintro ⟨j, r, y, hj, hr, hy, hgy, hk, rfl⟩
            rcases upto j r hj hr with hji | ⟨rfl, rfl⟩
            · exact .inl ⟨j, r, y, hji, hr, hy, hgy, hk, rfl⟩
            · right; rw [xat j y rfl hy]
        · unfold namesOf
          rw [List.map_append, List.map_cons, List.map_nil]
          refine List.nodup_append.2 ⟨I.nodup, by simp, fun a ha c hc => ?_⟩
          simp only [List.mem_singleton] at hc
          obtain ⟨q, hq, rfl⟩ := List.mem_map.1 ha
          rw [hc]
          exact notin q hq

end

theorem find_uniq {qs : List Pair} {q : Pair} (hnd : (namesOf qs).Nodup) (hq : q ∈ qs) : qs.find? (nameIs q.name) = some q := by
  cases h : qs.find? (nameIs q.name) with
  | none =>
    rw [List.find?_eq_none] at h
    exact absurd (by simp [nameIs]) (h q hq)
  | some r =>
    have h1 := List.mem_of_find?_eq_some h
    have h2 := List.find?_some h
    simp only [nameIs, beq_iff_eq] at h2
    obtain ⟨i, hi⟩ := List.getElem?_of_mem h1
    obtain ⟨j, hj⟩ := List.getElem?_of_mem hq
    have hij : i = j := by
      refine (List.getElem?_inj (l := namesOf qs) (by have := lt_of_some hi; simpa [namesOf] using this) hnd).1 ?_
      unfold namesOf
      rw [List.getElem?_map, List.getElem?_map, hi, hj]
      simp [h2]
    subst hij
    rw [hi] at hj
    exact hj

section

variable {s : Sig} {f g : Flat}

end

theorem sub_length {α : Type} [DecidableEq α] : ∀ (xs ys : List α), xs.Nodup → (∀ x ∈ xs, x ∈ ys) → xs.length ≤ ys.length
  | [], ys, _, _ => by simp
  | x :: xs, ys, hd, hm => by
    rw [List.nodup_cons] at hd
    have h1 := sub_length xs (ys.erase x) hd.2 fun y hy => by
      have hne : y ≠ x := fun h0 => hd.1 (h0 ▸ hy)
      exact (List.mem_erase_of_ne hne).2 (hm y (by simp [hy]))
    have h2 := List.length_erase_of_mem (hm x (by simp))
    have h3 : 0 < ys.length := List.length_pos_of_mem (hm x (by simp))
    simp only [List.length_cons]
    omega

theorem give_rest {s : Sig} {pl : List Int} {qs : List Pair} {i : Nat} {p : Param} (hk : p.kind = 2) : giveQ s pl qs i p = ⟨false, pl.drop (placesQ s), []⟩ := by
  unfold giveQ
  rw [if_neg (by omega)]
  have h1 : namedQ p = false := by simp [namedQ, hk]
  have h2 : placedQ p = false := by simp [placedQ, hk]
  rw [h1]
  simp [place1, h2, hk]

theorem give_single {s : Sig} {pl : List Int} {qs : List Pair} {i : Nat} {p : Param} (h : singleQ p = true) : giveQ s pl qs i p =
    if byPl pl i p then ⟨true, [pl.getD i 0], []⟩ else if namedQ p then (match qs.find? (nameIs p.name) with
      | some q => ⟨true, [q.value], []⟩
      | none => zL) else zL := by
  rw [single_kind] at h
  unfold giveQ
  rw [if_neg (by omega)]
  cases hb : byPl pl i p with
  | true =>
    have hb' := hb
    unfold byPl at hb'
    simp [place1, hb']
  | false =>
    cases hn : namedQ p with
    | true =>
      cases qs.find? (nameIs p.name) <;> simp
    | false =>
      have hb' := hb
      unfold byPl at hb'
      have h2 : (p.kind == 2) = false := by simp; omega
      simp [place1, hb', h2]

theorem give_shape {s : Sig} {pl : List Int} {qs : List Pair} {i : Nat} {p : Param} (h : singleQ p = true) :
    ((giveQ s pl qs i p).given = true → giveQ s pl qs i p = ⟨true, [hd0 (giveQ s pl qs i p).list], []⟩) ∧ ((giveQ s pl qs i p).given = false → giveQ s pl qs i p = zL) := by
  rw [give_single h]
  split
  · simp [hd0]
  · split
    · split
      · simp [hd0]
      · simp [zL]
    · simp [zL]

theorem give_vals {s : Sig} {f : Flat} (hf : OkF f) {i : Nat} {p : Param} : ∀ v ∈ (giveQ s f.places f.named i p).list, okVal v = true := by
  intro v hv
  unfold giveQ at hv
  split at hv
  · simp at hv
  · split at hv
    · split at hv
      · rename_i q hq
        simp only [List.mem_singleton] at hv
        subst hv
        have := hf.pairs q (List.mem_of_find?_eq_some hq)
        simp only [okPair, Bool.and_eq_true] at this
        exact this.2
      · simp [zL] at hv
    · unfold place1 at hv
      split at hv
      · rename_i h1
        simp only [Bool.and_eq_true, decide_eq_true_eq] at h1
        simp only [List.mem_singleton] at hv
        subst hv
        rw [List.getD_eq_getElem?_getD, List.getElem?_eq_getElem h1.2]
        exact hf.vals _ (List.getElem_mem h1.2)
      · split at hv
        · exact hf.vals v (List.mem_of_mem_drop hv)
        · simp [zL] at hv

section

variable {s : Sig} {f : Flat} {b : Bnds}

theorem Given.unb (h : Given s f b) : ∃ op V R X Y, UnbAt s b s.length (unbQ s b) op V R X Y := by
  obtain ⟨F, op, V, R, X, Y, hfold, I⟩ := h.unbAt s.length (Nat.le_refl _)
  refine ⟨op, V, R, X, Y, ?_⟩
  have : unbQ s b = F := by
    unfold unbQ
    rw [List.take_of_length_le (by simp [h.len])] at hfold
    rw [hfold]
  rw [this]; exact I

theorem Given.gap (h : Given s f b) {op : Bool} {V R : List Int} {X Y : List Pair} {F : Flat} (I : UnbAt s b s.length F op V R X Y) (hlt : V.length < placesQ s) :
    f.places.length ≤ V.length ∧ R = [] ∧ ∀ x, b[V.length]? = some x → x.given = false := by
  have hPl := placesQ_le s
  have ho : op = false := by
    cases ho : op with
    | false => rfl
    | true => have := I.opn ho; omega
  obtain ⟨a1, a2, a3⟩ := I.shut ho
  obtain ⟨q, hq⟩ := at_some (xs := s) (i := V.length) (by omega)
  have hpl := (h.sig.placed_iff hq).2 hlt
  have hg := a3 _ (h.get hq)
  rw [give_given (by rw [single_kind]; rw [placed_kind] at hpl; omega)] at hg
  simp only [Bool.or_eq_false_iff] at hg
  have hle : f.places.length ≤ V.length := by
    have := hg.1
    unfold byPl at this
    rw [hpl] at this
    simpa using this
  refine ⟨hle, ?_, a3⟩
  by_cases h2 : ∃ (j : Nat) (p : Param), s[j]? = some p ∧ p.kind = 2
  · obtain ⟨j, p, hp, hk⟩ := h2
    rw [I.rest j p _ (lt_of_some hp) hp (h.get hp) hk, give_rest hk]
    exact List.drop_eq_nil_of_le (by omega)
  · exact I.rest0 fun j p _ hp hk => h2 ⟨j, p, hp, hk⟩

theorem Given.mapOf (h : Given s f b) {op : Bool} {V R : List Int} {X Y : List Pair} {F : Flat} (I : UnbAt s b s.length F op V R X Y) {q : Pair} (hq : q ∈ Y) :
    ∃ (j : Nat) (p : Param), s[j]? = some p ∧ p.kind = 4 ∧ takesQ s q.name = (j : Int) ∧ q ∈ f.named := by
  by_cases h4 : ∃ (j : Nat) (p : Param), s[j]? = some p ∧ p.kind = 4
  · obtain ⟨j, p, hp, hk⟩ := h4
    have hY := I.map j p _ (lt_of_some hp) hp (h.get hp) hk
    unfold giveQ at hY
    rw [if_pos hk] at hY
    simp only at hY
    rw [hY, List.mem_filter] at hq
    exact ⟨j, p, hp, hk, by simpa using hq.2, hq.1⟩
  · have := I.map0 fun j p _ hp hk => h4 ⟨j, p, hp, hk⟩
    rw [this] at hq; cases hq

theorem Given.again (h : Given s f b) : Given s (unbQ s b) b := by
  obtain ⟨op, V, R, X, Y, I⟩ := h.unb
  have hPl := placesQ_le s
  have hsl := h.sig.len
  have hfp := h.flat.places
  have hfn := h.flat.named
  have hV : V.length ≤ placesQ s := by have := I.vlen; omega
  have gap := fun hlt => h.gap I hlt
  have xmem : ∀ q ∈ X, ∃ (j : Nat) (p : Param), s[j]? = some p ∧ namedQ p = true ∧ q.name = p.name ∧ (giveQ s f.places f.named j p).given = true ∧ (p.kind = 3 ∨ (p.kind = 1 ∧ V.length < j)) ∧ q.value = hd0 (giveQ s f.places f.named j p).list := fun q hq => by
    obtain ⟨j, p, x, _, hp, hx, hg, hk, rfl⟩ := (I.mem q).1 hq
    have := h.at hp hx
    subst this
    exact ⟨j, p, hp, named_kind.2 (by omega), rfl, hg, hk, rfl⟩
  have hRsub : ∀ v ∈ R, okVal v = true := fun v hv => by
    by_cases h2 : ∃ (j : Nat) (p : Param), s[j]? = some p ∧ p.kind = 2
    · obtain ⟨j, p, hp, hk⟩ := h2
      rw [I.rest j p _ (lt_of_some hp) hp (h.get hp) hk] at hv
      exact give_vals h.flat v hv
    · rw [I.rest0 fun j p _ hp hk => h2 ⟨j, p, hp, hk⟩] at hv; cases hv
  have hRlen : V.length + R.length ≤ 8 := by
    by_cases h2 : ∃ (j : Nat) (p : Param), s[j]? = some p ∧ p.kind = 2
    · obtain ⟨j, p, hp, hk⟩ := h2
      have hR := I.rest j p _ (lt_of_some hp) hp (h.get hp) hk
      rw [give_rest hk] at hR
      have : R.length = f.places.length - placesQ s := by rw [hR]; simp
      omega
    · rw [I.rest0 fun j p _ hp hk => h2 ⟨j, p, hp, hk⟩]; simp; omega
  have hdis : ∀ q ∈ X, ∀ r ∈ Y, q.name ≠ r.name := fun q hq r hr he => by
    obtain ⟨j, p, hp, hn, hqn, _⟩ := xmem q hq
    obtain ⟨k, p', hp', hk', ht, _⟩ := h.mapOf I hr
    have := takes_named h.sig hp hn
    rw [← hqn, he, ht] at this
    have hjk : k = j := by omega
    subst hjk
    rw [hp] at hp'; cases hp'
    rw [named_kind] at hn; omega
  have hYnd : (namesOf Y).Nodup := by
    by_cases h4 : ∃ (j : Nat) (p : Param), s[j]? = some p ∧ p.kind = 4
    · obtain ⟨j, p, hp, hk⟩ := h4
      have hY := I.map j p _ (lt_of_some hp) hp (h.get hp) hk
      unfold giveQ at hY
      rw [if_pos hk] at hY
      simp only at hY
      rw [hY]
      exact h.flat.nodup.sublist (List.filter_sublist.map _)
    · rw [I.map0 fun j p _ hp hk => h4 ⟨j, p, hp, hk⟩]; simp [namesOf]
  have hnd : (namesOf (X ++ Y)).Nodup := by
    unfold namesOf
    rw [List.map_append]
    refine List.nodup_append.2 ⟨I.nodup, hYnd, fun a ha c hc he => ?_⟩
    obtain ⟨q, hq, rfl⟩ := List.mem_map.1 ha
    obtain ⟨r, hr, rfl⟩ := List.mem_map.1 hc
    exact hdis q hq r hr he
  have xnamed : ∀ q ∈ X, q.name ∈ namesOf f.named := fun q hq => by
    obtain ⟨j, p, hp, hn, hqn, hg, hk, _⟩ := xmem q hq
    rw [give_given (single_kind.2 (by omega))] at hg
    simp only [Bool.or_eq_true, Bool.and_eq_true] at hg
    rcases hg with hg | hg
    · exfalso
      simp only [byPl, Bool.and_eq_true, decide_eq_true_eq] at hg
      have hjP := (h.sig.placed_iff hp).1 hg.1
      rcases hk with hk | ⟨hk, hl⟩
      · have := hg.1; rw [placed_kind] at this; omega
      · have := (gap (by omega)).1; omega
    · rw [hqn]; exact any_names.1 hg.2
  have hU : OkF (unbQ s b) := by
    refine ⟨fun q hq => ?_, by rw [I.named]; exact hnd, fun v hv => ?_, by rw [I.places, List.length_append]; exact hRlen, ?_⟩
    · rw [I.named] at hq
      rcases List.mem_append.1 hq with hq | hq
      · obtain ⟨j, p, hp, hn, hqn, hg, hk, hv⟩ := xmem q hq
        have h1 := h.sig.okName (List.mem_of_getElem? hp)
        have h2 := (give_shape (s := s) (pl := f.places) (qs := f.named) (i := j) (p := p) (single_kind.2 (by omega))).1 hg
        have h3 := give_vals (s := s) h.flat (i := j) (p := p) (hd0 (giveQ s f.places f.named j p).list) (by rw [h2]; simp [hd0])
        simp [okPair, hqn, h1, hv, h3]
      · obtain ⟨_, _, _, _, _, hm⟩ := h.mapOf I hq
        exact h.flat.pairs q hm
    · rw [I.places] at hv
      rcases List.mem_append.1 hv with hv | hv
      · obtain ⟨j, hj⟩ := List.getElem?_of_mem hv
        have hjl := lt_of_some hj
        obtain ⟨p, hp⟩ := at_some (xs := s) (i := j) (by omega)
        obtain ⟨a1, a2⟩ := I.vals j _ hjl (h.get hp)
        have hpl := (h.sig.placed_iff hp).2 (by omega)
        have hsg : singleQ p = true := by rw [single_kind]; rw [placed_kind] at hpl; omega
        have h2 := (give_shape (s := s) (pl := f.places) (qs := f.named) (i := j) (p := p) hsg).1 a1
        rw [hj] at a2
        cases a2
        exact give_vals (s := s) h.flat (i := j) (p := p) _ (by rw [h2]; simp [hd0])
      · exact hRsub v hv
    · rw [I.named]
      have := sub_length (namesOf (X ++ Y)) (namesOf f.named) hnd fun n hn => by
        unfold namesOf at hn
        rw [List.map_append] at hn
        rcases List.mem_append.1 hn with hn | hn
        · obtain ⟨q, hq, rfl⟩ := List.mem_map.1 hn
          exact xnamed q hq
        · obtain ⟨q, hq, rfl⟩ := List.mem_map.1 hn
          obtain ⟨_, _, _, _, _, hm⟩ := h.mapOf I hq
          exact List.mem_map_of_mem hm
      simp only [namesOf, List.length_map] at this
      omega
  have hplU : ∀ (i : Nat) (p : Param), s[i]? = some p → placedQ p = true → (i < (unbQ s b).places.length ↔ i < V.length) := fun i p hp hpl => by
    have hiP := (h.sig.placed_iff hp).1 hpl
    rw [I.places, List.length_append]
    constructor
    · intro hi
      refine Classical.byContradiction fun hc => ?_
      have := (gap (by omega)).2.1
      rw [this] at hi
      simp at hi; omega
    · omega
  have hB : ∀ (i : Nat) (p : Param), s[i]? = some p → giveQ s (unbQ s b).places (unbQ s b).named i p = giveQ s f.places f.named i p := fun i p hp => by
    have hkr := h.sig.kindRange (List.mem_of_getElem? hp)
    by_cases hk4 : p.kind = 4
    · have hY := I.map i p _ (lt_of_some hp) hp (h.get hp) hk4
      have e1 : ∀ qs pl, giveQ s pl qs i p = ⟨false, [], qs.filter fun q => takesQ s q.name == (i : Int)⟩ := fun qs pl => by unfold giveQ; rw [if_pos hk4]
      rw [e1] at hY
      simp only at hY
      rw [e1, e1, I.named, List.filter_append]
      have hX : X.filter (fun q => takesQ s q.name == (i : Int)) = [] := by
        rw [List.filter_eq_nil_iff]
        intro q hq ht
        obtain ⟨j, r, hr, hn, hqn, _⟩ := xmem q hq
        have := takes_named h.sig hr hn
        rw [← hqn] at this
        simp only [beq_iff_eq] at ht
        have hij : i = j := by omega
        subst hij
        rw [hp] at hr; cases hr
        rw [named_kind] at hn; omega
      rw [hX, List.nil_append, hY, List.filter_filter]
      simp
    by_cases hk2 : p.kind = 2
    · have hR := I.rest i p _ (lt_of_some hp) hp (h.get hp) hk2
      rw [give_rest hk2] at hR
      simp only at hR
      rw [give_rest hk2, give_rest hk2, I.places, ← hR]
      congr 1
      by_cases hlt : V.length < placesQ s
      · rw [(gap hlt).2.1, List.append_nil]; exact List.drop_eq_nil_of_le (by omega)
      · rw [show placesQ s = V.length by omega, List.drop_left]
    have hsg : singleQ p = true := single_kind.2 (by omega)
    have hsh := give_shape (s := s) (pl := f.places) (qs := f.named) (i := i) (p := p) hsg
    have hget := h.get hp
    generalize giveQ s f.places f.named i p = g at hsh hget ⊢
    rw [give_single hsg]
    by_cases hb : byPl (unbQ s b).places i p = true
    · rw [if_pos hb]
      simp only [byPl, Bool.and_eq_true, decide_eq_true_eq] at hb
      have hiV := (hplU i p hp hb.1).1 hb.2
      obtain ⟨a1, a2⟩ := I.vals i g hiV hget
      rw [hsh.1 a1]
      have : (unbQ s b).places.getD i 0 = hd0 g.list := by
        rw [List.getD_eq_getElem?_getD, I.places, List.getElem?_append_left hiV, a2]; rfl
      rw [this]
    · rw [if_neg hb]
      have hnV : placedQ p = true → V.length ≤ i := fun hpl => Nat.le_of_not_lt fun h0 => hb (by
        simp only [byPl, Bool.and_eq_true, decide_eq_true_eq]; exact ⟨hpl, (hplU i p hp hpl).2 h0⟩)
      have hgap : placedQ p = true → g.given = true → V.length < i := fun hpl hg => by
        have h1 := hnV hpl
        have hiP := (h.sig.placed_iff hp).1 hpl
        have h2 := (gap (by omega)).2.2
        refine Classical.byContradiction fun hc => ?_
        have : i = V.length := by omega
        have := h2 g (by rw [← this]; exact hget)
        rw [hg] at this; cases this
      cases hg : g.given with
      | true =>
        have hk : p.kind = 3 ∨ (p.kind = 1 ∧ V.length < i) := by
          by_cases hk3 : p.kind = 3
          · exact .inl hk3
          · have hpl : placedQ p = true := by rw [placed_kind]; rw [single_kind] at hsg; omega
            have hVi := hgap hpl hg
            refine .inr ⟨?_, hVi⟩
            refine Classical.byContradiction fun hk1 => ?_
            have hk0 : p.kind = 0 := by rw [placed_kind] at hpl; omega
            have hiP := (h.sig.placed_iff hp).1 hpl
            obtain ⟨q, hq⟩ := at_some (xs := s) (i := V.length) (by omega)
            have hgi : (giveQ s f.places f.named i p).given = true := by rw [← h.at hp hget]; exact hg
            have hgq := h.before hp hq hk0 hVi hgi
            have := (gap (by omega)).2.2 _ (h.get hq)
            rw [hgq] at this; cases this
        have hn : namedQ p = true := named_kind.2 (by omega)
        rw [if_pos hn]
        have hm : (⟨p.name, hd0 g.list⟩ : Pair) ∈ X := (I.mem _).2 ⟨i, p, g, lt_of_some hp, hp, hget, hg, hk, rfl⟩
        have hf := find_uniq (qs := (unbQ s b).named) (q := ⟨p.name, hd0 g.list⟩) hU.nodup (by rw [I.named]; exact List.mem_append_left _ hm)
        simp only at hf
        rw [hf]
        exact (hsh.1 hg).symm
      | false =>
        rw [hsh.2 hg]
        split
        · rename_i hn
          have : (unbQ s b).named.find? (nameIs p.name) = none := by
            rw [List.find?_eq_none]
            intro q hq hqn
            simp only [nameIs, beq_iff_eq] at hqn
            rw [I.named] at hq
            rcases List.mem_append.1 hq with hq | hq
            · obtain ⟨j, r, x, _, hr, hx, hgx, _, rfl⟩ := (I.mem q).1 hq
              have hji := name_inj h.sig hr hp hqn
              subst hji
              rw [hget] at hx; cases hx
              rw [hg] at hgx; cases hgx
            · obtain ⟨j, r, hr, hk, ht, _⟩ := h.mapOf I hq
              have := takes_named h.sig hp hn
              rw [← hqn, ht] at this
              have hji : j = i := by omega
              subst hji
              rw [hp] at hr; cases hr
              exact hk4 hk
          rw [this]
        · rfl
  have hacc : accQ s (unbQ s b) = true := by
    have hf3 := ((acc_iff h.sig h.flat).1 h.acc).2.2
    refine (acc_iff h.sig hU).2 ⟨fun hlt => ?_, fun q hq => ?_, ?_⟩
    · by_cases h2 : ∃ (j : Nat) (p : Param), s[j]? = some p ∧ p.kind = 2
      · obtain ⟨j, p, hp, hk⟩ := h2
        exact List.any_eq_true.2 ⟨p, List.mem_of_getElem? hp, by simp [kIs, hk]⟩
      · have hR := I.rest0 fun j p _ hp hk => h2 ⟨j, p, hp, hk⟩
        rw [I.places, hR] at hlt
        simp at hlt; omega
    · rw [wrong_iff2 h.sig]
      rw [I.named] at hq
      rcases List.mem_append.1 hq with hq | hq
      · obtain ⟨j, p, hp, hn, hqn, hg, hk, hv⟩ := xmem q hq
        refine ⟨.inl ⟨j, p, hp, hn, hqn.symm⟩, fun i r hr hrn hre => ?_⟩
        have hij := name_inj h.sig hr hp (by rw [hre, hqn])
        subst hij
        rw [hp] at hr; cases hr
        unfold byPl
        cases hpl : placedQ p with
        | false => rfl
        | true =>
          simp only [Bool.true_and, decide_eq_false_iff_not]
          rw [hplU i p hp hpl]
          rcases hk with hk | ⟨hk, hl⟩
          · rw [placed_kind] at hpl; omega
          · omega
      · obtain ⟨j, r, hr, hk, ht, _⟩ := h.mapOf I hq
        refine ⟨.inr ⟨r, List.mem_of_getElem? hr, hk⟩, fun i p hp hn he => ?_⟩
        have := takes_named h.sig hp hn
        rw [he, ht] at this
        have hji : j = i := by omega
        subst hji
        rw [hp] at hr; cases hr
        rw [named_kind] at hn; omega
    · have : s.mapIdx (giveQ s (unbQ s b).places (unbQ s b).named) = s.mapIdx (giveQ s f.places f.named) := by
        apply List.ext_getElem?
        intro i
        rw [List.getElem?_mapIdx, List.getElem?_mapIdx]
        cases hp : s[i]? with
        | none => rfl
        | some p => simp only [Option.map_some, hB i p hp]
      rw [this]; exact hf3
  refine ⟨h.sig, hU, hacc, ?_⟩
  rw [bound_closed h.sig hU.nodup]
  apply List.ext_getElem?
  intro i
  simp only [closedQ, List.getElem?_mapIdx]
  cases hp : s[i]? with
  | none =>
    have : s.length ≤ i := by rw [List.getElem?_eq_none_iff] at hp; exact hp
    rw [List.getElem?_eq_none (by rw [h.len]; exact this)]; rfl
  | some p => simp only [Option.map_some, hB i p hp, h.get hp]

end

theorem indexP2_ct (xs : List Pair) (hb : xs.length ≤ 9223372036854775807) (pred : Pair → Bool) (f : FuncId) (cs ds : List C)
    (hcl : ∀ p, ACalls pk f [.agg (eP p), .one (.fp cs), .one (.fp ds)] [] (fun r o => r = .one (.bool (pred p)) ∧ o = [])) :
    ACalls pk 57 [.one (.fs (xs.map eP)), .one (.fn f [.fp cs, .fp ds])] [] (fun r o => r = .one (.int .i64 (idxI pred xs 0)) ∧ o = []) := by
  refine acalls_of_body Tryz.func57 rfl (by kernel_rfl) rfl ?_
  refine rn rfl ?_
  refine goal_loop_keep (fun m σ => ∃ (n L : Int) (i : Nat), n = i ∧ L = xs.length ∧ i ≤ xs.length ∧ m = xs.length - i ∧ idxI pred xs 0 = idxI pred (xs.drop i) i ∧
      σ = ⟨[(8, .one (.int .i64 n)), (7, .one (.int .i64 L)), (1, .one (.fn f [.fp cs, .fp ds])), (0, .one (.fs (xs.map eP)))], [], []⟩) xs.length [8, 7, 1, 0] [] rfl
    ⟨_, _, 0, rfl, by simp, by omega, by omega, by simp, rfl⟩ ?_
  rintro m σ ⟨n, L, i, rfl, rfl, hi, rfl, hidx, rfl⟩
  refine rn rfl ?_
  refine goal_cond rfl (fun h => ?_) (fun h => ?_) <;> (try simp only [gt_iff_lt, ge_iff_le, bne_iff_ne, ne_eq, bne_eq_false_iff_eq, beq_iff_eq, beq_eq_false_iff_ne, Bool.not_eq_true', Bool.not_eq_false', decide_eq_true_eq, decide_eq_false_iff_not, List.length_map] at h)
  · obtain ⟨p, hp⟩ := at_some (xs := xs) (i := i) (by omega)
    refine rn rfl ?_
    refine goal_did rfl rfl (dA_index (eP p) rfl rfl rfl rfl rfl rfl rfl (by omega) (by (try simp); omega) (map_at (by simpa using hp)) rfl) ?_
    refine rn rfl ?_
    refine goal_step (step_call [] rfl rfl rfl rfl rfl rfl (hcl p)) ?_
    rintro σ2 ⟨r, o', ⟨rfl, rfl⟩, hσ⟩
    obtain rfl := Option.some.inj hσ
    clear hσ
    refine rn rfl ?_
    refine goal_cond rfl (fun h2 => ?_) (fun h2 => ?_)
    · refine rn rfl (round_ret (fin_is [] rfl ⟨?_, rfl⟩))
      rw [hidx, drop_at hp]; simp [idxI, h2]
    · refine rn rfl ?_
      refine round_keep (xs.length - (i + 1)) [8, 7, 1, 0] [] (by omega) rfl ⟨_, _, i + 1, wrap64 (by omega) (by omega), rfl, by omega, rfl, ?_, rfl⟩
      rw [hidx, drop_at hp]; simp [idxI, h2]
  · refine rn rfl (round_ext ?_)
    refine rn rfl (fin_is [] rfl ⟨?_, rfl⟩)
    rw [hidx, List.drop_eq_nil_of_le (by omega)]; rfl

theorem containsP2_ct (xs : List Pair) (hb : xs.length ≤ 9223372036854775807) (pred : Pair → Bool) (f : FuncId) (cs ds : List C)
    (hcl : ∀ p, ACalls pk f [.agg (eP p), .one (.fp cs), .one (.fp ds)] [] (fun r o => r = .one (.bool (pred p)) ∧ o = [])) :
    ACalls pk 33 [.one (.fs (xs.map eP)), .one (.fn f [.fp cs, .fp ds])] [] (fun r o => r = .one (.bool (xs.any pred)) ∧ o = []) := by
  refine acalls_of_body Tryz.func33 rfl (by kernel_rfl) rfl ?_
  refine rn rfl ?_
  refine goal_step (step_call [] rfl rfl rfl rfl rfl rfl (indexP2_ct xs hb pred f cs ds hcl)) ?_
  rintro σ2 ⟨r, o', ⟨rfl, rfl⟩, hσ⟩
  obtain rfl := Option.some.inj hσ
  clear hσ
  refine rn rfl ?_
  refine rn rfl (fin_is [] rfl ⟨?_, rfl⟩)
  congr 1; congr 1
  have := idxI_ge (pred := pred) (xs := xs) (i := 0)
  cases h : xs.any pred with
  | true => simp [this.2 h]
  | false => rw [idxI_none.2 h]; rfl

def slotOk (s : Sig) (i : Nat) (p : Param) (x : Slot) : Bool :=
  if p.kind = 2 then !x.given && decide (x.pairs = [])
  else if p.kind = 4 then !x.given && decide (x.list = []) && !x.pairs.any (fun q => takesQ s q.name != (i : Int))
  else if x.given then decide (x.list.length = 1) && decide (x.pairs = [])
  else p.hasD && decide (x.list = []) && decide (x.pairs = [])

def slotAt (s : Sig) (b : Bnds) (i : Nat) : Bool := match s[i]?, b[i]? with
  | some p, some x => slotOk s i p x
  | _, _ => true

def VBi (s : Sig) (b : Bnds) : Bool := okSig s && (decide (b.length = s.length) && ((List.range b.length).all (slotAt s b) && ((BindQ s (unbQ s b)).2 && sameB (BindQ s (unbQ s b)).1 b)))

theorem nil_zero {α : Type} (xs : List α) : (((xs.length : Nat) : Int) == 0) = decide (xs = []) := by
  cases xs with
  | nil => rfl
  | cons x xs =>
    have : ¬ (((x :: xs).length : Nat) : Int) = 0 := by simp only [List.length_cons]; omega
    rw [beq_eq_false_iff_ne.2 this]; simp

theorem slotC_ct (s : Sig) (i : Nat) (q : Pair) (hl : s.length ≤ 1048576) : ACalls pk 34 [.agg (eP q), .one (.fp [.fs (s.map eQ)]), .one (.fp [.int .i64 i])] [] (fun r o => r = .one (.bool (takesQ s q.name != (i : Int))) ∧ o = []) := by
  refine acalls_of_body Tryz.func34 rfl (by kernel_rfl) rfl ?_
  refine rn rfl ?_
  refine goal_draw' [0] 7 rfl ?_
  refine drn [0, 1, 2, 4] (by kernel_rfl) (by kernel_rfl) rfl rfl ?_
  refine AH_one (i := 3) (by kernel_rfl) (step_call [] rfl rfl rfl rfl rfl rfl (itakes_ct s q.name (by omega))) (by simp) ?_
  rintro σ2 ⟨r, o', ⟨rfl, rfl⟩, hσ⟩
  obtain rfl := Option.some.inj hσ
  clear hσ
  refine drn [5, 6] (by kernel_rfl) (by kernel_rfl) rfl rfl ?_
  refine AH_end (by kernel_rfl) ?_
  refine rn rfl ?_
  exact rn rfl (fin_is [] rfl ⟨rfl, rfl⟩)

theorem slotValid_ct (s : Sig) (i : Nat) (p : Param) (x : Slot) (hp : s[i]? = some p) (hl : s.length ≤ 1048576) (hkr : 0 ≤ p.kind ∧ p.kind ≤ 4) (h1 : x.list.length ≤ 1048576) (h2 : x.pairs.length ≤ 1048576) :
    ACalls pk 16 [.agg (eG s), .one (.int .i64 i), .agg (eL x)] [] (fun r o => r = .one (.bool (slotOk s i p x)) ∧ o = []) := by
  have hil := lt_of_some hp
  refine acalls_of_body Tryz.func16 rfl (by kernel_rfl) rfl ?_
  refine rn rfl ?_
  refine goal_did rfl rfl (dA_index (eQ p) rfl rfl rfl rfl rfl rfl rfl (by omega) (by (try simp); omega) (map_at (by simpa using hp)) rfl) ?_
  refine rn rfl ?_
  refine goal_cond rfl (fun hk2 => ?_) (fun hk2 => ?_) <;> (try simp only [gt_iff_lt, ge_iff_le, bne_iff_ne, ne_eq, bne_eq_false_iff_eq, beq_iff_eq, beq_eq_false_iff_ne, Bool.not_eq_true', Bool.not_eq_false', decide_eq_true_eq, decide_eq_false_iff_not, List.length_map] at hk2)
  · refine rn rfl ?_
    refine goal_guard rfl rfl rfl (fun hg => ?_) (fun hg => ?_) <;> (try simp only [gt_iff_lt, ge_iff_le, bne_iff_ne, ne_eq, bne_eq_false_iff_eq, beq_iff_eq, beq_eq_false_iff_ne, Bool.not_eq_true', Bool.not_eq_false', decide_eq_true_eq, decide_eq_false_iff_not, List.length_map] at hg)
    · refine rn rfl ?_
      refine rn rfl (fin_is [] rfl ⟨?_, rfl⟩)
      simp [slotOk, hk2, hg, nil_zero]
    · refine rn rfl (fin_is [] rfl ⟨?_, rfl⟩)
      simp [slotOk, hk2, hg]
  · refine rn rfl ?_
    refine goal_cond rfl (fun hk4 => ?_) (fun hk4 => ?_) <;> (try simp only [gt_iff_lt, ge_iff_le, bne_iff_ne, ne_eq, bne_eq_false_iff_eq, beq_iff_eq, beq_eq_false_iff_ne, Bool.not_eq_true', Bool.not_eq_false', decide_eq_true_eq, decide_eq_false_iff_not, List.length_map] at hk4)
    · refine rn rfl ?_
      refine goal_guard rfl rfl rfl (fun hg => ?_) (fun hg => ?_) <;> (try simp only [gt_iff_lt, ge_iff_le, bne_iff_ne, ne_eq, bne_eq_false_iff_eq, beq_iff_eq, beq_eq_false_iff_ne, Bool.not_eq_true', Bool.not_eq_false', decide_eq_true_eq, decide_eq_false_iff_not, List.length_map] at hg)
      · refine rn rfl ?_
        refine goal_guard rfl rfl rfl (fun hl0 => ?_) (fun hl0 => ?_) <;> (try simp only [gt_iff_lt, ge_iff_le, bne_iff_ne, ne_eq, bne_eq_false_iff_eq, beq_iff_eq, beq_eq_false_iff_ne, Bool.not_eq_true', Bool.not_eq_false', decide_eq_true_eq, decide_eq_false_iff_not, List.length_map] at hl0)
        · have hl1 : x.list = [] := by cases hx : x.list with
            | nil => rfl
            | cons a l => rw [hx] at hl0; simp at hl0; omega
          refine rn rfl ?_
          refine goal_step (step_call [] rfl rfl rfl rfl rfl rfl (containsP2_ct x.pairs (by omega) (fun q => takesQ s q.name != (i : Int)) _ [.fs (s.map eQ)] [.int .i64 i] (fun q => slotC_ct s i q hl))) ?_
          rintro σ2 ⟨r, o', ⟨rfl, rfl⟩, hσ⟩
          obtain rfl := Option.some.inj hσ
          clear hσ
          refine rn rfl ?_
          refine rn rfl (fin_is [] rfl ⟨?_, rfl⟩)
          simp [slotOk, hk2, hk4, hg, hl1]
        · have hl1 : x.list ≠ [] := fun h0 => by rw [h0] at hl0; simp at hl0
          refine rn rfl (fin_is [] rfl ⟨?_, rfl⟩)
          simp [slotOk, hk2, hk4, hg, hl1]
      · refine rn rfl (fin_is [] rfl ⟨?_, rfl⟩)
        simp [slotOk, hk2, hk4, hg]
    · refine rn rfl ?_
      refine goal_cond rfl (fun hg => ?_) (fun hg => ?_) <;> (try simp only [gt_iff_lt, ge_iff_le, bne_iff_ne, ne_eq, bne_eq_false_iff_eq, beq_iff_eq, beq_eq_false_iff_ne, Bool.not_eq_true', Bool.not_eq_false', decide_eq_true_eq, decide_eq_false_iff_not, List.length_map] at hg)
      · refine rn rfl ?_
        refine goal_guard rfl rfl rfl (fun hl0 => ?_) (fun hl0 => ?_) <;> (try simp only [gt_iff_lt, ge_iff_le, bne_iff_ne, ne_eq, bne_eq_false_iff_eq, beq_iff_eq, beq_eq_false_iff_ne, Bool.not_eq_true', Bool.not_eq_false', decide_eq_true_eq, decide_eq_false_iff_not, List.length_map] at hl0)
        · have hl1 : x.list.length = 1   := by omega
          refine rn rfl (fin_is [] rfl ⟨?_, rfl⟩)
          simp [slotOk, hk2, hk4, hg, hl1, nil_zero]
        · have hl1 : x.list.length ≠ 1   := by omega
          refine rn rfl (fin_is [] rfl ⟨?_, rfl⟩)
          simp [slotOk, hk2, hk4, hg, hl1]
      · refine rn rfl ?_
        refine goal_guard rfl rfl rfl (fun hd => ?_) (fun hd => ?_) <;> (try simp only [gt_iff_lt, ge_iff_le, bne_iff_ne, ne_eq, bne_eq_false_iff_eq, beq_iff_eq, beq_eq_false_iff_ne, Bool.not_eq_true', Bool.not_eq_false', decide_eq_true_eq, decide_eq_false_iff_not, List.length_map] at hd)
        · refine rn rfl ?_
          refine goal_guard rfl rfl rfl (fun hl0 => ?_) (fun hl0 => ?_) <;> (try simp only [gt_iff_lt, ge_iff_le, bne_iff_ne, ne_eq, bne_eq_false_iff_eq, beq_iff_eq, beq_eq_false_iff_ne, Bool.not_eq_true', Bool.not_eq_false', decide_eq_true_eq, decide_eq_false_iff_not, List.length_map] at hl0)
          · have hl1 : x.list = [] := by cases hx : x.list with
              | nil => rfl
              | cons a l => rw [hx] at hl0; simp at hl0; omega
            refine rn rfl (fin_is [] rfl ⟨?_, rfl⟩)
            simp [slotOk, hk2, hk4, hg, hd, hl1, nil_zero]
          · have hl1 : x.list ≠ [] := fun h0 => by rw [h0] at hl0; simp at hl0
            refine rn rfl (fin_is [] rfl ⟨?_, rfl⟩)
            simp [slotOk, hk2, hk4, hg, hd, hl1]
        · refine rn rfl (fin_is [] rfl ⟨?_, rfl⟩)
          simp [slotOk, hk2, hk4, hg, hd]

structure SmallB (b : Bnds) : Prop where
  len : b.length ≤ 1048576
  size : ∀ x ∈ b, x.list.length ≤ 1048576 ∧ x.pairs.length ≤ 1048576
  names : ∀ x ∈ b, ∀ q ∈ x.pairs, q.name.length ≤ 9223372036854775807
  tot : cntB b ≤ 1048576

theorem slots_okB {s : Sig} {b : Bnds} (hs : OkS s) (hb : SmallB b) (hlen : b.length = s.length) (hall : ∀ j, j < b.length → slotAt s b j = true) : OkB s b := by
  refine ⟨hlen, hs.len, fun p hp => hs.kindRange hp, fun i p x hp hx hsg hg => ?_, fun x hx => hb.size x hx⟩
  have := hall i (lt_of_some hx)
  unfold slotAt slotOk at this
  rw [hp, hx] at this
  rw [single_kind] at hsg
  simp only at this
  rw [if_neg (by omega), if_neg (by omega), if_pos hg] at this
  simp only [Bool.and_eq_true, decide_eq_true_eq] at this
  exact List.length_eq_one_iff.1 this.1

theorem unb_names {s : Sig} {b : Bnds} (hs : ∀ p ∈ s, p.name.length ≤ 9223372036854775807) (hb : ∀ x ∈ b, ∀ q ∈ x.pairs, q.name.length ≤ 9223372036854775807) : ∀ q ∈ (unbQ s b).named, q.name.length ≤ 9223372036854775807 := by
  have key : ∀ (zs : List (Param × Slot)) (st : Flat × Bool), (∀ z ∈ zs, z.1 ∈ s ∧ z.2 ∈ b) → (∀ q ∈ st.1.named, q.name.length ≤ 9223372036854775807) → ∀ q ∈ (zs.foldl stU st).1.named, q.name.length ≤ 9223372036854775807 := by
    intro zs
    induction zs with
    | nil => intro st _ h; exact h
    | cons z zs ih =>
      intro st hz h
      rw [List.foldl_cons]
      refine ih _ (fun y hy => hz y (by simp [hy])) fun q hq => ?_
      obtain ⟨hz1, hz2⟩ := hz z (by simp)
      unfold stU at hq
      split at hq
      · exact h q hq
      · split at hq
        · simp only [List.mem_append] at hq
          rcases hq with hq | hq
          · exact h q hq
          · exact hb _ hz2 q hq
        · split at hq
          · exact h q hq
          · split at hq
            · exact h q hq
            · simp only [List.mem_append, List.mem_singleton] at hq
              rcases hq with hq | rfl
              · exact h q hq
              · exact hs _ hz1
  exact key (s.zip b) (zF, true) (fun z hz => List.of_mem_zip hz) (by simp [zF])

theorem unb_grow : ∀ (zs : List (Param × Slot)) (st : Flat × Bool), ∃ B, (zs.foldl stU st).1.named = st.1.named ++ B
  | [], st => ⟨[], by simp⟩
  | z :: zs, st => by
    obtain ⟨B, hB⟩ := unb_grow zs (stU st z)
    have : ∃ A, (stU st z).1.named = st.1.named ++ A := by
      unfold stU
      split
      · exact ⟨[], by simp⟩
      · split
        · exact ⟨_, rfl⟩
        · split
          · exact ⟨[], by simp⟩
          · split
            · exact ⟨[], by simp⟩
            · exact ⟨_, rfl⟩
    obtain ⟨A, hA⟩ := this
    exact ⟨A ++ B, by rw [List.foldl_cons, hB, hA, List.append_assoc]⟩

theorem unb_at0 {s : Sig} {b : Bnds} {i : Nat} {p : Param} {x : Slot} (hp : s[i]? = some p) (hx : b[i]? = some x) (hk : p.kind = 4) : ∃ A B, (unbQ s b).named = A ++ x.pairs ++ B := by
  have hz : (s.zip b)[i]? = some (p, x) := List.getElem?_zip_eq_some.2 ⟨hp, hx⟩
  have hsplit : s.zip b = (s.zip b).take i ++ (p, x) :: (s.zip b).drop (i + 1) := by
    conv => lhs; rw [← List.take_append_drop i (s.zip b), drop_at hz]
  unfold unbQ
  rw [hsplit, List.foldl_append, List.foldl_cons]
  obtain ⟨B, hB⟩ := unb_grow ((s.zip b).drop (i + 1)) (stU (((s.zip b).take i).foldl stU (zF, true)) (p, x))
  refine ⟨(((s.zip b).take i).foldl stU (zF, true)).1.named, B, ?_⟩
  rw [hB]
  have h2 : ¬ p.kind = 2 := by omega
  simp [stU, h2, hk]

theorem unb_lenF {s : Sig} {b : Bnds} (hs : LenS s) (hb : SmallB b) (hok : OkB s b) : LenF (unbQ s b) := by
  have h1 := unb_cnt hok
  have h2 := hb.tot
  exact ⟨by omega, by omega, unb_names hs.names hb.names⟩

theorem slot_pairs {s : Sig} {b : Bnds} (hs : OkS s) (hlen : b.length = s.length) (hall : ∀ j, j < b.length → slotAt s b j = true) (hn : (unbQ s b).named.length ≤ 8) : ∀ x ∈ b, x.pairs.length ≤ 12 := by
  intro x hx
  obtain ⟨i, hi⟩ := List.getElem?_of_mem hx
  obtain ⟨p, hp⟩ := at_some (xs := s) (i := i) (by rw [← hlen]; exact lt_of_some hi)
  by_cases hk : p.kind = 4
  · obtain ⟨A, B, hAB⟩ := unb_at0 hp hi hk
    rw [hAB] at hn
    simp only [List.length_append] at hn
    omega
  · have := hall i (lt_of_some hi)
    unfold slotAt slotOk at this
    rw [hp, hi] at this
    simp only at this
    rw [if_neg hk] at this
    have h0 : x.pairs = [] := by
      split at this
      · simp only [Bool.and_eq_true, decide_eq_true_eq] at this; exact this.2
      · split at this
        · simp only [Bool.and_eq_true, decide_eq_true_eq] at this; exact this.2
        · simp only [Bool.and_eq_true, decide_eq_true_eq] at this; exact this.2
    rw [h0]; simp

theorem ivalidBinding_ct (s : Sig) (b : Bnds) (hs : LenS s) (hb : SmallB b) : ACalls pk 7 [.agg (eG s), .agg (eBi b)] [] (fun r o => r = .one (.bool (VBi s b)) ∧ o = []) := by
  have hls := hs
  obtain ⟨s1, s2⟩ := hs
  have hbl := hb.len
  refine acalls_of_body Tryz.func7 rfl (by kernel_rfl) rfl ?_
  refine rn rfl ?_
  refine goal_step (step_call [] rfl rfl rfl rfl rfl rfl (ivalidSig_ct s (by omega) s2)) ?_
  rintro σ2 ⟨r, o', ⟨rfl, rfl⟩, hσ⟩
  obtain rfl := Option.some.inj hσ
  clear hσ
  refine rn rfl ?_
  refine goal_guard rfl rfl rfl (fun h1 => ?_) (fun h1 => ?_) <;> (try simp only [gt_iff_lt, ge_iff_le, bne_iff_ne, ne_eq, bne_eq_false_iff_eq, beq_iff_eq, beq_eq_false_iff_ne, Bool.not_eq_true', Bool.not_eq_false', decide_eq_true_eq, decide_eq_false_iff_not, List.length_map] at h1)
  · refine rn rfl (fin_is [] rfl ⟨?_, rfl⟩)
    simp [VBi, h1]
  have hok := okSig_iff.1 h1
  refine rn rfl ?_
  refine goal_cond rfl (fun h2 => ?_) (fun h2 => ?_) <;> simp only [List.length_map, bne_iff_ne, ne_eq, bne_eq_false_iff_eq] at h2
  · refine rn rfl (fin_is [] rfl ⟨?_, rfl⟩)
    have : b.length ≠ s.length := by omega
    simp [VBi, this]
  have hlen : b.length = s.length := by omega
  refine rn rfl ?_
  refine goal_loop_keep (fun m σ => ∃ (q L : Int) (i : Nat), q = i ∧ L = b.length ∧ i ≤ b.length ∧ m = b.length - i ∧ (∀ j, j < i → slotAt s b j = true) ∧
      σ = ⟨[(24, .one (.int .i64 q)), (23, .one (.int .i64 L)), (22, .one (.fs (b.map eL))), (3, .one (.op 1 0 0)), (2, .one (.op 0 0 0))],
        [some ⟨1, [eG s], false, false, true⟩, some ⟨1, [eBi b], false, false, true⟩], []⟩) b.length [24, 23, 22, 3, 2] [0, 1] rfl
    ⟨_, _, 0, rfl, by simp, by omega, by omega, fun j hj => by omega, rfl⟩ ?_
  rintro m σ ⟨q, L, i, rfl, rfl, hi, rfl, hall, rfl⟩
  refine rn rfl ?_
  refine goal_cond rfl (fun h3 => ?_) (fun h3 => ?_) <;> (try simp only [gt_iff_lt, ge_iff_le, bne_iff_ne, ne_eq, bne_eq_false_iff_eq, beq_iff_eq, beq_eq_false_iff_ne, Bool.not_eq_true', Bool.not_eq_false', decide_eq_true_eq, decide_eq_false_iff_not, List.length_map] at h3)
  · obtain ⟨x, hx⟩ := at_some (xs := b) (i := i) (by omega)
    obtain ⟨p, hp⟩ := at_some (xs := s) (i := i) (by omega)
    obtain ⟨l1, l2⟩ := hb.size x (List.mem_of_getElem? hx)
    refine rn rfl ?_
    refine goal_did rfl rfl (dA_index (eL x) rfl rfl rfl rfl rfl rfl rfl (by omega) (by (try simp); omega) (map_at (by simpa using hx)) rfl) ?_
    refine rn rfl ?_
    refine goal_step (step_call [] rfl rfl rfl rfl rfl rfl (slotValid_ct s i p x hp s1 (hok.kindRange (List.mem_of_getElem? hp)) (by omega) (by omega))) ?_
    rintro σ2 ⟨r, o', ⟨rfl, rfl⟩, hσ⟩
    obtain rfl := Option.some.inj hσ
    clear hσ
    refine rn rfl ?_
    refine goal_cond rfl (fun h4 => ?_) (fun h4 => ?_) <;> simp only [Bool.not_eq_true', Bool.not_eq_false'] at h4
    · refine rn rfl (round_ret (fin_is [] rfl ⟨?_, rfl⟩))
      have h5 : slotAt s b i = false := by unfold slotAt; rw [hp, hx]; exact h4
      have : (List.range b.length).all (slotAt s b) = false := by
        rw [List.all_eq_false]
        exact ⟨i, List.mem_range.2 (by omega), by simp [h5]⟩
      simp [VBi, this]
    · have h5 : slotAt s b i = true := by unfold slotAt; rw [hp, hx]; exact h4
      refine rn rfl ?_
      refine round_keep (b.length - (i + 1)) [24, 23, 22, 3, 2] [0, 1] (by omega) rfl ⟨_, _, i + 1, wrap64 (by omega) (by omega), rfl, by omega, rfl, fun j hj => ?_, rfl⟩
      by_cases hji : j = i
      · subst hji; exact h5
      · exact hall j (by omega)
  · refine rn rfl (round_ext ?_)
    have hall' : ∀ j, j < b.length → slotAt s b j = true := fun j hj => hall j (by omega)
    have hokB := slots_okB hok hb hlen hall'
    have hr : (List.range b.length).all (slotAt s b) = true := by
      rw [List.all_eq_true]; intro j hj; exact hall' j (List.mem_range.1 hj)
    have hV : VBi s b = ((BindQ s (unbQ s b)).2 && sameB (BindQ s (unbQ s b)).1 b) := by unfold VBi; rw [hr, h1, decide_eq_true hlen]; simp only [Bool.true_and]
    have lU := unb_lenF hls hb hokB
    have hU := iunbindD_ct s b hokB
    have hB := iBindD_ct s (unbQ s b) hls lU
    obtain ⟨c1, c2⟩ := bind_small s (unbQ s b)
    have hP : (BindQ s (unbQ s b)).2 = true → ∀ x ∈ b, x.pairs.length ≤ 12 := fun h0 => slot_pairs hok hlen hall' (bindQ_ok h0).2.1.named
    rw [hV]
    generalize unbQ s b = U at *
    generalize (BindQ s U).1 = B at *
    generalize (BindQ s U).2 = ok at *
    refine rt1 9 rfl ?_
    refine goal_cutR (fun σ' => σ' = ⟨[(8, .one (.bool ok)), (7, .one (.op 2 0 0)), (3, .one (.op 1 0 0)), (2, .one (.op 0 0 0))],
      [some ⟨1, [eG s], false, false, true⟩, some ⟨1, [eBi b], false, false, true⟩, some ⟨1, [eBi B], false, false, true⟩], []⟩) ?_ ?_
    · refine goal_draw' [0, 1] 11 rfl ?_
      refine drn [0, 1, 2] (by kernel_rfl) (by kernel_rfl) rfl rfl ?_
      refine AH_two (i := 3) (j := 8) (by kernel_rfl) (step_call [] rfl rfl rfl rfl rfl rfl (hU)) (by simp) (step_did rfl rfl (dA_step rfl)) (mdOk rfl) ?_ ?_
      · rintro σ2 ⟨r, o', ⟨rfl, rfl⟩, hσ⟩
        obtain rfl := Option.some.inj hσ
        clear hσ
        refine AH_two (i := 4) (j := 8) (by kernel_rfl) (step_call [] rfl rfl rfl rfl rfl rfl (hB)) (by simp) (step_did rfl rfl (dA_step rfl)) (mdOk rfl) ?_ ?_
        · rintro σ2 ⟨r, o', ⟨rfl, rfl⟩, hσ⟩
          obtain rfl := Option.some.inj hσ
          clear hσ
          refine drn [5, 6, 7] (by kernel_rfl) (by kernel_rfl) rfl rfl ?_
          refine AH_oneDid 8 rfl (by kernel_rfl) rfl (dA_step rfl) (mdOk rfl) ?_
          refine AH_oneDid 9 rfl (by kernel_rfl) rfl (dA_step rfl) (mdOk rfl) ?_
          refine drn [10] (by kernel_rfl) (by kernel_rfl) rfl rfl ?_
          refine AH_end (by kernel_rfl) ?_
          refine rn rfl ?_
          exact cut_nrm [8, 7, 3, 2] [0, 1, 2] rfl rfl
        · rintro _ rfl
          refine AH_one (i := 4) (by kernel_rfl) (step_call [] rfl rfl rfl rfl rfl rfl (hB)) (by simp) ?_
          rintro σ2 ⟨r, o', ⟨rfl, rfl⟩, hσ⟩
          obtain rfl := Option.some.inj hσ
          clear hσ
          refine drn [5, 6, 7] (by kernel_rfl) (by kernel_rfl) rfl rfl ?_
          refine AH_oneDid 9 rfl (by kernel_rfl) rfl (dA_step rfl) (mdOk rfl) ?_
          refine drn [10] (by kernel_rfl) (by kernel_rfl) rfl rfl ?_
          refine AH_end (by kernel_rfl) ?_
          refine rn rfl ?_
          exact cut_nrm [8, 7, 3, 2] [0, 1, 2] rfl rfl
      · rintro _ rfl
        refine AH_one (i := 3) (by kernel_rfl) (step_call [] rfl rfl rfl rfl rfl rfl (hU)) (by simp) ?_
        rintro σ2 ⟨r, o', ⟨rfl, rfl⟩, hσ⟩
        obtain rfl := Option.some.inj hσ
        clear hσ
        refine AH_one (i := 4) (by kernel_rfl) (step_call [] rfl rfl rfl rfl rfl rfl (hB)) (by simp) ?_
        rintro σ2 ⟨r, o', ⟨rfl, rfl⟩, hσ⟩
        obtain rfl := Option.some.inj hσ
        clear hσ
        refine drn [5, 6, 7] (by kernel_rfl) (by kernel_rfl) rfl rfl ?_
        refine AH_oneDid 9 rfl (by kernel_rfl) rfl (dA_step rfl) (mdOk rfl) ?_
        refine drn [10] (by kernel_rfl) (by kernel_rfl) rfl rfl ?_
        refine AH_end (by kernel_rfl) ?_
        refine rn rfl ?_
        exact cut_nrm [8, 7, 3, 2] [0, 1, 2] rfl rfl
    rintro _ rfl
    refine rn rfl ?_
    refine goal_guard rfl rfl rfl (fun h6 => ?_) (fun h6 => ?_) <;> (try simp only [gt_iff_lt, ge_iff_le, bne_iff_ne, ne_eq, bne_eq_false_iff_eq, beq_iff_eq, beq_eq_false_iff_ne, Bool.not_eq_true', Bool.not_eq_false', decide_eq_true_eq, decide_eq_false_iff_not, List.length_map] at h6)
    · refine rn rfl ?_
      refine goal_step (step_call [] rfl rfl rfl rfl rfl rfl (isameB_ct B b (by omega) (fun x hx => small_of (c2 x hx)) (fun x hx => ⟨by have := (hb.size x hx).1; omega, hP h6 x hx⟩))) ?_
      rintro σ2 ⟨r, o', ⟨rfl, rfl⟩, hσ⟩
      obtain rfl := Option.some.inj hσ
      clear hσ
      refine rn rfl ?_
      refine rn rfl (fin_is [] rfl ⟨?_, rfl⟩)
      simp [h6]
    · refine rn rfl (fin_is [] rfl ⟨?_, rfl⟩)
      simp [h6]

section

variable {s : Sig} {f : Flat} {b : Bnds}

theorem Given.bind (h : Given s f b) : BindQ s f = (b, true) := by
  have hb : (BindQ s f).2 = true := by rw [bind_ok h.sig h.flat]; exact h.acc
  obtain ⟨_, _, _, heq⟩ := bindQ_ok hb
  rw [heq, ← h.eq]

theorem Given.valid (h : Given s f b) : VBi s b = true := by
  have hag := h.again
  have hb := hag.bind
  have hr : (List.range b.length).all (slotAt s b) = true := by
    rw [List.all_eq_true]
    intro i hi
    have hi' := List.mem_range.1 hi
    obtain ⟨p, hp⟩ := at_some (xs := s) (i := i) (by rw [← h.len]; exact hi')
    have hx := h.get hp
    unfold slotAt
    rw [hp, hx]
    simp only
    have hkr := h.sig.kindRange (List.mem_of_getElem? hp)
    unfold slotOk
    by_cases hk2 : p.kind = 2
    · rw [if_pos hk2, give_rest hk2]; simp
    rw [if_neg hk2]
    by_cases hk4 : p.kind = 4
    · rw [if_pos hk4]
      unfold giveQ
      rw [if_pos hk4]
      simp
    rw [if_neg hk4]
    have hsg : singleQ p = true := single_kind.2 (by omega)
    have hsh := give_shape (s := s) (pl := f.places) (qs := f.named) (i := i) (p := p) hsg
    cases hg : (giveQ s f.places f.named i p).given with
    | true => rw [hsh.1 hg]; simp
    | false =>
      have h3 := ((acc_iff h.sig h.flat).1 h.acc).2.2
      have h4 := lack_iff.1 h3 i p hp hsg
      rw [give_given hsg] at hg
      simp only [Bool.or_eq_false_iff, Bool.and_eq_false_iff] at hg
      have hd : p.hasD = true := by
        rcases h4 with h4 | h4 | ⟨h4, h5⟩
        · exact h4
        · rw [hg.1] at h4; cases h4
        · rcases hg.2 with h6 | h6
          · rw [h4] at h6; cases h6
          · rw [h5] at h6; cases h6
      have hg' : (giveQ s f.places f.named i p).given = false := by
        rw [give_given hsg, hg.1]
        rcases hg.2 with h6 | h6 <;> simp [h6]
      rw [hsh.2 hg']
      simp [zL, hd]
  unfold VBi
  rw [hr, hb, okSig_iff.2 h.sig, decide_eq_true h.len, sameB_self]
  rfl

theorem Given.small (h : Given s f b) (hn : ∀ q ∈ f.named, q.name.length ≤ 9223372036854775807) : SmallB b := by
  obtain ⟨c1, c2⟩ := bound_small h.sig h.flat
  rw [← h.eq] at c1 c2
  refine ⟨by omega, fun x hx => ⟨by have := (c2 x hx).1; omega, by have := (c2 x hx).2; omega⟩, fun x hx q hq => ?_, ?_⟩
  rotate_left
  · have := cntB_bound (M := 100) (b := b) (fun x hx => by have := c2 x hx; unfold cntL; omega)
    omega
  obtain ⟨i, hi⟩ := List.getElem?_of_mem hx
  obtain ⟨p, hp⟩ := at_some (xs := s) (i := i) (by rw [← h.len]; exact lt_of_some hi)
  rw [h.at hp hi] at hq
  unfold giveQ at hq
  split at hq
  · exact hn q (List.mem_filter.1 hq).1
  · split at hq
    · split at hq <;> simp [zL] at hq
    · unfold place1 at hq
      split at hq
      · simp at hq
      · split at hq <;> simp [zL] at hq

end

theorem perm_of_sub {α : Type} [DecidableEq α] : ∀ (xs ys : List α), xs.Nodup → (∀ x ∈ xs, x ∈ ys) → ys.length ≤ xs.length → xs.Perm ys
  | [], ys, _, _, hl => by
    have : ys = [] := List.eq_nil_of_length_eq_zero (by simpa using hl)
    subst this; exact List.Perm.refl _
  | x :: xs, ys, hd, hm, hl => by
    rw [List.nodup_cons] at hd
    have hx := hm x (by simp)
    have h2 := List.length_erase_of_mem hx
    have h3 : 0 < ys.length := List.length_pos_of_mem hx
    simp only [List.length_cons] at hl
    have ih := perm_of_sub xs (ys.erase x) hd.2 (fun y hy => by
      have hne : y ≠ x := fun h0 => hd.1 (h0 ▸ hy)
      exact (List.mem_erase_of_ne hne).2 (hm y (by simp [hy]))) (by omega)
    exact (List.Perm.cons x ih).trans (List.perm_cons_erase hx).symm

theorem pairs_nodup {qs : List Pair} (h : (namesOf qs).Nodup) : qs.Nodup := by
  unfold namesOf at h
  exact (List.pairwise_map.1 h).imp (fun hne he => hne (by rw [he]))

theorem same_iff {a b : List Pair} (ha : (namesOf a).Nodup) (hb : (namesOf b).Nodup) (hl : a.length = b.length) : isortL ltN a = isortL ltN b ↔ ∀ q ∈ a, q ∈ b := by
  rw [sort_iff ha hb]
  constructor
  · intro h q hq; exact h.mem_iff.1 hq
  · intro h; exact perm_of_sub a b (pairs_nodup ha) h (by omega)

theorem isort_len {a b : List Pair} (h : isortL ltN a = isortL ltN b) : a.length = b.length := by
  have := congrArg List.length h
  rwa [isortL_length, isortL_length] at this

theorem ssameFlat_ct (f g : Flat) (hf : (namesOf f.named).Nodup) (hg : (namesOf g.named).Nodup) (h1 : f.places.length ≤ 1048576) (h2 : f.named.length ≤ 1048576) (h3 : g.named.length ≤ 1048576) :
    ACalls pk 76 [.agg (eF f), .agg (eF g)] [] (fun r o => r = .one (.bool (decide (f.places = g.places) && decide (isortL ltN f.named = isortL ltN g.named))) ∧ o = []) := by
  refine acalls_of_body Tryz.func76 rfl (by kernel_rfl) rfl ?_
  refine rn rfl ?_
  refine goal_guard rfl rfl rfl (fun h0 => ?_) (fun h0 => ?_) <;> simp only [List.length_map, bne_iff_ne, ne_eq, bne_eq_false_iff_eq] at h0
  · refine rn rfl (fin_is [] rfl ⟨?_, rfl⟩)
    have : f.places ≠ g.places := fun h => h0 (by rw [h])
    simp [this]
  have hpl : f.places.length = g.places.length := by omega
  refine rn rfl ?_
  refine goal_cond rfl (fun h0 => ?_) (fun h0 => ?_) <;> simp only [List.length_map, bne_iff_ne, ne_eq, bne_eq_false_iff_eq] at h0
  · refine rn rfl (fin_is [] rfl ⟨?_, rfl⟩)
    have : isortL ltN f.named ≠ isortL ltN g.named := fun h => h0 (by rw [isort_len h])
    simp [this]
  have hnl : f.named.length = g.named.length := by omega
  refine rn rfl ?_
  refine goal_loop_keep (fun m σ => ∃ (n : Int) (i : Nat), n = i ∧ i ≤ f.places.length ∧ m = f.places.length - i ∧ f.places.take i = g.places.take i ∧
      σ = ⟨[(5, .one (.int .i64 n)), (3, .one (.op 1 0 0)), (2, .one (.op 0 0 0))], [some ⟨2, [eF f], false, false, true⟩, some ⟨2, [eF g], false, false, true⟩], []⟩) f.places.length [5, 3, 2] [0, 1] rfl
    ⟨_, 0, rfl, by omega, by omega, rfl, rfl⟩ ?_
  rintro m σ ⟨n, i, rfl, hi, rfl, hpre, rfl⟩
  refine rn rfl ?_
  refine goal_cond rfl (fun h4 => ?_) (fun h4 => ?_) <;> (try simp only [gt_iff_lt, ge_iff_le, bne_iff_ne, ne_eq, bne_eq_false_iff_eq, beq_iff_eq, beq_eq_false_iff_ne, Bool.not_eq_true', Bool.not_eq_false', decide_eq_true_eq, decide_eq_false_iff_not, List.length_map] at h4)
  · obtain ⟨x, hxi⟩ := at_some (xs := f.places) (i := i) (by omega)
    obtain ⟨y, hyi⟩ := at_some (xs := g.places) (i := i) (by omega)
    have hstep := take_eq_step hpre hxi hyi
    refine rn rfl ?_
    refine goal_draw' [0, 1] 11 rfl ?_
    refine drn [0, 1, 2, 5, 6, 7] (by kernel_rfl) (by kernel_rfl) rfl rfl ?_
    refine AH_did 3 rfl (by kernel_rfl) (by kernel_rfl) (by kernel_rfl) rfl rfl (dA_index (eI x) rfl rfl rfl rfl rfl rfl rfl (by omega) (by (try simp); omega) (map_at (by simpa using hxi)) rfl) ?_
    refine drn [4] (by kernel_rfl) (by kernel_rfl) rfl rfl ?_
    refine AH_did 8 rfl (by kernel_rfl) (by kernel_rfl) (by kernel_rfl) rfl rfl (dA_index (eI y) rfl rfl rfl rfl rfl rfl rfl (by omega) (by (try simp); omega) (map_at (by simpa using hyi)) rfl) ?_
    refine drn [9, 10] (by kernel_rfl) (by kernel_rfl) rfl rfl ?_
    refine AH_end (by kernel_rfl) ?_
    refine rn rfl ?_
    refine goal_cond rfl (fun h5 => ?_) (fun h5 => ?_) <;> simp only [bne_iff_ne, ne_eq, bne_eq_false_iff_eq] at h5
    · refine rn rfl (round_ret (fin_is [] rfl ⟨?_, rfl⟩))
      have : f.places ≠ g.places := fun h0 => h5 (hstep.1 (by rw [h0]))
      simp [this]
    · refine rn rfl ?_
      refine round_keep (f.places.length - (i + 1)) [5, 3, 2] [0, 1] (by omega) rfl ⟨_, i + 1, wrap64 (by omega) (by omega), by omega, rfl, hstep.2 h5, rfl⟩
  · refine rn rfl (round_ext ?_)
    have hpe : f.places = g.places := by
      rw [show i = f.places.length by omega, List.take_length, hpl, List.take_length] at hpre
      exact hpre
    rw [decide_eq_true hpe, Bool.true_and]
    refine rn rfl ?_
    refine goal_loop_keep (fun m σ => ∃ (n : Int) (i : Nat), n = i ∧ i ≤ f.named.length ∧ m = f.named.length - i ∧ (∀ q ∈ f.named.take i, q ∈ g.named) ∧
        σ = ⟨[(6, .one (.int .i64 n)), (3, .one (.op 1 0 0)), (2, .one (.op 0 0 0))], [some ⟨2, [eF f], false, false, true⟩, some ⟨2, [eF g], false, false, true⟩], []⟩) f.named.length [6, 3, 2] [0, 1] rfl
      ⟨_, 0, rfl, by omega, by omega, by simp, rfl⟩ ?_
    rintro m σ ⟨n, k, rfl, hk, rfl, hall, rfl⟩
    refine rn rfl ?_
    refine goal_cond rfl (fun h5 => ?_) (fun h5 => ?_) <;> (try simp only [gt_iff_lt, ge_iff_le, bne_iff_ne, ne_eq, bne_eq_false_iff_eq, beq_iff_eq, beq_eq_false_iff_ne, Bool.not_eq_true', Bool.not_eq_false', decide_eq_true_eq, decide_eq_false_iff_not, List.length_map] at h5)
    · obtain ⟨q, hq⟩ := at_some (xs := f.named) (i := k) (by omega)
      have hmem : q ∈ g.named → pairIx g.named q.name = pairIx g.named q.name ∧ 0 ≤ pairIx g.named q.name := fun h => ⟨rfl, idxI_ge.2 (List.any_eq_true.2 ⟨q, h, by simp [nameIs]⟩)⟩
      have hno : q ∉ g.named → decide (isortL ltN f.named = isortL ltN g.named) = false := fun h => by
        rw [decide_eq_false_iff_not, same_iff hf hg hnl]
        exact fun h0 => h (h0 q (List.mem_of_getElem? hq))
      refine rn rfl ?_
      refine goal_draw' [0, 1] 10 rfl ?_
      refine drn [0, 1, 2, 3, 4] (by kernel_rfl) (by kernel_rfl) rfl rfl ?_
      refine AH_did 5 rfl (by kernel_rfl) (by kernel_rfl) (by kernel_rfl) rfl rfl (dA_index (eP q) rfl rfl rfl rfl rfl rfl rfl (by omega) (by (try simp); omega) (map_at (by simpa using hq)) rfl) ?_
      refine drn [6, 7] (by kernel_rfl) (by kernel_rfl) rfl rfl ?_
      refine AH_one (i := 8) (by kernel_rfl) (step_call [] rfl rfl rfl rfl rfl rfl (spairAt_ct g.named q.name (by omega))) (by simp) ?_
      rintro σ2 ⟨r, o', ⟨rfl, rfl⟩, hσ⟩
      obtain rfl := Option.some.inj hσ
      clear hσ
      refine drn [9] (by kernel_rfl) (by kernel_rfl) rfl rfl ?_
      refine AH_end (by kernel_rfl) ?_
      refine rn rfl ?_
      by_cases hneg : pairIx g.named q.name < 0
      · refine goal_draw' [0, 1] 15 rfl ?_
        refine drn [0, 1, 2] (by kernel_rfl) (by kernel_rfl) rfl rfl ?_
        refine AH_guard (i := 3) rfl rfl rfl (fun h6 => ?_) (fun h6 => ?_) <;> (try simp only [gt_iff_lt, ge_iff_le, bne_iff_ne, ne_eq, bne_eq_false_iff_eq, beq_iff_eq, beq_eq_false_iff_ne, Bool.not_eq_true', Bool.not_eq_false', decide_eq_true_eq, decide_eq_false_iff_not, List.length_map] at h6)
        · refine drn [3, 4, 5, 6, 7, 8, 9, 10, 11, 12, 13, 14] (by kernel_rfl) (by kernel_rfl) rfl rfl ?_
          refine AH_end (by kernel_rfl) ?_
          refine rn rfl ?_
          refine rn rfl (round_ret (fin_is [] rfl ⟨?_, rfl⟩))
          rw [hno fun h => by have := (hmem h).2; omega]
        · exact absurd hneg (by simpa using h6)
      · obtain ⟨r, hr1, hr2, hr3⟩ := pair_at (f := g) (n := q.name) (by omega)
        have hrn : r.name = q.name := by
          have := List.find?_some hr1
          simpa [nameIs] using this
        refine goal_draw' [0, 1] 15 rfl ?_
        refine drn [0, 1, 2] (by kernel_rfl) (by kernel_rfl) rfl rfl ?_
        refine AH_guard (i := 3) rfl rfl rfl (fun h6 => ?_) (fun h6 => ?_) <;> (try simp only [gt_iff_lt, ge_iff_le, bne_iff_ne, ne_eq, bne_eq_false_iff_eq, beq_iff_eq, beq_eq_false_iff_ne, Bool.not_eq_true', Bool.not_eq_false', decide_eq_true_eq, decide_eq_false_iff_not, List.length_map] at h6)
        · exact absurd h6 (by simpa using hneg)
        · refine drn [3, 4, 5, 8, 9, 10] (by kernel_rfl) (by kernel_rfl) rfl rfl ?_
          refine AH_did 6 rfl (by kernel_rfl) (by kernel_rfl) (by kernel_rfl) rfl rfl (dA_index (eP r) rfl rfl rfl rfl rfl rfl rfl (by omega) (by (try simp); omega) (map_at (by simpa using hr2)) rfl) ?_
          refine drn [7] (by kernel_rfl) (by kernel_rfl) rfl rfl ?_
          refine AH_did 11 rfl (by kernel_rfl) (by kernel_rfl) (by kernel_rfl) rfl rfl (dA_index (eP q) rfl rfl rfl rfl rfl rfl rfl (by omega) (by (try simp); omega) (map_at (by simpa using hq)) rfl) ?_
          refine drn [12] (by kernel_rfl) (by kernel_rfl) rfl rfl ?_
          refine AH_did 13 rfl (by kernel_rfl) (by kernel_rfl) (by kernel_rfl) rfl rfl (dA_eqStruct (b := decide (r = q)) (!decide (r = q)) (.inr ⟨rfl, rfl⟩) rfl rfl rfl rfl rfl rfl (eqPair_b r q) (by kernel_rfl) (by kernel_rfl) (by kernel_rfl) rfl) ?_
          refine drn [14] (by kernel_rfl) (by kernel_rfl) rfl rfl ?_
          refine AH_end (by kernel_rfl) ?_
          refine rn rfl ?_
          refine goal_cond rfl (fun h7 => ?_) (fun h7 => ?_) <;> simp only [Bool.not_eq_true', Bool.not_eq_false', decide_eq_true_eq, decide_eq_false_iff_not] at h7
          · refine rn rfl (round_ret (fin_is [] rfl ⟨?_, rfl⟩))
            rw [hno fun h => ?_]
            have := find_uniq hg h
            rw [hr1] at this
            exact h7 (Option.some.inj this)
          · refine rn rfl ?_
            refine round_keep (f.named.length - (k + 1)) [6, 3, 2] [0, 1] (by omega) rfl ⟨_, k + 1, wrap64 (by omega) (by omega), by omega, rfl, fun z hz => ?_, rfl⟩
            rw [← take_snoc hq] at hz
            rcases List.mem_append.1 hz with hz | hz
            · exact hall z hz
            · simp only [List.mem_singleton] at hz
              rw [hz, ← h7]; exact List.mem_of_getElem? hr2
    · refine rn rfl (round_ext ?_)
      refine rn rfl (fin_is [] rfl ⟨?_, rfl⟩)
      rw [List.take_of_length_le (by omega)] at hall
      rw [decide_eq_true ((same_iff hf hg hnl).2 hall)]

structure NdB (b : Bnds) : Prop where
  len : b.length ≤ 1048576
  size : ∀ x ∈ b, x.list.length ≤ 1048576 ∧ x.pairs.length ≤ 1048576
  nodup : ∀ x ∈ b, (namesOf x.pairs).Nodup

theorem ssameSlot_ct (x y : Slot) (hx : (namesOf x.pairs).Nodup) (hy : (namesOf y.pairs).Nodup) (h1 : x.list.length ≤ 1048576) (h2 : x.pairs.length ≤ 1048576) (h3 : y.pairs.length ≤ 1048576) :
    ACalls pk 54 [.agg (eL x), .agg (eL y)] [] (fun r o => r = .one (.bool (sameL x y)) ∧ o = []) := by
  refine acalls_of_body Tryz.func54 rfl (by kernel_rfl) rfl ?_
  refine rn rfl ?_
  refine goal_guard rfl rfl rfl (fun h4 => ?_) (fun h4 => ?_) <;> (try simp only [gt_iff_lt, ge_iff_le, bne_iff_ne, ne_eq, bne_eq_false_iff_eq, beq_iff_eq, beq_eq_false_iff_ne, Bool.not_eq_true', Bool.not_eq_false', decide_eq_true_eq, decide_eq_false_iff_not, List.length_map] at h4)
  · refine rn rfl ?_
    refine goal_step (step_call [] rfl rfl rfl rfl rfl rfl (ssameFlat_ct ⟨x.list, x.pairs⟩ ⟨y.list, y.pairs⟩ hx hy h1 h2 h3)) ?_
    rintro σ2 ⟨r, o', ⟨rfl, rfl⟩, hσ⟩
    obtain rfl := Option.some.inj hσ
    clear hσ
    refine rn rfl ?_
    refine rn rfl (fin_is [] rfl ⟨?_, rfl⟩)
    simp [sameL, h4]
  · refine rn rfl (fin_is [] rfl ⟨?_, rfl⟩)
    simp [sameL, h4]

theorem ssameB_ct (a b : Bnds) (ha : NdB a) (hb : NdB b) : ACalls pk 27 [.agg (eBi a), .agg (eBi b)] [] (fun r o => r = .one (.bool (sameB a b)) ∧ o = []) := by
  have hal := ha.len
  refine acalls_of_body Tryz.func27 rfl (by kernel_rfl) rfl ?_
  refine rn rfl ?_
  refine goal_cond rfl (fun h0 => ?_) (fun h0 => ?_) <;> simp only [List.length_map, bne_iff_ne, ne_eq, bne_eq_false_iff_eq] at h0
  · refine rn rfl (fin_is [] rfl ⟨?_, rfl⟩)
    have : a.length ≠ b.length := by omega
    simp [sameB, this]
  have hlen : a.length = b.length := by omega
  refine rn rfl ?_
  refine goal_loop_keep (fun m σ => ∃ (q : Int) (i : Nat), q = i ∧ i ≤ a.length ∧ m = a.length - i ∧ (∀ (j : Nat) (x y : Slot), a[j]? = some x → b[j]? = some y → j < i → sameL x y = true) ∧
      σ = ⟨[(5, .one (.int .i64 q)), (3, .one (.op 1 0 0)), (2, .one (.op 0 0 0))], [some ⟨1, [eBi a], false, false, true⟩, some ⟨1, [eBi b], false, false, true⟩], []⟩) a.length [5, 3, 2] [0, 1] rfl
    ⟨_, 0, rfl, by omega, by omega, fun j x y _ _ hj => by omega, rfl⟩ ?_
  rintro m σ ⟨q, i, rfl, hi, rfl, hall, rfl⟩
  refine rn rfl ?_
  refine goal_cond rfl (fun h1 => ?_) (fun h1 => ?_) <;> (try simp only [gt_iff_lt, ge_iff_le, bne_iff_ne, ne_eq, bne_eq_false_iff_eq, beq_iff_eq, beq_eq_false_iff_ne, Bool.not_eq_true', Bool.not_eq_false', decide_eq_true_eq, decide_eq_false_iff_not, List.length_map] at h1)
  · obtain ⟨x, hx⟩ := at_some (xs := a) (i := i) (by omega)
    obtain ⟨y, hy⟩ := at_some (xs := b) (i := i) (by omega)
    have mx := List.mem_of_getElem? hx
    have my := List.mem_of_getElem? hy
    refine rn rfl ?_
    refine goal_draw' [0, 1] 12 rfl ?_
    refine drn [0, 1, 2, 5, 6, 7] (by kernel_rfl) (by kernel_rfl) rfl rfl ?_
    refine AH_did 3 rfl (by kernel_rfl) (by kernel_rfl) (by kernel_rfl) rfl rfl (dA_index (eL x) rfl rfl rfl rfl rfl rfl rfl (by omega) (by (try simp); omega) (map_at (by simpa using hx)) rfl) ?_
    refine drn [4] (by kernel_rfl) (by kernel_rfl) rfl rfl ?_
    refine AH_did 8 rfl (by kernel_rfl) (by kernel_rfl) (by kernel_rfl) rfl rfl (dA_index (eL y) rfl rfl rfl rfl rfl rfl rfl (by omega) (by (try simp); omega) (map_at (by simpa using hy)) rfl) ?_
    refine drn [9] (by kernel_rfl) (by kernel_rfl) rfl rfl ?_
    refine AH_one (i := 10) (by kernel_rfl) (step_call [] rfl rfl rfl rfl rfl rfl (ssameSlot_ct x y (ha.nodup x mx) (hb.nodup y my) (ha.size x mx).1 (ha.size x mx).2 (hb.size y my).2)) (by simp) ?_
    rintro σ2 ⟨r, o', ⟨rfl, rfl⟩, hσ⟩
    obtain rfl := Option.some.inj hσ
    clear hσ
    refine drn [11] (by kernel_rfl) (by kernel_rfl) rfl rfl ?_
    refine AH_end (by kernel_rfl) ?_
    refine rn rfl ?_
    refine goal_cond rfl (fun h2 => ?_) (fun h2 => ?_) <;> simp only [Bool.not_eq_true', Bool.not_eq_false'] at h2
    · refine rn rfl (round_ret (fin_is [] rfl ⟨?_, rfl⟩))
      cases hs : sameB a b with
      | false => rfl
      | true => rw [(sameB_iff.1 hs).2 i x y hx hy] at h2; cases h2
    · refine rn rfl ?_
      refine round_keep (a.length - (i + 1)) [5, 3, 2] [0, 1] (by omega) rfl ⟨_, i + 1, wrap64 (by omega) (by omega), by omega, rfl, fun j x' y' hx' hy' hj => ?_, rfl⟩
      by_cases hji : j = i
      · subst hji
        rw [hx] at hx'; rw [hy] at hy'
        cases hx'; cases hy'
        exact h2
      · exact hall j x' y' hx' hy' (by omega)
  · refine rn rfl (round_ext ?_)
    refine rn rfl (fin_is [] rfl ⟨?_, rfl⟩)
    rw [sameB_iff.2 ⟨hlen, fun j x y hx hy => hall j x y hx hy (by have := lt_of_some hx; omega)⟩]

theorem Given.nd {s : Sig} {f : Flat} {b : Bnds} (h : Given s f b) : NdB b := by
  obtain ⟨c1, c2⟩ := bound_small h.sig h.flat
  rw [← h.eq] at c1 c2
  refine ⟨by omega, fun x hx => ⟨by have := (c2 x hx).1; omega, by have := (c2 x hx).2; omega⟩, fun x hx => ?_⟩
  obtain ⟨i, hi⟩ := List.getElem?_of_mem hx
  obtain ⟨p, hp⟩ := at_some (xs := s) (i := i) (by rw [← h.len]; exact lt_of_some hi)
  rw [h.at hp hi]
  unfold giveQ
  split
  · exact h.flat.nodup.sublist (List.filter_sublist.map _)
  · split
    · split <;> simp [zL, namesOf]
    · unfold place1
      split
      · simp [namesOf]
      · split <;> simp [zL, namesOf]

def sslotOk (p : Param) (x : Slot) : Bool :=
  if p.kind = 2 then !x.given && (x.list.all okVal && (decide (x.list.length ≤ 8) && decide (x.pairs = [])))
  else if p.kind = 4 then !x.given && (decide (x.list = []) && okFlat ⟨[], x.pairs⟩)
  else decide (x.pairs = []) && ((x.given && (decide (x.list.length = 1) && x.list.all okVal)) || (!x.given && decide (x.list = [])))

def sslotAt (s : Sig) (b : Bnds) (i : Nat) : Bool := match s[i]?, b[i]? with
  | some p, some x => sslotOk p x
  | _, _ => true

def VBs (s : Sig) (b : Bnds) : Bool := okSig s && (decide (b.length = s.length) && ((List.range b.length).all (sslotAt s b) && (okFlat (unbQ s b) && (accQ s (unbQ s b) && sameB (boundQ s (unbQ s b)).1 b))))

theorem isort_nil {l : List Pair} (h : isortL ltN [] = isortL ltN l) : l = [] := by
  have := isort_len h
  cases l with
  | nil => rfl
  | cons a l => simp at this

theorem sinkG_perm {α : Type} (lt : α → α → Bool) (p : α) : ∀ (ra acc : List α), (sinkR lt p ra acc).Perm (p :: (ra.reverse ++ acc))
  | [], acc => by simp [sinkR]
  | x :: ra, acc => by
    unfold sinkR
    split
    · refine (sinkG_perm lt p ra (x :: acc)).trans ?_
      simp
    · exact List.perm_middle

theorem isortL_perm {α : Type} (lt : α → α → Bool) (xs : List α) : (isortL lt xs).Perm xs := by
  have key : ∀ (xs S : List α), (xs.foldl (fun S x => insR lt x S) S).Perm (xs ++ S) := by
    intro xs
    induction xs with
    | nil => intro S; exact List.Perm.refl _
    | cons x xs ih =>
      intro S
      have h2 : (insR lt x S).Perm (x :: S) := by simpa [insR] using sinkG_perm lt x S.reverse []
      refine (ih _).trans ?_
      exact (List.Perm.append_left xs h2).trans (by simp [List.perm_middle])
  have := key xs []
  rw [List.append_nil] at this
  exact this

theorem isort_perm {a b : List Pair} (h : isortL ltN a = isortL ltN b) : a.Perm b := by
  have h1 := isortL_perm ltN a
  have h2 := isortL_perm ltN b
  rw [h] at h1
  exact h1.symm.trans h2

theorem given_same {s : Sig} {b : Bnds} (hs : OkS s) (hU : OkF (unbQ s b)) (hacc : accQ s (unbQ s b) = true) (hsame : sameB (boundQ s (unbQ s b)).1 b = true) : Given s (unbQ s b) b := by
  refine ⟨hs, hU, hacc, ?_⟩
  obtain ⟨hl, hat⟩ := sameB_iff.1 hsame
  refine List.ext_getElem? fun i => ?_
  cases hx : b[i]? with
  | none =>
    rw [List.getElem?_eq_none_iff] at hx
    exact (List.getElem?_eq_none (by omega)).symm
  | some y =>
    obtain ⟨x, hxb⟩ := at_some (xs := (boundQ s (unbQ s b)).1) (i := i) (by rw [hl]; exact lt_of_some hx)
    obtain ⟨p, hp⟩ := at_some (xs := s) (i := i) (by rw [← boundQ_len s (unbQ s b)]; exact lt_of_some hxb)
    have hgx := bound_at hs hU hp hxb
    have hss := hat i x y hxb hx
    simp only [sameL, Bool.and_eq_true, beq_iff_eq, decide_eq_true_eq] at hss
    obtain ⟨h1, h2, h3⟩ := hss
    have h4 : x.pairs = y.pairs := by
      by_cases hk : p.kind = 4
      · have hxp : x.pairs = (unbQ s b).named.filter fun q => takesQ s q.name == (i : Int) := by rw [hgx]; unfold giveQ; rw [if_pos hk]
        obtain ⟨A, B, hAB⟩ := unb_at0 hp hx hk
        have hperm := isort_perm h3
        have hall : y.pairs.filter (fun q => takesQ s q.name == (i : Int)) = y.pairs := by
          rw [List.filter_eq_self]
          intro q hq
          have := (hperm.mem_iff (a := q)).2 hq
          rw [hxp] at this
          exact (List.mem_filter.1 this).2
        rw [hAB, List.filter_append, List.filter_append, hall] at hxp
        have hlen := hperm.length_eq
        rw [hxp] at hlen
        simp only [List.length_append] at hlen
        have e1 : A.filter (fun q => takesQ s q.name == (i : Int)) = [] := List.length_eq_zero_iff.1 (by omega)
        have e2 : B.filter (fun q => takesQ s q.name == (i : Int)) = [] := List.length_eq_zero_iff.1 (by omega)
        rw [hxp, e1, e2]; simp
      · have hxp : x.pairs = [] := by
          rw [hgx]; unfold giveQ; rw [if_neg hk]
          split
          · split <;> simp [zL]
          · unfold place1
            split
            · rfl
            · split <;> simp [zL]
        rw [hxp] at h3 ⊢
        exact (isort_nil h3).symm
    rw [hxb]
    obtain ⟨g, l, q⟩ := x
    obtain ⟨g', l', q'⟩ := y
    simp only at h1 h2 h4
    rw [h1, h2, h4]

theorem VBi_given {s : Sig} {b : Bnds} (h : VBi s b = true) : Given s (unbQ s b) b := by
  unfold VBi at h
  simp only [Bool.and_eq_true, decide_eq_true_eq] at h
  obtain ⟨h1, h2, h3, h4, h5⟩ := h
  obtain ⟨o1, o2, o3, o4⟩ := bindQ_ok h4
  rw [o4] at h5
  exact given_same o1 o2 o3 h5

theorem VBs_given {s : Sig} {b : Bnds} (h : VBs s b = true) : Given s (unbQ s b) b := by
  unfold VBs at h
  simp only [Bool.and_eq_true, decide_eq_true_eq] at h
  obtain ⟨h1, h2, h3, h4, h5, h6⟩ := h
  exact given_same (okSig_iff.1 h1) (okFlat_iff.1 h4) h5 h6

theorem Given.validS {s : Sig} {f : Flat} {b : Bnds} (h : Given s f b) : VBs s b = true := by
  have hag := h.again
  have hr : (List.range b.length).all (sslotAt s b) = true := by
    rw [List.all_eq_true]
    intro i hi
    have hi' := List.mem_range.1 hi
    obtain ⟨p, hp⟩ := at_some (xs := s) (i := i) (by rw [← h.len]; exact hi')
    have hx := h.get hp
    unfold sslotAt
    rw [hp, hx]
    simp only
    have hkr := h.sig.kindRange (List.mem_of_getElem? hp)
    have hv := give_vals (s := s) h.flat (i := i) (p := p)
    have hpl := h.flat.places
    have hnl := h.flat.named
    unfold sslotOk
    by_cases hk2 : p.kind = 2
    · rw [if_pos hk2]
      have hall : (giveQ s f.places f.named i p).list.all okVal = true := List.all_eq_true.2 hv
      rw [give_rest hk2] at hall ⊢
      simp only at hall ⊢
      rw [hall]
      simp; omega
    rw [if_neg hk2]
    by_cases hk4 : p.kind = 4
    · rw [if_pos hk4]
      unfold giveQ
      rw [if_pos hk4]
      have : okFlat ⟨[], f.named.filter fun q => takesQ s q.name == (i : Int)⟩ = true := okFlat_iff.2
        ⟨fun q hq => h.flat.pairs q (List.mem_filter.1 hq).1, h.flat.nodup.sublist (List.filter_sublist.map _), by simp, by simp, by have := (List.filter_sublist (p := fun q => takesQ s q.name == (i : Int)) (l := f.named)).length_le; simp only; omega⟩
      simp [this]
    rw [if_neg hk4]
    have hsg : singleQ p = true := single_kind.2 (by omega)
    have hsh := give_shape (s := s) (pl := f.places) (qs := f.named) (i := i) (p := p) hsg
    have hall : (giveQ s f.places f.named i p).list.all okVal = true := List.all_eq_true.2 hv
    cases hg : (giveQ s f.places f.named i p).given with
    | true => rw [hsh.1 hg] at hall ⊢; simpa using hall
    | false => rw [hsh.2 hg]; simp [zL]
  unfold VBs
  rw [hr, okSig_iff.2 h.sig, okFlat_iff.2 hag.flat, hag.acc, ← hag.eq, sameB_self]
  simp [h.len]

theorem VB_eq (s : Sig) (b : Bnds) : VBs s b = VBi s b := by
  cases h : VBi s b with
  | true => exact (VBi_given h).validS
  | false =>
    cases h' : VBs s b with
    | false => rfl
    | true => rw [(VBs_given h').valid] at h; cases h

structure LenB (b : Bnds) : Prop where
  len : b.length ≤ 1048576
  size : ∀ x ∈ b, x.list.length ≤ 1048576 ∧ x.pairs.length ≤ 1048576
  names : ∀ x ∈ b, ∀ q ∈ x.pairs, q.name.length ≤ 9223372036854775807

theorem svalidSlot_ct (p : Param) (x : Slot) (h1 : x.list.length ≤ 1048576) (h2 : x.pairs.length ≤ 1048576) (hn : ∀ q ∈ x.pairs, q.name.length ≤ 9223372036854775807) :
    ACalls pk 23 [.agg (eQ p), .agg (eL x)] [] (fun r o => r = .one (.bool (sslotOk p x)) ∧ o = []) := by
  refine acalls_of_body Tryz.func23 rfl (by kernel_rfl) rfl ?_
  refine rn rfl ?_
  refine goal_cond rfl (fun hk2 => ?_) (fun hk2 => ?_) <;> (try simp only [gt_iff_lt, ge_iff_le, bne_iff_ne, ne_eq, bne_eq_false_iff_eq, beq_iff_eq, beq_eq_false_iff_ne, Bool.not_eq_true', Bool.not_eq_false', decide_eq_true_eq, decide_eq_false_iff_not, List.length_map] at hk2)
  · refine rn rfl ?_
    refine goal_guard rfl rfl rfl (fun hg => ?_) (fun hg => ?_) <;> (try simp only [gt_iff_lt, ge_iff_le, bne_iff_ne, ne_eq, bne_eq_false_iff_eq, beq_iff_eq, beq_eq_false_iff_ne, Bool.not_eq_true', Bool.not_eq_false', decide_eq_true_eq, decide_eq_false_iff_not, List.length_map] at hg)
    · refine rn rfl ?_
      refine goal_step (step_call [] rfl rfl rfl rfl rfl rfl (validNumbers_ct x.list (by omega))) ?_
      rintro σ2 ⟨r, o', ⟨rfl, rfl⟩, hσ⟩
      obtain rfl := Option.some.inj hσ
      clear hσ
      refine rn rfl ?_
      refine goal_guard rfl rfl rfl (fun hv => ?_) (fun hv => ?_) <;> (try simp only [gt_iff_lt, ge_iff_le, bne_iff_ne, ne_eq, bne_eq_false_iff_eq, beq_iff_eq, beq_eq_false_iff_ne, Bool.not_eq_true', Bool.not_eq_false', decide_eq_true_eq, decide_eq_false_iff_not, List.length_map] at hv)
      · refine rn rfl ?_
        refine goal_guard rfl rfl rfl (fun hl => ?_) (fun hl => ?_) <;> (try simp only [gt_iff_lt, ge_iff_le, bne_iff_ne, ne_eq, bne_eq_false_iff_eq, beq_iff_eq, beq_eq_false_iff_ne, Bool.not_eq_true', Bool.not_eq_false', decide_eq_true_eq, decide_eq_false_iff_not, List.length_map] at hl)
        · have hl' : x.list.length ≤ 8 := by omega
          refine rn rfl (fin_is [] rfl ⟨?_, rfl⟩)
          simp only [nil_zero, List.length_map]
          simp [sslotOk, hk2, hg, hv, hl']
        · have hl' : ¬ x.list.length ≤ 8 := by omega
          refine rn rfl (fin_is [] rfl ⟨?_, rfl⟩)
          simp [sslotOk, hk2, hg, hv, hl']
      · refine rn rfl (fin_is [] rfl ⟨?_, rfl⟩)
        simp only [sslotOk, hk2, hg, hv]
        simp
    · refine rn rfl (fin_is [] rfl ⟨?_, rfl⟩)
      simp [sslotOk, hk2, hg]
  · refine rn rfl ?_
    refine goal_cond rfl (fun hk4 => ?_) (fun hk4 => ?_) <;> (try simp only [gt_iff_lt, ge_iff_le, bne_iff_ne, ne_eq, bne_eq_false_iff_eq, beq_iff_eq, beq_eq_false_iff_ne, Bool.not_eq_true', Bool.not_eq_false', decide_eq_true_eq, decide_eq_false_iff_not, List.length_map] at hk4)
    · refine rn rfl ?_
      refine goal_guard rfl rfl rfl (fun hg => ?_) (fun hg => ?_) <;> (try simp only [gt_iff_lt, ge_iff_le, bne_iff_ne, ne_eq, bne_eq_false_iff_eq, beq_iff_eq, beq_eq_false_iff_ne, Bool.not_eq_true', Bool.not_eq_false', decide_eq_true_eq, decide_eq_false_iff_not, List.length_map] at hg)
      · refine rn rfl ?_
        refine goal_guard rfl rfl rfl (fun hl => ?_) (fun hl => ?_) <;> (try simp only [gt_iff_lt, ge_iff_le, bne_iff_ne, ne_eq, bne_eq_false_iff_eq, beq_iff_eq, beq_eq_false_iff_ne, Bool.not_eq_true', Bool.not_eq_false', decide_eq_true_eq, decide_eq_false_iff_not, List.length_map] at hl)
        · have hl' : x.list = [] := by
            cases hx : x.list with
            | nil => rfl
            | cons a l => rw [hx] at hl; simp at hl; omega
          refine rn rfl ?_
          refine goal_step (step_call [] rfl rfl rfl rfl rfl rfl (svalidFlat_ct ⟨[], x.pairs⟩ (by simp) (by simp only; omega) hn)) ?_
          rintro σ2 ⟨r, o', ⟨rfl, rfl⟩, hσ⟩
          obtain rfl := Option.some.inj hσ
          clear hσ
          refine rn rfl ?_
          refine rn rfl (fin_is [] rfl ⟨?_, rfl⟩)
          simp [sslotOk, hk2, hk4, hg, hl']
        · have hl' : x.list ≠ [] := fun h0 => by rw [h0] at hl; simp at hl
          refine rn rfl (fin_is [] rfl ⟨?_, rfl⟩)
          simp [sslotOk, hk2, hk4, hg, hl']
      · refine rn rfl (fin_is [] rfl ⟨?_, rfl⟩)
        simp [sslotOk, hk2, hk4, hg]
    · refine rn rfl ?_
      refine goal_guard rfl rfl rfl (fun hp => ?_) (fun hp => ?_) <;> (try simp only [gt_iff_lt, ge_iff_le, bne_iff_ne, ne_eq, bne_eq_false_iff_eq, beq_iff_eq, beq_eq_false_iff_ne, Bool.not_eq_true', Bool.not_eq_false', decide_eq_true_eq, decide_eq_false_iff_not, List.length_map] at hp)
      · have hp' : x.pairs = [] := by
          cases hx : x.pairs with
          | nil => rfl
          | cons a l => rw [hx] at hp; simp at hp; omega
        refine rn rfl ?_
        refine goal_guard rfl rfl rfl (fun hg => ?_) (fun hg => ?_) <;> (try simp only [gt_iff_lt, ge_iff_le, bne_iff_ne, ne_eq, bne_eq_false_iff_eq, beq_iff_eq, beq_eq_false_iff_ne, Bool.not_eq_true', Bool.not_eq_false', decide_eq_true_eq, decide_eq_false_iff_not, List.length_map] at hg)
        · refine rn rfl ?_
          refine goal_guard rfl rfl rfl (fun hl => ?_) (fun hl => ?_) <;> (try simp only [gt_iff_lt, ge_iff_le, bne_iff_ne, ne_eq, bne_eq_false_iff_eq, beq_iff_eq, beq_eq_false_iff_ne, Bool.not_eq_true', Bool.not_eq_false', decide_eq_true_eq, decide_eq_false_iff_not, List.length_map] at hl)
          · have hl' : x.list.length = 1 := by omega
            refine rn rfl ?_
            refine goal_step (step_call [] rfl rfl rfl rfl rfl rfl (validNumbers_ct x.list (by omega))) ?_
            rintro σ2 ⟨r, o', ⟨rfl, rfl⟩, hσ⟩
            obtain rfl := Option.some.inj hσ
            clear hσ
            refine rn rfl ?_
            refine goal_guard rfl rfl rfl (fun hv => ?_) (fun hv => ?_) <;> (try simp only [gt_iff_lt, ge_iff_le, bne_iff_ne, ne_eq, bne_eq_false_iff_eq, beq_iff_eq, beq_eq_false_iff_ne, Bool.not_eq_true', Bool.not_eq_false', decide_eq_true_eq, decide_eq_false_iff_not, List.length_map] at hv)
            · refine rn rfl (fin_is [] rfl ⟨?_, rfl⟩)
              simp only [sslotOk, hk2, hk4, hg, hp', hv, hl']
              simp
            · refine rn rfl ?_
              refine goal_guard rfl rfl rfl (fun h0 => by simp [hg] at h0) (fun _ => ?_)
              refine rn rfl (fin_is [] rfl ⟨?_, rfl⟩)
              simp only [sslotOk, hk2, hk4, hg, hp', hv, hl']
              simp
          · have hl' : ¬ x.list.length = 1 := by omega
            refine rn rfl ?_
            refine goal_guard rfl rfl rfl (fun h0 => by simp [hg] at h0) (fun _ => ?_)
            refine rn rfl (fin_is [] rfl ⟨?_, rfl⟩)
            simp [sslotOk, hk2, hk4, hg, hp', hl']
        · refine rn rfl ?_
          refine goal_guard rfl rfl rfl (fun _ => ?_) (fun h0 => by simp [hg] at h0)
          refine rn rfl (fin_is [] rfl ⟨?_, rfl⟩)
          simp only [nil_zero, List.length_map]
          simp [sslotOk, hk2, hk4, hg, hp']
      · have hp' : x.pairs ≠ [] := fun h0 => by rw [h0] at hp; simp at hp
        refine rn rfl (fin_is [] rfl ⟨?_, rfl⟩)
        simp [sslotOk, hk2, hk4, hp']

theorem sslot_small {p : Param} {x : Slot} (h : sslotOk p x = true) : x.list.length ≤ 8 ∧ x.pairs.length ≤ 8 ∧ (namesOf x.pairs).Nodup := by
  unfold sslotOk at h
  split at h
  · simp only [Bool.and_eq_true, decide_eq_true_eq] at h
    obtain ⟨_, _, h1, h2⟩ := h
    rw [h2]; exact ⟨h1, by simp, by simp [namesOf]⟩
  · split at h
    · simp only [Bool.and_eq_true, decide_eq_true_eq] at h
      obtain ⟨_, h1, h2⟩ := h
      have := okFlat_iff.1 h2
      rw [h1]; exact ⟨by simp, this.named, this.nodup⟩
    · simp only [Bool.and_eq_true, Bool.or_eq_true, decide_eq_true_eq] at h
      obtain ⟨h1, h2⟩ := h
      rw [h1]
      rcases h2 with ⟨_, h2, _⟩ | ⟨_, h2⟩
      · exact ⟨by omega, by simp, by simp [namesOf]⟩
      · rw [h2]; exact ⟨by simp, by simp, by simp [namesOf]⟩

theorem sslots_okB {s : Sig} {b : Bnds} (hs : OkS s) (hlen : b.length = s.length) (hall : ∀ j, j < b.length → sslotAt s b j = true) : OkB s b ∧ NdB b := by
  have key : ∀ x ∈ b, ∃ (i : Nat) (p : Param), s[i]? = some p ∧ b[i]? = some x ∧ sslotOk p x = true := fun x hx => by
    obtain ⟨i, hi⟩ := List.getElem?_of_mem hx
    obtain ⟨p, hp⟩ := at_some (xs := s) (i := i) (by rw [← hlen]; exact lt_of_some hi)
    have := hall i (lt_of_some hi)
    unfold sslotAt at this
    rw [hp, hi] at this
    exact ⟨i, p, hp, hi, this⟩
  have hfew := hs.len
  refine ⟨⟨hlen, hs.len, fun p hp => hs.kindRange hp, fun i p x hp hx hsg hg => ?_, fun x hx => ?_⟩, ⟨by omega, fun x hx => ?_, fun x hx => ?_⟩⟩
  · have := hall i (lt_of_some hx)
    unfold sslotAt sslotOk at this
    rw [hp, hx] at this
    rw [single_kind] at hsg
    simp only at this
    rw [if_neg (by omega), if_neg (by omega), hg] at this
    simp only [Bool.and_eq_true, Bool.or_eq_true, decide_eq_true_eq] at this
    rcases this.2 with h | h
    · exact List.length_eq_one_iff.1 h.2.1
    · simp at h
  · obtain ⟨i, p, _, _, h⟩ := key x hx
    obtain ⟨h1, h2, _⟩ := sslot_small h
    omega
  · obtain ⟨i, p, _, _, h⟩ := key x hx
    obtain ⟨h1, h2, _⟩ := sslot_small h
    omega
  · obtain ⟨i, p, _, _, h⟩ := key x hx
    exact (sslot_small h).2.2

theorem sslots_small {s : Sig} {b : Bnds} (hs : OkS s) (hlen : b.length = s.length) (hall : ∀ j, j < b.length → sslotAt s b j = true) : ∀ x ∈ b, x.list.length ≤ 8 ∧ x.pairs.length ≤ 8 := by
  intro x hx
  obtain ⟨i, hi⟩ := List.getElem?_of_mem hx
  obtain ⟨p, hp⟩ := at_some (xs := s) (i := i) (by rw [← hlen]; exact lt_of_some hi)
  have := hall i (lt_of_some hi)
  unfold sslotAt at this
  rw [hp, hi] at this
  obtain ⟨h1, h2, _⟩ := sslot_small this
  exact ⟨h1, h2⟩

theorem unb_lenS {s : Sig} {b : Bnds} (hs : LenS s) (hb : ∀ x ∈ b, ∀ q ∈ x.pairs, q.name.length ≤ 9223372036854775807) (hok : OkB s b) (hsz : ∀ x ∈ b, x.list.length ≤ 8 ∧ x.pairs.length ≤ 8) : LenF (unbQ s b) := by
  have h1 := unb_cnt hok
  have h2 := cntB_bound (M := 16) (b := b) (fun x hx => by have := hsz x hx; unfold cntL; omega)
  have h3 := hok.few
  have h4 := hok.len
  exact ⟨by omega, by omega, unb_names hs.names hb⟩

theorem svalidB_ct (s : Sig) (b : Bnds) (hs : LenS s) (hb : LenB b) : ACalls pk 13 [.agg (eG s), .agg (eBi b)] [] (fun r o => r = .one (.bool (VBs s b)) ∧ o = []) := by
  have hls := hs
  obtain ⟨s1, s2⟩ := hs
  have hbl := hb.len
  refine acalls_of_body Tryz.func13 rfl (by kernel_rfl) rfl ?_
  refine rn rfl ?_
  refine goal_step (step_call [] rfl rfl rfl rfl rfl rfl (svalidSig_ct s (by omega) s2)) ?_
  rintro σ2 ⟨r, o', ⟨rfl, rfl⟩, hσ⟩
  obtain rfl := Option.some.inj hσ
  clear hσ
  refine rn rfl ?_
  refine goal_guard rfl rfl rfl (fun h1 => ?_) (fun h1 => ?_) <;> (try simp only [gt_iff_lt, ge_iff_le, bne_iff_ne, ne_eq, bne_eq_false_iff_eq, beq_iff_eq, beq_eq_false_iff_ne, Bool.not_eq_true', Bool.not_eq_false', decide_eq_true_eq, decide_eq_false_iff_not, List.length_map] at h1)
  · refine rn rfl (fin_is [] rfl ⟨?_, rfl⟩)
    simp [VBs, h1]
  have hok := okSig_iff.1 h1
  refine rn rfl ?_
  refine goal_cond rfl (fun h2 => ?_) (fun h2 => ?_) <;> simp only [List.length_map, bne_iff_ne, ne_eq, bne_eq_false_iff_eq] at h2
  · refine rn rfl (fin_is [] rfl ⟨?_, rfl⟩)
    have : b.length ≠ s.length := by omega
    simp [VBs, this]
  have hlen : b.length = s.length := by omega
  refine rn rfl ?_
  refine goal_loop_keep (fun m σ => ∃ (q : Int) (i : Nat), q = i ∧ i ≤ b.length ∧ m = b.length - i ∧ (∀ j, j < i → sslotAt s b j = true) ∧
      σ = ⟨[(5, .one (.int .i64 q)), (3, .one (.op 1 0 0)), (2, .one (.op 0 0 0))],
        [some ⟨1, [eG s], false, false, true⟩, some ⟨1, [eBi b], false, false, true⟩], []⟩) b.length [5, 3, 2] [0, 1] rfl
    ⟨_, 0, rfl, by omega, by omega, fun j hj => by omega, rfl⟩ ?_
  rintro m σ ⟨q, i, rfl, hi, rfl, hall, rfl⟩
  refine rn rfl ?_
  refine goal_cond rfl (fun h3 => ?_) (fun h3 => ?_) <;> (try simp only [gt_iff_lt, ge_iff_le, bne_iff_ne, ne_eq, bne_eq_false_iff_eq, beq_iff_eq, beq_eq_false_iff_ne, Bool.not_eq_true', Bool.not_eq_false', decide_eq_true_eq, decide_eq_false_iff_not, List.length_map] at h3)
  · obtain ⟨x, hx⟩ := at_some (xs := b) (i := i) (by omega)
    obtain ⟨p, hp⟩ := at_some (xs := s) (i := i) (by omega)
    obtain ⟨l1, l2⟩ := hb.size x (List.mem_of_getElem? hx)
    have ln := hb.names x (List.mem_of_getElem? hx)
    refine rn rfl ?_
    refine goal_draw' [0, 1] 12 rfl ?_
    refine drn [0, 1, 2, 5, 6, 7] (by kernel_rfl) (by kernel_rfl) rfl rfl ?_
    refine AH_did 3 rfl (by kernel_rfl) (by kernel_rfl) (by kernel_rfl) rfl rfl (dA_index (eQ p) rfl rfl rfl rfl rfl rfl rfl (by omega) (by (try simp); omega) (map_at (by simpa using hp)) rfl) ?_
    refine drn [4] (by kernel_rfl) (by kernel_rfl) rfl rfl ?_
    refine AH_did 8 rfl (by kernel_rfl) (by kernel_rfl) (by kernel_rfl) rfl rfl (dA_index (eL x) rfl rfl rfl rfl rfl rfl rfl (by omega) (by (try simp); omega) (map_at (by simpa using hx)) rfl) ?_
    refine drn [9] (by kernel_rfl) (by kernel_rfl) rfl rfl ?_
    refine AH_one (i := 10) (by kernel_rfl) (step_call [] rfl rfl rfl rfl rfl rfl (svalidSlot_ct p x l1 l2 ln)) (by simp) ?_
    rintro σ2 ⟨r, o', ⟨rfl, rfl⟩, hσ⟩
    obtain rfl := Option.some.inj hσ
    clear hσ
    refine drn [11] (by kernel_rfl) (by kernel_rfl) rfl rfl ?_
    refine AH_end (by kernel_rfl) ?_
    refine rn rfl ?_
    refine goal_cond rfl (fun h4 => ?_) (fun h4 => ?_) <;> simp only [Bool.not_eq_true', Bool.not_eq_false'] at h4
    · refine rn rfl (round_ret (fin_is [] rfl ⟨?_, rfl⟩))
      have h5 : sslotAt s b i = false := by unfold sslotAt; rw [hp, hx]; exact h4
      have : (List.range b.length).all (sslotAt s b) = false := by
        rw [List.all_eq_false]
        exact ⟨i, List.mem_range.2 (by omega), by simp [h5]⟩
      simp [VBs, this]
    · have h5 : sslotAt s b i = true := by unfold sslotAt; rw [hp, hx]; exact h4
      refine rn rfl ?_
      refine round_keep (b.length - (i + 1)) [5, 3, 2] [0, 1] (by omega) rfl ⟨_, i + 1, wrap64 (by omega) (by omega), by omega, rfl, fun j hj => ?_, rfl⟩
      by_cases hji : j = i
      · subst hji; exact h5
      · exact hall j (by omega)
  · refine rn rfl (round_ext ?_)
    have hall' : ∀ j, j < b.length → sslotAt s b j = true := fun j hj => hall j (by omega)
    obtain ⟨hokB, hnd⟩ := sslots_okB hok hlen hall'
    have hr : (List.range b.length).all (sslotAt s b) = true := by
      rw [List.all_eq_true]; intro j hj; exact hall' j (List.mem_range.1 hj)
    have hV : VBs s b = (okFlat (unbQ s b) && (accQ s (unbQ s b) && sameB (boundQ s (unbQ s b)).1 b)) := by unfold VBs; rw [hr, h1, decide_eq_true hlen]; simp only [Bool.true_and]
    have lU := unb_lenS hls hb.names hokB (fun x hx => sslots_small hok hlen hall' x hx)
    have hU := sunbound_ct s b hokB
    have hF := svalidFlat_ct (unbQ s b) (by have := lU.places; omega) (by have := lU.named; omega) lU.names
    have hA := saccepts_ct s (unbQ s b) hok lU
    have hB := sbound_ct s (unbQ s b) hok lU.places lU.named
    have hG : okFlat (unbQ s b) = true → accQ s (unbQ s b) = true → NdB (boundQ s (unbQ s b)).1 := fun a1 a2 => (Given.mk (s := s) (f := unbQ s b) (b := (boundQ s (unbQ s b)).1) hok (okFlat_iff.1 a1) a2 rfl).nd
    rw [hV]
    generalize unbQ s b = U at *
    refine rn rfl ?_
    refine goal_step (step_call [] rfl rfl rfl rfl rfl rfl (hU)) ?_
    rintro σ2 ⟨r, o', ⟨rfl, rfl⟩, hσ⟩
    obtain rfl := Option.some.inj hσ
    clear hσ
    refine rn rfl ?_
    refine rn rfl ?_
    refine goal_step (step_call [] rfl rfl rfl rfl rfl rfl (hF)) ?_
    rintro σ2 ⟨r, o', ⟨rfl, rfl⟩, hσ⟩
    obtain rfl := Option.some.inj hσ
    clear hσ
    refine rn rfl ?_
    refine goal_guard rfl rfl rfl (fun h6 => ?_) (fun h6 => ?_) <;> (try simp only [gt_iff_lt, ge_iff_le, bne_iff_ne, ne_eq, bne_eq_false_iff_eq, beq_iff_eq, beq_eq_false_iff_ne, Bool.not_eq_true', Bool.not_eq_false', decide_eq_true_eq, decide_eq_false_iff_not, List.length_map] at h6)
    · refine rn rfl (fin_is [] rfl ⟨?_, rfl⟩)
      simp [h6]
    refine rn rfl ?_
    refine goal_step (step_call [] rfl rfl rfl rfl rfl rfl (hA)) ?_
    rintro σ2 ⟨r, o', ⟨rfl, rfl⟩, hσ⟩
    obtain rfl := Option.some.inj hσ
    clear hσ
    refine rn rfl ?_
    refine goal_cond rfl (fun h7 => ?_) (fun h7 => ?_) <;> (try simp only [gt_iff_lt, ge_iff_le, bne_iff_ne, ne_eq, bne_eq_false_iff_eq, beq_iff_eq, beq_eq_false_iff_ne, Bool.not_eq_true', Bool.not_eq_false', decide_eq_true_eq, decide_eq_false_iff_not, List.length_map] at h7)
    · refine rn rfl (fin_is [] rfl ⟨?_, rfl⟩)
      simp [h7]
    refine rn rfl ?_
    refine goal_step (step_call [] rfl rfl rfl rfl rfl rfl (hB)) ?_
    rintro σ2 ⟨r, o', ⟨rfl, rfl⟩, hσ⟩
    obtain rfl := Option.some.inj hσ
    clear hσ
    refine rn rfl ?_
    refine rn rfl ?_
    refine goal_step (step_call [] rfl rfl rfl rfl rfl rfl (ssameB_ct (boundQ s U).1 b (hG (by simpa using h6) (by simpa using h7)) hnd)) ?_
    rintro σ2 ⟨r, o', ⟨rfl, rfl⟩, hσ⟩
    obtain rfl := Option.some.inj hσ
    clear hσ
    refine rn rfl ?_
    refine rn rfl (fin_is [] rfl ⟨?_, rfl⟩)
    simp [h6, h7]

theorem sUnbind_ct (s : Sig) (b : Bnds) (hs : LenS s) (hb : LenB b) : ACalls pk 6 [.agg (eG s), .agg (eBi b)] [] (fun r o => r = .agg (eF (if VBi s b then unbQ s b else zF)) ∧ o = []) := by
  rw [← VB_eq]
  refine acalls_of_body Tryz.func6 rfl (by kernel_rfl) rfl ?_
  refine rn rfl ?_
  refine goal_step (step_call [] rfl rfl rfl rfl rfl rfl (svalidB_ct s b hs hb)) ?_
  rintro σ2 ⟨r, o', ⟨rfl, rfl⟩, hσ⟩
  obtain rfl := Option.some.inj hσ
  clear hσ
  refine rn rfl ?_
  refine goal_cond rfl (fun h => ?_) (fun h => ?_) <;> (try simp only [gt_iff_lt, ge_iff_le, bne_iff_ne, ne_eq, bne_eq_false_iff_eq, beq_iff_eq, beq_eq_false_iff_ne, Bool.not_eq_true', Bool.not_eq_false', decide_eq_true_eq, decide_eq_false_iff_not, List.length_map] at h)
  · refine rn rfl (fin_is [] rfl ⟨?_, rfl⟩)
    simp [h]; rfl
  · have hV : VBs s b = true := by simpa using h
    have G := VBs_given hV
    have hok : OkB s b := by rw [G.eq]; exact bound_okB G.sig G.flat
    rw [if_pos hV]
    refine rn rfl ?_
    refine goal_step (step_call [] rfl rfl rfl rfl rfl rfl (sunbound_ct s b hok)) ?_
    rintro σ2 ⟨r, o', ⟨rfl, rfl⟩, hσ⟩
    obtain rfl := Option.some.inj hσ
    clear hσ
    refine rn rfl ?_
    exact rn rfl (fin_is [] rfl ⟨rfl, rfl⟩)

structure MidB (b : Bnds) : Prop where
  len : b.length ≤ 8
  size : ∀ x ∈ b, x.list.length ≤ 9 ∧ x.pairs.length ≤ 8
  names : ∀ x ∈ b, ∀ q ∈ x.pairs, q.name.length ≤ 6

theorem MidB.small {b : Bnds} (h : MidB b) : SmallB b := ⟨by have := h.len; omega, fun x hx => by have := h.size x hx; omega, fun x hx q hq => by have := h.names x hx q hq; omega, by
  have h1 := cntB_bound (M := 20) (b := b) (fun x hx => by have := h.size x hx; unfold cntL; omega)
  have h2 := h.len
  omega⟩

theorem MidB.set {b : Bnds} (h : MidB b) {j : Nat} {y : Slot} (h1 : y.list.length ≤ 9 ∧ y.pairs.length ≤ 8) (h2 : ∀ q ∈ y.pairs, q.name.length ≤ 6) : MidB (b.set j y) := by
  refine ⟨by rw [List.length_set]; exact h.len, fun x hx => ?_, fun x hx => ?_⟩
  · rcases List.mem_or_eq_of_mem_set hx with hx | rfl
    · exact h.size x hx
    · exact h1
  · rcases List.mem_or_eq_of_mem_set hx with hx | rfl
    · exact h.names x hx
    · exact h2

theorem VBi_okB {s : Sig} {b : Bnds} (hb : SmallB b) (h : VBi s b = true) : OkB s b := by
  unfold VBi at h
  simp only [Bool.and_eq_true, decide_eq_true_eq, List.all_eq_true, List.mem_range] at h
  exact slots_okB (okSig_iff.1 h.1) hb h.2.1 h.2.2.1

theorem iUnbind_ct (s : Sig) (b : Bnds) (hs : LenS s) (hb : SmallB b) : ACalls pk 4 [.agg (eG s), .agg (eBi b)] [] (fun r o => r = .agg (eF (if VBi s b then unbQ s b else zF)) ∧ o = []) := by
  refine acalls_of_body Tryz.func4 rfl (by kernel_rfl) rfl ?_
  refine rn rfl ?_
  refine goal_step (step_call [] rfl rfl rfl rfl rfl rfl (ivalidBinding_ct s b hs hb)) ?_
  rintro σ2 ⟨r, o', ⟨rfl, rfl⟩, hσ⟩
  obtain rfl := Option.some.inj hσ
  clear hσ
  refine rn rfl ?_
  refine goal_cond rfl (fun h => ?_) (fun h => ?_) <;> (try simp only [gt_iff_lt, ge_iff_le, bne_iff_ne, ne_eq, bne_eq_false_iff_eq, beq_iff_eq, beq_eq_false_iff_ne, Bool.not_eq_true', Bool.not_eq_false', decide_eq_true_eq, decide_eq_false_iff_not, List.length_map] at h)
  · refine rn rfl (fin_is [] rfl ⟨?_, rfl⟩)
    simp [h]; rfl
  · refine rn rfl ?_
    refine goal_step (step_call [] rfl rfl rfl rfl rfl rfl (iunbindD_ct s b (VBi_okB hb h))) ?_
    rintro σ2 ⟨r, o', ⟨rfl, rfl⟩, hσ⟩
    obtain rfl := Option.some.inj hσ
    clear hσ
    refine rn rfl ?_
    refine rn rfl (fin_is [] rfl ⟨?_, rfl⟩)
    simp [h]; rfl

section

variable {s : Sig} {f : Flat} {b : Bnds}

end

section

variable {s : Sig} {f : Flat} {b : Bnds}

theorem Given.more (h : Given s f b) : f.places.length ≤ (unbQ s b).places.length := by
  obtain ⟨op, V, R, X, Y, I⟩ := h.unb
  rw [I.places, List.length_append]
  have hV : V.length ≤ placesQ s := by have := I.vlen; omega
  by_cases hlt : V.length < placesQ s
  · have := (h.gap I hlt).1; omega
  · by_cases h2 : ∃ (j : Nat) (p : Param), s[j]? = some p ∧ p.kind = 2
    · obtain ⟨j, p, hp, hk⟩ := h2
      have hR := I.rest j p _ (lt_of_some hp) hp (h.get hp) hk
      rw [give_rest hk] at hR
      have : R.length = f.places.length - placesQ s := by rw [hR]; simp
      omega
    · have h1 := ((acc_iff h.sig h.flat).1 h.acc).1
      have : ¬ placesQ s < f.places.length := fun h0 => by
        obtain ⟨p, hp, hk⟩ := List.any_eq_true.1 (h1 h0)
        obtain ⟨j, hj⟩ := List.getElem?_of_mem hp
        exact h2 ⟨j, p, hj, by simpa [kIs] using hk⟩
      omega

end

def CanonF (s : Sig) (f : Flat) : Flat × Bool := if (BindQ s f).2 then (unbQ s (BindQ s f).1, true) else (zF, false)

theorem icanon_ct (s : Sig) (f : Flat) (hs : LenS s) (hf : LenF f) : ACalls pk 8 [.agg (eG s), .agg (eF f)] [] (fun r o => r = .tup [.agg (eF (CanonF s f).1), .one (.bool (CanonF s f).2)] ∧ o = []) := by
  refine acalls_of_body Tryz.func8 rfl (by kernel_rfl) rfl ?_
  refine rn rfl ?_
  refine goal_step (step_call [] rfl rfl rfl rfl rfl rfl (iBindD_ct s f hs hf)) ?_
  rintro σ2 ⟨r, o', ⟨rfl, rfl⟩, hσ⟩
  obtain rfl := Option.some.inj hσ
  clear hσ
  refine rn rfl ?_
  refine goal_cond rfl (fun h => ?_) (fun h => ?_) <;> (try simp only [gt_iff_lt, ge_iff_le, bne_iff_ne, ne_eq, bne_eq_false_iff_eq, beq_iff_eq, beq_eq_false_iff_ne, Bool.not_eq_true', Bool.not_eq_false', decide_eq_true_eq, decide_eq_false_iff_not, List.length_map] at h)
  · refine rn rfl (fin_is [] rfl ⟨?_, rfl⟩)
    simp [CanonF, h]; rfl
  · have hok : (BindQ s f).2 = true := h
    obtain ⟨o1, o2, _, heq⟩ := bindQ_ok hok
    have hB := bound_okB o1 o2
    have hc : CanonF s f = (unbQ s (boundQ s f).1, true) := by simp [CanonF, heq]
    rw [hc, heq]
    refine rn rfl ?_
    refine goal_step (step_call [] rfl rfl rfl rfl rfl rfl (iunbindD_ct s (boundQ s f).1 hB)) ?_
    rintro σ2 ⟨r, o', ⟨rfl, rfl⟩, hσ⟩
    obtain rfl := Option.some.inj hσ
    clear hσ
    refine rn rfl ?_
    exact rn rfl (fin_is [] rfl ⟨rfl, rfl⟩)

theorem Given.canon {s : Sig} {f : Flat} {b : Bnds} (h : Given s f b) : CanonF s f = (unbQ s b, true) := by
  unfold CanonF
  rw [h.bind]; rfl

theorem equalFlatSelf_ct (f : Flat) (hf : LenF f) : ACalls pk 5 [.agg (eF f), .agg (eF f)] [] (fun r o => r = .one (.bool true) ∧ o = []) := by
  have := equalFlat_ct f f (by have := hf.places; omega) (by have := hf.named; omega)
  simpa using this

theorem unbV_len {s : Sig} {b : Bnds} : LenF (if VBi s b then unbQ s b else zF) := by
  split
  · rename_i h; exact (VBi_given h).flat.len
  · exact ⟨by simp [zF], by simp [zF], by simp [zF]⟩

structure BigS (s : Sig) : Prop where
  len : s.length ≤ 9223372036854775807
  names : ∀ p ∈ s, p.name.length ≤ 9223372036854775807

structure BigB (b : Bnds) : Prop where
  len : b.length ≤ 9223372036854775807
  list : ∀ x ∈ b, 8 * x.list.length ≤ 140737488351232
  pairs : ∀ x ∈ b, 24 * x.pairs.length ≤ 140737488351232
  names : ∀ x ∈ b, ∀ q ∈ x.pairs, q.name.length ≤ 9223372036854775807

theorem BigS.of (s : Sig) (h : LenS s) : BigS s := ⟨by have := h.params; omega, h.names⟩

theorem indexPairX_ct (ps : List Pair) (hb : ps.length ≤ 9223372036854775807) (pred : Pair → Bool) (f : FuncId) (cs : List C)
    (hcl : ∀ p, ACalls pk f [.agg (eP p), .one (.fp cs)] [] (fun r o => r = .one (.bool (pred p)) ∧ o = [])) :
    ACalls pk 57 [.one (.fs (ps.map eP)), .one (.fn f [.fp cs])] [] (fun r o => r = .one (.int .i64 (idxI pred ps 0)) ∧ o = []) := by
  refine acalls_of_body Tryz.func57 rfl (by kernel_rfl) rfl ?_
  refine rn rfl ?_
  refine goal_loop_keep (fun m σ => ∃ (n L : Int) (i : Nat), n = i ∧ L = ps.length ∧ i ≤ ps.length ∧ m = ps.length - i ∧ idxI pred ps 0 = idxI pred (ps.drop i) i ∧
      σ = ⟨[(8, .one (.int .i64 n)), (7, .one (.int .i64 L)), (1, .one (.fn f [.fp cs])), (0, .one (.fs (ps.map eP)))], [], []⟩) ps.length [8, 7, 1, 0] [] rfl
    ⟨_, _, 0, rfl, by simp, by omega, by omega, by simp, rfl⟩ ?_
  rintro m σ ⟨n, L, i, rfl, rfl, hi, rfl, hidx, rfl⟩
  refine rn rfl ?_
  refine goal_cond rfl (fun h => ?_) (fun h => ?_) <;> simp only [decide_eq_true_eq, decide_eq_false_iff_not] at h
  · obtain ⟨p, hp⟩ := at_some (xs := ps) (i := i) (by omega)
    refine rn rfl ?_
    refine goal_did rfl rfl (dA_index (eP p) rfl rfl rfl rfl rfl rfl rfl (by omega) (by simp; omega) (map_at (by simpa using hp)) rfl) ?_
    refine rn rfl ?_
    refine goal_step (step_call [] rfl rfl rfl rfl rfl rfl (hcl p)) ?_
    rintro σ2 ⟨r, o', ⟨rfl, rfl⟩, hσ⟩
    obtain rfl := Option.some.inj hσ
    refine rn rfl ?_
    refine goal_cond rfl (fun h2 => ?_) (fun h2 => ?_)
    · refine rn rfl (round_ret (fin_is [] rfl ⟨?_, rfl⟩))
      rw [hidx, drop_at hp]; simp [idxI, h2]
    · refine rn rfl ?_
      refine round_keep (ps.length - (i + 1)) [8, 7, 1, 0] [] (by omega) rfl ⟨_, _, i + 1, wrap64 (by omega) (by omega), rfl, by omega, rfl, ?_, rfl⟩
      rw [hidx, drop_at hp]; simp [idxI, h2]
  · refine rn rfl (round_ext ?_)
    refine rn rfl (fin_is [] rfl ⟨?_, rfl⟩)
    rw [hidx, List.drop_eq_nil_of_le (by omega)]; rfl

theorem ipairAtX_ct (ps : List Pair) (n : Str) (hb : ps.length ≤ 9223372036854775807) :
    ACalls pk 78 [.one (.fs (ps.map eP)), .one (.str n)] [] (fun r o => r = .one (.int .i64 (pairIx ps n)) ∧ o = []) := by
  refine acalls_of_body Tryz.func78 rfl (by kernel_rfl) rfl ?_
  refine rn rfl ?_
  refine goal_step (step_call [] rfl rfl rfl rfl rfl rfl (indexPairX_ct ps hb (nameIs n) _ _ (fun p => pairAtC_ct p n))) ?_
  rintro σ2 ⟨r, o', ⟨rfl, rfl⟩, hσ⟩
  obtain rfl := Option.some.inj hσ
  exact rn rfl (fin_is [] rfl ⟨rfl, rfl⟩)

theorem spairAtX_ct (ps : List Pair) (n : Str) (hb : ps.length ≤ 9223372036854775807) :
    ACalls pk 47 [.one (.fs (ps.map eP)), .one (.str n)] [] (fun r o => r = .one (.int .i64 (pairIx ps n)) ∧ o = []) := by
  refine acalls_of_body Tryz.func47 rfl (by kernel_rfl) rfl ?_
  refine rn rfl ?_
  refine goal_loop_keep (fun m σ => ∃ (q : Int) (i : Nat), q = i ∧ i ≤ ps.length ∧ m = ps.length - i ∧ pairIx ps n = idxI (nameIs n) (ps.drop i) i ∧
      σ = ⟨[(5, .one (.int .i64 q)), (1, .one (.str n)), (0, .one (.fs (ps.map eP)))], [], []⟩) ps.length [5, 1, 0] [] rfl
    ⟨_, 0, rfl, by omega, by omega, by simp [pairIx], rfl⟩ ?_
  rintro m σ ⟨q, i, rfl, hi, rfl, hidx, rfl⟩
  refine rn rfl ?_
  refine goal_cond rfl (fun h => ?_) (fun h => ?_) <;> simp only [decide_eq_true_eq, decide_eq_false_iff_not, List.length_map] at h
  · obtain ⟨p, hp⟩ := at_some (xs := ps) (i := i) (by omega)
    refine rn rfl ?_
    refine goal_did rfl rfl (dA_index (eP p) rfl rfl rfl rfl rfl rfl rfl (by omega) (by simp; omega) (map_at (by simpa using hp)) rfl) ?_
    refine rn rfl ?_
    refine goal_cond rfl (fun h2 => ?_) (fun h2 => ?_)
    · refine rn rfl (round_ret (fin_is [] rfl ⟨?_, rfl⟩))
      rw [hidx, drop_at hp]; simp [idxI, nameIs, h2]
    · refine rn rfl ?_
      refine round_keep (ps.length - (i + 1)) [5, 1, 0] [] (by omega) rfl ⟨_, i + 1, wrap64 (by omega) (by omega), by omega, rfl, ?_, rfl⟩
      rw [hidx, drop_at hp]; simp [idxI, nameIs, h2]
  · refine rn rfl (round_ext ?_)
    refine rn rfl (fin_is [] rfl ⟨?_, rfl⟩)
    rw [hidx, List.drop_eq_nil_of_le (by omega)]; rfl

theorem indexIntX_ct (xs : List Int) (hb : xs.length ≤ 9223372036854775807) (pred : Int → Bool) (f : FuncId)
    (hcl : ∀ p, ACalls pk f [.one (.int .i64 p)] [] (fun r o => r = .one (.bool (pred p)) ∧ o = [])) :
    ACalls pk 97 [.one (.fs (xs.map eI)), .one (.fn f [])] [] (fun r o => r = .one (.int .i64 (idxI pred xs 0)) ∧ o = []) := by
  refine acalls_of_body Tryz.func97 rfl (by kernel_rfl) rfl ?_
  refine rn rfl ?_
  refine goal_loop_keep (fun m σ => ∃ (n L : Int) (i : Nat), n = i ∧ L = xs.length ∧ i ≤ xs.length ∧ m = xs.length - i ∧ idxI pred xs 0 = idxI pred (xs.drop i) i ∧
      σ = ⟨[(8, .one (.int .i64 n)), (7, .one (.int .i64 L)), (1, .one (.fn f [])), (0, .one (.fs (xs.map eI)))], [], []⟩) xs.length [8, 7, 1, 0] [] rfl
    ⟨_, _, 0, rfl, by simp, by omega, by omega, by simp, rfl⟩ ?_
  rintro m σ ⟨n, L, i, rfl, rfl, hi, rfl, hidx, rfl⟩
  refine rn rfl ?_
  refine goal_cond rfl (fun h => ?_) (fun h => ?_) <;> simp only [decide_eq_true_eq, decide_eq_false_iff_not] at h
  · obtain ⟨p, hp⟩ := at_some (xs := xs) (i := i) (by omega)
    refine rn rfl ?_
    refine goal_did rfl rfl (dA_index (eI p) rfl rfl rfl rfl rfl rfl rfl (by omega) (by simp; omega) (map_at (by simpa using hp)) rfl) ?_
    refine rn rfl ?_
    refine goal_step (step_call [] rfl rfl rfl rfl rfl rfl (hcl p)) ?_
    rintro σ2 ⟨r, o', ⟨rfl, rfl⟩, hσ⟩
    obtain rfl := Option.some.inj hσ
    refine rn rfl ?_
    refine goal_cond rfl (fun h2 => ?_) (fun h2 => ?_)
    · refine rn rfl (round_ret (fin_is [] rfl ⟨?_, rfl⟩))
      rw [hidx, drop_at hp]; simp [idxI, h2]
    · refine rn rfl ?_
      refine round_keep (xs.length - (i + 1)) [8, 7, 1, 0] [] (by omega) rfl ⟨_, _, i + 1, wrap64 (by omega) (by omega), rfl, by omega, rfl, ?_, rfl⟩
      rw [hidx, drop_at hp]; simp [idxI, h2]
  · refine rn rfl (round_ext ?_)
    refine rn rfl (fin_is [] rfl ⟨?_, rfl⟩)
    rw [hidx, List.drop_eq_nil_of_le (by omega)]; rfl

theorem containsIntX_ct (xs : List Int) (hb : xs.length ≤ 9223372036854775807) (pred : Int → Bool) (f : FuncId)
    (hcl : ∀ p, ACalls pk f [.one (.int .i64 p)] [] (fun r o => r = .one (.bool (pred p)) ∧ o = [])) :
    ACalls pk 85 [.one (.fs (xs.map eI)), .one (.fn f [])] [] (fun r o => r = .one (.bool (xs.any pred)) ∧ o = []) := by
  refine acalls_of_body Tryz.func85 rfl (by kernel_rfl) rfl ?_
  refine rn rfl ?_
  refine goal_step (step_call [] rfl rfl rfl rfl rfl rfl (indexIntX_ct xs hb pred f hcl)) ?_
  rintro σ2 ⟨r, o', ⟨rfl, rfl⟩, hσ⟩
  obtain rfl := Option.some.inj hσ
  refine rn rfl (fin_is [] rfl ⟨?_, rfl⟩)
  cases h : xs.any pred with
  | true => simp [idxI_ge, h]
  | false => simp [idxI_ge, h]

theorem areValuesX_ct (xs : List Int) (hb : xs.length ≤ 9223372036854775807) :
    ACalls pk 79 [.one (.fs (xs.map eI))] [] (fun r o => r = .one (.bool (xs.all okVal)) ∧ o = []) := by
  refine acalls_of_body Tryz.func79 rfl (by kernel_rfl) rfl ?_
  refine rn rfl ?_
  refine goal_step (step_call [] rfl rfl rfl rfl rfl rfl (containsIntX_ct xs hb (fun n => !okVal n) _ notValue_ct)) ?_
  rintro σ2 ⟨r, o', ⟨rfl, rfl⟩, hσ⟩
  obtain rfl := Option.some.inj hσ
  refine rn rfl (fin_is [] rfl ⟨?_, rfl⟩)
  congr 2
  rw [List.all_eq_not_any_not]

theorem validNumbersX_ct (xs : List Int) (hb : xs.length ≤ 9223372036854775807) :
    ACalls pk 46 [.one (.fs (xs.map eI))] [] (fun r o => r = .one (.bool (xs.all okVal)) ∧ o = []) := by
  refine acalls_of_body Tryz.func46 rfl (by kernel_rfl) rfl ?_
  refine rn rfl ?_
  refine goal_loop_keep (fun m σ => ∃ (n : Int) (i : Nat), n = i ∧ i ≤ xs.length ∧ m = xs.length - i ∧ (xs.take i).all okVal = true ∧
      σ = ⟨[(3, .one (.int .i64 n)), (0, .one (.fs (xs.map eI)))], [], []⟩) xs.length [3, 0] [] rfl
    ⟨_, 0, rfl, by omega, by omega, rfl, rfl⟩ ?_
  rintro m σ ⟨n, i, rfl, hi, rfl, hall, rfl⟩
  refine rn rfl ?_
  refine goal_cond rfl (fun h => ?_) (fun h => ?_) <;> simp only [decide_eq_true_eq, decide_eq_false_iff_not, List.length_map] at h
  · obtain ⟨b, hb'⟩ := at_some (xs := xs) (i := i) (by omega)
    have hst := all_take_succ (p := okVal) hb'
    refine rn rfl ?_
    refine goal_did rfl rfl (dA_index (eI b) rfl rfl rfl rfl rfl rfl rfl (by omega) (by simp; omega) (map_at (by simpa using hb')) rfl) ?_
    refine rn rfl ?_
    refine goal_step (step_call [] rfl rfl rfl rfl rfl rfl (validNumber_ct b)) ?_
    rintro σ2 ⟨r, o', ⟨rfl, rfl⟩, hσ⟩
    obtain rfl := Option.some.inj hσ
    refine rn rfl ?_
    refine goal_cond rfl (fun h2 => ?_) (fun h2 => ?_) <;> simp only [Bool.not_eq_true', Bool.not_eq_false'] at h2
    · refine rn rfl (round_ret (fin_is [] rfl ⟨?_, rfl⟩))
      rw [h2, Bool.and_false] at hst
      simp [all_false_of_take hst]
    · refine rn rfl ?_
      refine round_keep (xs.length - (i + 1)) [3, 0] [] (by omega) rfl ⟨_, i + 1, wrap64 (by omega) (by omega), by omega, rfl, by rw [hst, hall, h2]; rfl, rfl⟩
  · refine rn rfl (round_ext ?_)
    refine rn rfl (fin_is [] rfl ⟨?_, rfl⟩)
    rw [show i = xs.length by omega, List.take_length] at hall
    simp [hall]

theorem validPairsX_ct (xs : List Pair) (hb : xs.length ≤ 9223372036854775807) (hn : ∀ p ∈ xs, p.name.length ≤ 9223372036854775807) :
    ACalls pk 48 [.one (.fs (xs.map eP))] [] (fun r o => r = .one (.bool (xs.all okPair)) ∧ o = []) := by
  refine acalls_of_body Tryz.func48 rfl (by kernel_rfl) rfl ?_
  refine rn rfl ?_
  refine goal_loop_keep (fun m σ => ∃ (n : Int) (i : Nat), n = i ∧ i ≤ xs.length ∧ m = xs.length - i ∧ (xs.take i).all okPair = true ∧
      σ = ⟨[(3, .one (.int .i64 n)), (0, .one (.fs (xs.map eP)))], [], []⟩) xs.length [3, 0] [] rfl
    ⟨_, 0, rfl, by omega, by omega, rfl, rfl⟩ ?_
  rintro m σ ⟨n, i, rfl, hi, rfl, hall, rfl⟩
  refine rn rfl ?_
  refine goal_cond rfl (fun h => ?_) (fun h => ?_) <;> simp only [decide_eq_true_eq, decide_eq_false_iff_not, List.length_map] at h
  · obtain ⟨b, hb'⟩ := at_some (xs := xs) (i := i) (by omega)
    have hst := all_take_succ (p := okPair) hb'
    refine rn rfl ?_
    refine goal_did rfl rfl (dA_index (eP b) rfl rfl rfl rfl rfl rfl rfl (by omega) (by simp; omega) (map_at (by simpa using hb')) rfl) ?_
    refine rn rfl ?_
    refine goal_step (step_call [] rfl rfl rfl rfl rfl rfl (validName_ct b.name (hn b (List.mem_of_getElem? hb')))) ?_
    rintro σ2 ⟨r, o', ⟨rfl, rfl⟩, hσ⟩
    obtain rfl := Option.some.inj hσ
    refine rn rfl ?_
    refine goal_guard rfl rfl rfl (fun h1 => ?_) (fun h1 => ?_) <;> simp only [Bool.not_eq_true', Bool.not_eq_false'] at h1
    · refine rn rfl ?_
      refine rn rfl (round_ret (fin_is [] rfl ⟨?_, rfl⟩))
      rw [show okPair b = false by simp [okPair, h1], Bool.and_false] at hst
      simp [all_false_of_take hst]
    · refine rn rfl ?_
      refine goal_did rfl rfl (dA_index (eP b) rfl rfl rfl rfl rfl rfl rfl (by omega) (by simp; omega) (map_at (by simpa using hb')) rfl) ?_
      refine rn rfl ?_
      refine goal_step (step_call [] rfl rfl rfl rfl rfl rfl (validNumber_ct b.value)) ?_
      rintro σ2 ⟨r, o', ⟨rfl, rfl⟩, hσ⟩
      obtain rfl := Option.some.inj hσ
      refine rn rfl ?_
      refine goal_cond rfl (fun h2 => ?_) (fun h2 => ?_) <;> simp only [Bool.not_eq_true', Bool.not_eq_false'] at h2
      · refine rn rfl (round_ret (fin_is [] rfl ⟨?_, rfl⟩))
        rw [show okPair b = false by simp [okPair, h1, h2], Bool.and_false] at hst
        simp [all_false_of_take hst]
      · refine rn rfl ?_
        refine round_keep (xs.length - (i + 1)) [3, 0] [] (by omega) rfl ⟨_, i + 1, wrap64 (by omega) (by omega), by omega, rfl, by rw [hst, hall, show okPair b = true by simp [okPair, h1, h2]]; rfl, rfl⟩
  · refine rn rfl (round_ext ?_)
    refine rn rfl (fin_is [] rfl ⟨?_, rfl⟩)
    rw [show i = xs.length by omega, List.take_length] at hall
    simp [hall]

theorem ivalidFlatX_ct (f : Flat) (h1 : f.places.length ≤ 9223372036854775807) (h2 : f.named.length ≤ 9223372036854775807) (hn : ∀ p ∈ f.named, p.name.length ≤ 9223372036854775807) :
    ACalls pk 60 [.agg (eF f)] [] (fun r o => r = .one (.bool (okFlat f)) ∧ o = []) := by
  refine acalls_of_body Tryz.func60 rfl (by kernel_rfl) rfl ?_
  refine rn rfl ?_
  refine goal_loop_keep (fun m σ => ∃ (n L : Int) (i : Nat), n = i ∧ L = f.named.length ∧ i ≤ f.named.length ∧ m = f.named.length - i ∧ (f.named.take i).all okPair = true ∧ (namesOf (f.named.take i)).Nodup ∧
      σ = ⟨[(8, .one (.int .i64 n)), (7, .one (.int .i64 L)), (6, .one (.fs (f.named.map eP))), (1, .one (.op 0 0 0))], [some ⟨2, [eF f], false, false, true⟩], []⟩) f.named.length [8, 7, 6, 1] [0] rfl
    ⟨_, _, 0, rfl, by simp, by omega, by omega, rfl, by simp [namesOf], rfl⟩ ?_
  rintro m σ ⟨n, L, i, rfl, rfl, hi, rfl, hall, hnd, rfl⟩
  refine rn rfl ?_
  refine goal_cond rfl (fun h => ?_) (fun h => ?_) <;> simp only [decide_eq_true_eq, decide_eq_false_iff_not] at h
  · obtain ⟨p, hp⟩ := at_some (xs := f.named) (i := i) (by omega)
    have hst := all_take_succ (p := okPair) hp
    have hns := nodup_take_succ hp
    refine rn rfl ?_
    refine goal_did rfl rfl (dA_index (eP p) rfl rfl rfl rfl rfl rfl rfl (by omega) (by simp; omega) (map_at (by simpa using hp)) rfl) ?_
    refine rn rfl ?_
    refine goal_draw' [0, 1] 13 rfl ?_
    refine drn [0] (by kernel_rfl) (by kernel_rfl) rfl rfl ?_
    refine AH_one (i := 1) (by kernel_rfl) (step_call [] rfl rfl rfl rfl rfl rfl (pairValid_ct p (hn p (List.mem_of_getElem? hp)))) (by simp) ?_
    rintro σ2 ⟨r, o', ⟨rfl, rfl⟩, hσ⟩
    obtain rfl := Option.some.inj hσ
    refine drn [2, 3] (by kernel_rfl) (by kernel_rfl) rfl rfl ?_
    refine AH_guard (i := 4) rfl rfl rfl (fun hg => ?_) (fun hg => ?_) <;> simp only [Bool.not_eq_true', Bool.not_eq_false'] at hg
    · refine drn [4, 5, 6, 7, 8, 9, 10, 11, 12] (by kernel_rfl) (by kernel_rfl) rfl rfl ?_
      refine AH_end (by kernel_rfl) ?_
      refine rn rfl ?_
      refine rn rfl (round_ret (fin_is [] rfl ⟨?_, rfl⟩))
      rw [hg, Bool.and_false] at hst
      simp [okFlat, all_false_of_take hst]
    · refine drn [4, 5, 6, 8, 9] (by kernel_rfl) (by kernel_rfl) rfl rfl ?_
      refine AH_did 7 rfl (by kernel_rfl) (by kernel_rfl) (by kernel_rfl) rfl rfl (dA_slice 0 i ((f.named.take i).map eP) rfl rfl rfl rfl rfl Bnd.none_ (Bnd.some_ rfl rfl) (rows_len eP_len _) (by omega) (by simp; omega) rfl (by simp)) ?_
      refine AH_one (i := 10) (by kernel_rfl) (step_call [] rfl rfl rfl rfl rfl rfl (ipairAtX_ct (f.named.take i) p.name (by simp; omega))) (by simp) ?_
      rintro σ2 ⟨r, o', ⟨rfl, rfl⟩, hσ⟩
      obtain rfl := Option.some.inj hσ
      refine drn [11, 12] (by kernel_rfl) (by kernel_rfl) rfl rfl ?_
      refine AH_end (by kernel_rfl) ?_
      refine rn rfl ?_
      refine goal_cond rfl (fun h3 => ?_) (fun h3 => ?_) <;> simp only [ge_iff_le, decide_eq_true_eq, decide_eq_false_iff_not, pairIx_ge] at h3
      · refine rn rfl (round_ret (fin_is [] rfl ⟨?_, rfl⟩))
        have : ¬ (namesOf f.named).Nodup := fun hh => (hns.1 (nodup_take _ hh)).2 h3
        simp [okFlat, this]
      · refine rn rfl ?_
        refine round_keep (f.named.length - (i + 1)) [8, 7, 6, 1] [0] (by omega) rfl ⟨_, _, i + 1, wrap64 (by omega) (by omega), rfl, by omega, rfl, by rw [hst, hall, hg]; rfl, hns.2 ⟨hnd, h3⟩, rfl⟩
  · rw [show i = f.named.length by omega, List.take_length] at hall hnd
    refine rn rfl (round_ext ?_)
    refine rn rfl ?_
    refine goal_guard rfl rfl rfl (fun h3 => ?_) (fun h3 => ?_) <;> simp only [List.length_map, decide_eq_true_eq, decide_eq_false_iff_not] at h3
    · refine rn rfl ?_
      refine goal_guard rfl rfl rfl (fun h4 => ?_) (fun h4 => ?_) <;> simp only [List.length_map, decide_eq_true_eq, decide_eq_false_iff_not] at h4
      · refine rn rfl ?_
        refine goal_step (step_call [] rfl rfl rfl rfl rfl rfl (areValuesX_ct f.places (by omega))) ?_
        rintro σ2 ⟨r, o', ⟨rfl, rfl⟩, hσ⟩
        obtain rfl := Option.some.inj hσ
        refine rn rfl (fin_is [] rfl ⟨?_, rfl⟩)
        simp [okFlat, hall, hnd, show f.places.length ≤ 8 by omega, show f.named.length ≤ 8 by omega]
      · refine rn rfl (fin_is [] rfl ⟨?_, rfl⟩)
        simp [okFlat, show ¬ f.named.length ≤ 8 by omega]
    · refine rn rfl (fin_is [] rfl ⟨?_, rfl⟩)
      simp [okFlat, show ¬ f.places.length ≤ 8 by omega]

theorem svalidFlatX_ct (f : Flat) (h1 : f.places.length ≤ 9223372036854775807) (h2 : f.named.length ≤ 9223372036854775807) (hn : ∀ p ∈ f.named, p.name.length ≤ 9223372036854775807) :
    ACalls pk 24 [.agg (eF f)] [] (fun r o => r = .one (.bool (okFlat f)) ∧ o = []) := by
  refine acalls_of_body Tryz.func24 rfl (by kernel_rfl) rfl ?_
  refine rn rfl ?_
  refine goal_loop_keep (fun m σ => ∃ (n : Int) (i : Nat), n = i ∧ i ≤ f.named.length ∧ m = f.named.length - i ∧ (namesOf (f.named.take i)).Nodup ∧
      σ = ⟨[(3, .one (.int .i64 n)), (1, .one (.op 0 0 0))], [some ⟨2, [eF f], false, false, true⟩], []⟩) f.named.length [3, 1] [0] rfl
    ⟨_, 0, rfl, by omega, by omega, by simp [namesOf], rfl⟩ ?_
  rintro m σ ⟨n, i, rfl, hi, rfl, hnd, rfl⟩
  refine rn rfl ?_
  refine goal_cond rfl (fun h => ?_) (fun h => ?_) <;> simp only [decide_eq_true_eq, decide_eq_false_iff_not, List.length_map] at h
  · obtain ⟨p, hp⟩ := at_some (xs := f.named) (i := i) (by omega)
    have hns := nodup_take_succ hp
    refine rn rfl ?_
    refine goal_draw' [0] 12 rfl ?_
    refine drn [0, 1, 2, 4, 5, 6] (by kernel_rfl) (by kernel_rfl) rfl rfl ?_
    refine AH_did 3 rfl (by kernel_rfl) (by kernel_rfl) (by kernel_rfl) rfl rfl (dA_slice 0 i ((f.named.take i).map eP) rfl rfl rfl rfl rfl Bnd.none_ (Bnd.some_ rfl rfl) (rows_len eP_len _) (by omega) (by simp; omega) rfl (by simp)) ?_
    refine AH_did 7 rfl (by kernel_rfl) (by kernel_rfl) (by kernel_rfl) rfl rfl (dA_index (eP p) rfl rfl rfl rfl rfl rfl rfl (by omega) (by simp; omega) (map_at (by simpa using hp)) rfl) ?_
    refine drn [8, 9] (by kernel_rfl) (by kernel_rfl) rfl rfl ?_
    refine AH_one (i := 10) (by kernel_rfl) (step_call [] rfl rfl rfl rfl rfl rfl (spairAtX_ct (f.named.take i) p.name (by simp; omega))) (by simp) ?_
    rintro σ2 ⟨r, o', ⟨rfl, rfl⟩, hσ⟩
    obtain rfl := Option.some.inj hσ
    refine drn [11] (by kernel_rfl) (by kernel_rfl) rfl rfl ?_
    refine AH_end (by kernel_rfl) ?_
    refine rn rfl ?_
    refine goal_cond rfl (fun h3 => ?_) (fun h3 => ?_) <;> simp only [ge_iff_le, decide_eq_true_eq, decide_eq_false_iff_not, pairIx_ge] at h3
    · refine rn rfl (round_ret (fin_is [] rfl ⟨?_, rfl⟩))
      have : ¬ (namesOf f.named).Nodup := fun hh => (hns.1 (nodup_take _ hh)).2 h3
      simp [okFlat, this]
    · refine rn rfl ?_
      refine round_keep (f.named.length - (i + 1)) [3, 1] [0] (by omega) rfl ⟨_, i + 1, wrap64 (by omega) (by omega), by omega, rfl, hns.2 ⟨hnd, h3⟩, rfl⟩
  · rw [show i = f.named.length by omega, List.take_length] at hnd
    refine rn rfl (round_ext ?_)
    refine rn rfl ?_
    refine goal_step (step_call [] rfl rfl rfl rfl rfl rfl (validNumbersX_ct f.places (by omega))) ?_
    rintro σ2 ⟨r, o', ⟨rfl, rfl⟩, hσ⟩
    obtain rfl := Option.some.inj hσ
    refine rn rfl ?_
    refine goal_guard rfl rfl rfl (fun h3 => ?_) (fun h3 => ?_)
    · refine rn rfl ?_
      refine goal_step (step_call [] rfl rfl rfl rfl rfl rfl (validPairsX_ct f.named (by omega) hn)) ?_
      rintro σ2 ⟨r, o', ⟨rfl, rfl⟩, hσ⟩
      obtain rfl := Option.some.inj hσ
      refine rn rfl ?_
      refine goal_guard rfl rfl rfl (fun h4 => ?_) (fun h4 => ?_)
      · refine rn rfl ?_
        refine goal_guard rfl rfl rfl (fun h5 => ?_) (fun h5 => ?_) <;> simp only [List.length_map, decide_eq_true_eq, decide_eq_false_iff_not] at h5
        · refine rn rfl (fin_is [] rfl ⟨?_, rfl⟩)
          simp [okFlat, h3, h4, hnd, show f.places.length ≤ 8 by omega]
          omega
        · refine rn rfl (fin_is [] rfl ⟨?_, rfl⟩)
          simp [okFlat, show ¬ f.places.length ≤ 8 by omega]
      · refine rn rfl ?_
        refine rn rfl (fin_is [] rfl ⟨?_, rfl⟩)
        simp [okFlat, h4]
    · refine rn rfl ?_
      refine rn rfl (fin_is [] rfl ⟨?_, rfl⟩)
      simp [okFlat, h3]

theorem fitX_ct (s : Sig) (f : Flat) (hs : BigS s) (hf : Fits f) : ACalls pk 36 [.agg (eG s), .agg (eF f)] [] (fun r o => r = .one (.bool (fitQ s f)) ∧ o = []) := by
  refine acalls_of_body Tryz.func36 rfl (by kernel_rfl) rfl ?_
  refine rn rfl ?_
  refine goal_step (step_call [] rfl rfl rfl rfl rfl rfl (ivalidSig_ct s hs.len hs.names)) ?_
  rintro σ2 ⟨r, o', ⟨rfl, rfl⟩, hσ⟩
  obtain rfl := Option.some.inj hσ
  clear hσ
  refine rn rfl ?_
  refine goal_guard rfl rfl rfl (fun h => ?_) (fun h => ?_) <;> (try simp only [gt_iff_lt, ge_iff_le, bne_iff_ne, ne_eq, bne_eq_false_iff_eq, beq_iff_eq, beq_eq_false_iff_ne, Bool.not_eq_true', Bool.not_eq_false', decide_eq_true_eq, decide_eq_false_iff_not, List.length_map] at h)
  · refine rn rfl ?_
    refine goal_step (step_call [] rfl rfl rfl rfl rfl rfl (ivalidFlatX_ct f hf.places hf.named hf.names)) ?_
    rintro σ2 ⟨r, o', ⟨rfl, rfl⟩, hσ⟩
    obtain rfl := Option.some.inj hσ
    clear hσ
    refine rn rfl ?_
    refine rn rfl (fin_is [] rfl ⟨?_, rfl⟩)
    simp [fitQ, h]
  · refine rn rfl (fin_is [] rfl ⟨?_, rfl⟩)
    simp [fitQ, h]

theorem cloneIntSX_ct (xs : List Int) (hl : 8 * xs.length ≤ 140737488355328) :
    ACalls pk 67 [.one (.fs (xs.map eI))] [] (fun r o => r = .one (.os 0 0 xs.length xs.length) ∧ o = [ownI xs]) := by
  refine acalls_of_body Tryz.func67 rfl (by kernel_rfl) rfl ?_
  refine rn rfl ?_
  refine goal_step (step_eqNil rfl rfl (Src.fs rfl) rfl rfl rfl rfl) ?_
  rintro σ2 ⟨b, hb, rfl⟩
  refine rn rfl ?_
  refine goal_cond rfl (fun h => ?_) (fun h => ?_)
  · have hx : xs = [] := by simpa using hb h
    subst hx
    exact rn rfl (fin_adopt 2 0 1 [0] rfl ⟨rfl, rfl⟩)
  · refine rn rfl ?_
    refine goal_did rfl rfl (dA_append (xs.map eI) xs.length true (Dst.own rfl rfl rfl rfl rfl (Nat.le_refl 0) rfl) (Src.fs rfl) rfl rfl rfl rfl rfl rfl rfl rfl (by simp) (rows_len eI_len _) (by simp only [List.length_map, List.take_zero, List.length_nil]; show _ * 8 ≤ _; omega) (by simp; omega) rfl (by simp) (fun _ => noOwnR_map _ eI_noOwn _)) ?_
    exact rn rfl (fin_is [1] rfl ⟨rfl, rfl⟩)

theorem clonIntX_ct (xs : List Int) (hl : 8 * xs.length ≤ 140737488355328) :
    ACalls pk 43 [.one (.fs (xs.map eI))] [] (fun r o => r = .one (.os 0 0 xs.length xs.length) ∧ o = [ownI xs]) := by
  refine acalls_of_body Tryz.func43 rfl (by kernel_rfl) rfl ?_
  refine rn rfl ?_
  refine goal_step (step_call [] rfl rfl rfl rfl rfl rfl (cloneIntSX_ct xs hl)) ?_
  rintro σ2 ⟨r, o', ⟨rfl, rfl⟩, hσ⟩
  obtain rfl := Option.some.inj hσ
  refine goal_step (step_call [0] rfl rfl rfl rfl rfl rfl (clipIntS_ct xs xs.length (Nat.le_refl _))) ?_
  rintro σ2 ⟨r, o', ⟨rfl, rfl⟩, hσ⟩
  obtain rfl := Option.some.inj hσ
  exact rn rfl (fin_is [0] rfl ⟨rfl, rfl⟩)

theorem clonePairSX_ct (xs : List Pair) (hl : 24 * xs.length ≤ 140737488355328) :
    ACalls pk 68 [.one (.fs (xs.map eP))] [] (fun r o => r = .one (.os 0 0 xs.length xs.length) ∧ o = [ownP xs]) := by
  refine acalls_of_body Tryz.func68 rfl (by kernel_rfl) rfl ?_
  refine rn rfl ?_
  refine goal_step (step_eqNil rfl rfl (Src.fs rfl) rfl rfl rfl rfl) ?_
  rintro σ2 ⟨b, hb, rfl⟩
  refine rn rfl ?_
  refine goal_cond rfl (fun h => ?_) (fun h => ?_)
  · have hx : xs = [] := by simpa using hb h
    subst hx
    exact rn rfl (fin_adopt 2 0 2 [0] rfl ⟨rfl, rfl⟩)
  · refine rn rfl ?_
    refine goal_did rfl rfl (dA_append (xs.map eP) xs.length true (Dst.own rfl rfl rfl rfl rfl (Nat.le_refl 0) rfl) (Src.fs rfl) rfl rfl rfl rfl rfl rfl rfl rfl (by simp) (rows_len eP_len _) (by simp only [List.length_map, List.take_zero, List.length_nil]; show _ * 24 ≤ _; omega) (by simp; omega) rfl (by simp) (fun _ => noOwnR_map _ eP_noOwn _)) ?_
    exact rn rfl (fin_is [1] rfl ⟨rfl, rfl⟩)

theorem clonPairX_ct (xs : List Pair) (hl : 24 * xs.length ≤ 140737488355328) :
    ACalls pk 44 [.one (.fs (xs.map eP))] [] (fun r o => r = .one (.os 0 0 xs.length xs.length) ∧ o = [ownP xs]) := by
  refine acalls_of_body Tryz.func44 rfl (by kernel_rfl) rfl ?_
  refine rn rfl ?_
  refine goal_step (step_call [] rfl rfl rfl rfl rfl rfl (clonePairSX_ct xs hl)) ?_
  rintro σ2 ⟨r, o', ⟨rfl, rfl⟩, hσ⟩
  obtain rfl := Option.some.inj hσ
  refine goal_step (step_call [0] rfl rfl rfl rfl rfl rfl (clipPairS_ct xs xs.length (Nat.le_refl _))) ?_
  rintro σ2 ⟨r, o', ⟨rfl, rfl⟩, hσ⟩
  obtain rfl := Option.some.inj hσ
  exact rn rfl (fin_is [0] rfl ⟨rfl, rfl⟩)

theorem copyOfX_ct (f : Flat) (h1 : 8 * f.places.length ≤ 140737488355328) (h2 : 24 * f.named.length ≤ 140737488355328) :
    ACalls pk 21 [.agg (eF f)] [] (fun r o => r = rF f ∧ o = oF f) := by
  refine acalls_of_body Tryz.func21 rfl (by kernel_rfl) rfl ?_
  refine rn rfl ?_
  refine goal_draw' [0] 8 rfl ?_
  refine drn [0, 1, 3, 4] (by kernel_rfl) (by kernel_rfl) rfl rfl ?_
  refine AH_one (i := 2) (by kernel_rfl) (step_call [] rfl rfl rfl rfl rfl rfl (clonIntX_ct f.places h1)) (by simp) ?_
  rintro σ2 ⟨r, o', ⟨rfl, rfl⟩, hσ⟩
  obtain rfl := Option.some.inj hσ
  refine AH_one (i := 5) (by kernel_rfl) (step_call [] rfl rfl rfl rfl rfl rfl (clonPairX_ct f.named h2)) (by simp) ?_
  rintro σ2 ⟨r, o', ⟨rfl, rfl⟩, hσ⟩
  obtain rfl := Option.some.inj hσ
  refine drn [6] (by kernel_rfl) (by kernel_rfl) rfl rfl ?_
  refine AH_oneDid 7 rfl (by kernel_rfl) rfl (dA_step rfl) (mdOk rfl) ?_
  refine AH_end (by kernel_rfl) ?_
  exact rn rfl (fin_is [2, 3] rfl ⟨rfl, rfl⟩)

theorem slotValidX_ct (s : Sig) (i : Nat) (p : Param) (x : Slot) (hp : s[i]? = some p) (hl : s.length ≤ 1048576) (hkr : 0 ≤ p.kind ∧ p.kind ≤ 4) (h1 : x.list.length ≤ 9223372036854775807) (h2 : x.pairs.length ≤ 9223372036854775807) :
    ACalls pk 16 [.agg (eG s), .one (.int .i64 i), .agg (eL x)] [] (fun r o => r = .one (.bool (slotOk s i p x)) ∧ o = []) := by
  have hil := lt_of_some hp
  refine acalls_of_body Tryz.func16 rfl (by kernel_rfl) rfl ?_
  refine rn rfl ?_
  refine goal_did rfl rfl (dA_index (eQ p) rfl rfl rfl rfl rfl rfl rfl (by omega) (by (try simp); omega) (map_at (by simpa using hp)) rfl) ?_
  refine rn rfl ?_
  refine goal_cond rfl (fun hk2 => ?_) (fun hk2 => ?_) <;> (try simp only [gt_iff_lt, ge_iff_le, bne_iff_ne, ne_eq, bne_eq_false_iff_eq, beq_iff_eq, beq_eq_false_iff_ne, Bool.not_eq_true', Bool.not_eq_false', decide_eq_true_eq, decide_eq_false_iff_not, List.length_map] at hk2)
  · refine rn rfl ?_
    refine goal_guard rfl rfl rfl (fun hg => ?_) (fun hg => ?_) <;> (try simp only [gt_iff_lt, ge_iff_le, bne_iff_ne, ne_eq, bne_eq_false_iff_eq, beq_iff_eq, beq_eq_false_iff_ne, Bool.not_eq_true', Bool.not_eq_false', decide_eq_true_eq, decide_eq_false_iff_not, List.length_map] at hg)
    · refine rn rfl ?_
      refine rn rfl (fin_is [] rfl ⟨?_, rfl⟩)
      simp [slotOk, hk2, hg, nil_zero]
    · refine rn rfl (fin_is [] rfl ⟨?_, rfl⟩)
      simp [slotOk, hk2, hg]
  · refine rn rfl ?_
    refine goal_cond rfl (fun hk4 => ?_) (fun hk4 => ?_) <;> (try simp only [gt_iff_lt, ge_iff_le, bne_iff_ne, ne_eq, bne_eq_false_iff_eq, beq_iff_eq, beq_eq_false_iff_ne, Bool.not_eq_true', Bool.not_eq_false', decide_eq_true_eq, decide_eq_false_iff_not, List.length_map] at hk4)
    · refine rn rfl ?_
      refine goal_guard rfl rfl rfl (fun hg => ?_) (fun hg => ?_) <;> (try simp only [gt_iff_lt, ge_iff_le, bne_iff_ne, ne_eq, bne_eq_false_iff_eq, beq_iff_eq, beq_eq_false_iff_ne, Bool.not_eq_true', Bool.not_eq_false', decide_eq_true_eq, decide_eq_false_iff_not, List.length_map] at hg)
      · refine rn rfl ?_
        refine goal_guard rfl rfl rfl (fun hl0 => ?_) (fun hl0 => ?_) <;> (try simp only [gt_iff_lt, ge_iff_le, bne_iff_ne, ne_eq, bne_eq_false_iff_eq, beq_iff_eq, beq_eq_false_iff_ne, Bool.not_eq_true', Bool.not_eq_false', decide_eq_true_eq, decide_eq_false_iff_not, List.length_map] at hl0)
        · have hl1 : x.list = [] := by cases hx : x.list with
            | nil => rfl
            | cons a l => rw [hx] at hl0; simp at hl0; omega
          refine rn rfl ?_
          refine goal_step (step_call [] rfl rfl rfl rfl rfl rfl (containsP2_ct x.pairs (by omega) (fun q => takesQ s q.name != (i : Int)) _ [.fs (s.map eQ)] [.int .i64 i] (fun q => slotC_ct s i q hl))) ?_
          rintro σ2 ⟨r, o', ⟨rfl, rfl⟩, hσ⟩
          obtain rfl := Option.some.inj hσ
          clear hσ
          refine rn rfl ?_
          refine rn rfl (fin_is [] rfl ⟨?_, rfl⟩)
          simp [slotOk, hk2, hk4, hg, hl1]
        · have hl1 : x.list ≠ [] := fun h0 => by rw [h0] at hl0; simp at hl0
          refine rn rfl (fin_is [] rfl ⟨?_, rfl⟩)
          simp [slotOk, hk2, hk4, hg, hl1]
      · refine rn rfl (fin_is [] rfl ⟨?_, rfl⟩)
        simp [slotOk, hk2, hk4, hg]
    · refine rn rfl ?_
      refine goal_cond rfl (fun hg => ?_) (fun hg => ?_) <;> (try simp only [gt_iff_lt, ge_iff_le, bne_iff_ne, ne_eq, bne_eq_false_iff_eq, beq_iff_eq, beq_eq_false_iff_ne, Bool.not_eq_true', Bool.not_eq_false', decide_eq_true_eq, decide_eq_false_iff_not, List.length_map] at hg)
      · refine rn rfl ?_
        refine goal_guard rfl rfl rfl (fun hl0 => ?_) (fun hl0 => ?_) <;> (try simp only [gt_iff_lt, ge_iff_le, bne_iff_ne, ne_eq, bne_eq_false_iff_eq, beq_iff_eq, beq_eq_false_iff_ne, Bool.not_eq_true', Bool.not_eq_false', decide_eq_true_eq, decide_eq_false_iff_not, List.length_map] at hl0)
        · have hl1 : x.list.length = 1   := by omega
          refine rn rfl (fin_is [] rfl ⟨?_, rfl⟩)
          simp [slotOk, hk2, hk4, hg, hl1, nil_zero]
        · have hl1 : x.list.length ≠ 1   := by omega
          refine rn rfl (fin_is [] rfl ⟨?_, rfl⟩)
          simp [slotOk, hk2, hk4, hg, hl1]
      · refine rn rfl ?_
        refine goal_guard rfl rfl rfl (fun hd => ?_) (fun hd => ?_) <;> (try simp only [gt_iff_lt, ge_iff_le, bne_iff_ne, ne_eq, bne_eq_false_iff_eq, beq_iff_eq, beq_eq_false_iff_ne, Bool.not_eq_true', Bool.not_eq_false', decide_eq_true_eq, decide_eq_false_iff_not, List.length_map] at hd)
        · refine rn rfl ?_
          refine goal_guard rfl rfl rfl (fun hl0 => ?_) (fun hl0 => ?_) <;> (try simp only [gt_iff_lt, ge_iff_le, bne_iff_ne, ne_eq, bne_eq_false_iff_eq, beq_iff_eq, beq_eq_false_iff_ne, Bool.not_eq_true', Bool.not_eq_false', decide_eq_true_eq, decide_eq_false_iff_not, List.length_map] at hl0)
          · have hl1 : x.list = [] := by cases hx : x.list with
              | nil => rfl
              | cons a l => rw [hx] at hl0; simp at hl0; omega
            refine rn rfl (fin_is [] rfl ⟨?_, rfl⟩)
            simp [slotOk, hk2, hk4, hg, hd, hl1, nil_zero]
          · have hl1 : x.list ≠ [] := fun h0 => by rw [h0] at hl0; simp at hl0
            refine rn rfl (fin_is [] rfl ⟨?_, rfl⟩)
            simp [slotOk, hk2, hk4, hg, hd, hl1]
        · refine rn rfl (fin_is [] rfl ⟨?_, rfl⟩)
          simp [slotOk, hk2, hk4, hg, hd]

theorem svalidSlotX_ct (p : Param) (x : Slot) (h1 : x.list.length ≤ 9223372036854775807) (h2 : x.pairs.length ≤ 9223372036854775807) (hn : ∀ q ∈ x.pairs, q.name.length ≤ 9223372036854775807) :
    ACalls pk 23 [.agg (eQ p), .agg (eL x)] [] (fun r o => r = .one (.bool (sslotOk p x)) ∧ o = []) := by
  refine acalls_of_body Tryz.func23 rfl (by kernel_rfl) rfl ?_
  refine rn rfl ?_
  refine goal_cond rfl (fun hk2 => ?_) (fun hk2 => ?_) <;> (try simp only [gt_iff_lt, ge_iff_le, bne_iff_ne, ne_eq, bne_eq_false_iff_eq, beq_iff_eq, beq_eq_false_iff_ne, Bool.not_eq_true', Bool.not_eq_false', decide_eq_true_eq, decide_eq_false_iff_not, List.length_map] at hk2)
  · refine rn rfl ?_
    refine goal_guard rfl rfl rfl (fun hg => ?_) (fun hg => ?_) <;> (try simp only [gt_iff_lt, ge_iff_le, bne_iff_ne, ne_eq, bne_eq_false_iff_eq, beq_iff_eq, beq_eq_false_iff_ne, Bool.not_eq_true', Bool.not_eq_false', decide_eq_true_eq, decide_eq_false_iff_not, List.length_map] at hg)
    · refine rn rfl ?_
      refine goal_step (step_call [] rfl rfl rfl rfl rfl rfl (validNumbersX_ct x.list (by omega))) ?_
      rintro σ2 ⟨r, o', ⟨rfl, rfl⟩, hσ⟩
      obtain rfl := Option.some.inj hσ
      clear hσ
      refine rn rfl ?_
      refine goal_guard rfl rfl rfl (fun hv => ?_) (fun hv => ?_) <;> (try simp only [gt_iff_lt, ge_iff_le, bne_iff_ne, ne_eq, bne_eq_false_iff_eq, beq_iff_eq, beq_eq_false_iff_ne, Bool.not_eq_true', Bool.not_eq_false', decide_eq_true_eq, decide_eq_false_iff_not, List.length_map] at hv)
      · refine rn rfl ?_
        refine goal_guard rfl rfl rfl (fun hl => ?_) (fun hl => ?_) <;> (try simp only [gt_iff_lt, ge_iff_le, bne_iff_ne, ne_eq, bne_eq_false_iff_eq, beq_iff_eq, beq_eq_false_iff_ne, Bool.not_eq_true', Bool.not_eq_false', decide_eq_true_eq, decide_eq_false_iff_not, List.length_map] at hl)
        · have hl' : x.list.length ≤ 8 := by omega
          refine rn rfl (fin_is [] rfl ⟨?_, rfl⟩)
          simp only [nil_zero, List.length_map]
          simp [sslotOk, hk2, hg, hv, hl']
        · have hl' : ¬ x.list.length ≤ 8 := by omega
          refine rn rfl (fin_is [] rfl ⟨?_, rfl⟩)
          simp [sslotOk, hk2, hg, hv, hl']
      · refine rn rfl (fin_is [] rfl ⟨?_, rfl⟩)
        simp only [sslotOk, hk2, hg, hv]
        simp
    · refine rn rfl (fin_is [] rfl ⟨?_, rfl⟩)
      simp [sslotOk, hk2, hg]
  · refine rn rfl ?_
    refine goal_cond rfl (fun hk4 => ?_) (fun hk4 => ?_) <;> (try simp only [gt_iff_lt, ge_iff_le, bne_iff_ne, ne_eq, bne_eq_false_iff_eq, beq_iff_eq, beq_eq_false_iff_ne, Bool.not_eq_true', Bool.not_eq_false', decide_eq_true_eq, decide_eq_false_iff_not, List.length_map] at hk4)
    · refine rn rfl ?_
      refine goal_guard rfl rfl rfl (fun hg => ?_) (fun hg => ?_) <;> (try simp only [gt_iff_lt, ge_iff_le, bne_iff_ne, ne_eq, bne_eq_false_iff_eq, beq_iff_eq, beq_eq_false_iff_ne, Bool.not_eq_true', Bool.not_eq_false', decide_eq_true_eq, decide_eq_false_iff_not, List.length_map] at hg)
      · refine rn rfl ?_
        refine goal_guard rfl rfl rfl (fun hl => ?_) (fun hl => ?_) <;> (try simp only [gt_iff_lt, ge_iff_le, bne_iff_ne, ne_eq, bne_eq_false_iff_eq, beq_iff_eq, beq_eq_false_iff_ne, Bool.not_eq_true', Bool.not_eq_false', decide_eq_true_eq, decide_eq_false_iff_not, List.length_map] at hl)
        · have hl' : x.list = [] := by
            cases hx : x.list with
            | nil => rfl
            | cons a l => rw [hx] at hl; simp at hl; omega
          refine rn rfl ?_
          refine goal_step (step_call [] rfl rfl rfl rfl rfl rfl (svalidFlatX_ct ⟨[], x.pairs⟩ (by simp) (by simp only; omega) hn)) ?_
          rintro σ2 ⟨r, o', ⟨rfl, rfl⟩, hσ⟩
          obtain rfl := Option.some.inj hσ
          clear hσ
          refine rn rfl ?_
          refine rn rfl (fin_is [] rfl ⟨?_, rfl⟩)
          simp [sslotOk, hk2, hk4, hg, hl']
        · have hl' : x.list ≠ [] := fun h0 => by rw [h0] at hl; simp at hl
          refine rn rfl (fin_is [] rfl ⟨?_, rfl⟩)
          simp [sslotOk, hk2, hk4, hg, hl']
      · refine rn rfl (fin_is [] rfl ⟨?_, rfl⟩)
        simp [sslotOk, hk2, hk4, hg]
    · refine rn rfl ?_
      refine goal_guard rfl rfl rfl (fun hp => ?_) (fun hp => ?_) <;> (try simp only [gt_iff_lt, ge_iff_le, bne_iff_ne, ne_eq, bne_eq_false_iff_eq, beq_iff_eq, beq_eq_false_iff_ne, Bool.not_eq_true', Bool.not_eq_false', decide_eq_true_eq, decide_eq_false_iff_not, List.length_map] at hp)
      · have hp' : x.pairs = [] := by
          cases hx : x.pairs with
          | nil => rfl
          | cons a l => rw [hx] at hp; simp at hp; omega
        refine rn rfl ?_
        refine goal_guard rfl rfl rfl (fun hg => ?_) (fun hg => ?_) <;> (try simp only [gt_iff_lt, ge_iff_le, bne_iff_ne, ne_eq, bne_eq_false_iff_eq, beq_iff_eq, beq_eq_false_iff_ne, Bool.not_eq_true', Bool.not_eq_false', decide_eq_true_eq, decide_eq_false_iff_not, List.length_map] at hg)
        · refine rn rfl ?_
          refine goal_guard rfl rfl rfl (fun hl => ?_) (fun hl => ?_) <;> (try simp only [gt_iff_lt, ge_iff_le, bne_iff_ne, ne_eq, bne_eq_false_iff_eq, beq_iff_eq, beq_eq_false_iff_ne, Bool.not_eq_true', Bool.not_eq_false', decide_eq_true_eq, decide_eq_false_iff_not, List.length_map] at hl)
          · have hl' : x.list.length = 1 := by omega
            refine rn rfl ?_
            refine goal_step (step_call [] rfl rfl rfl rfl rfl rfl (validNumbersX_ct x.list (by omega))) ?_
            rintro σ2 ⟨r, o', ⟨rfl, rfl⟩, hσ⟩
            obtain rfl := Option.some.inj hσ
            clear hσ
            refine rn rfl ?_
            refine goal_guard rfl rfl rfl (fun hv => ?_) (fun hv => ?_) <;> (try simp only [gt_iff_lt, ge_iff_le, bne_iff_ne, ne_eq, bne_eq_false_iff_eq, beq_iff_eq, beq_eq_false_iff_ne, Bool.not_eq_true', Bool.not_eq_false', decide_eq_true_eq, decide_eq_false_iff_not, List.length_map] at hv)
            · refine rn rfl (fin_is [] rfl ⟨?_, rfl⟩)
              simp only [sslotOk, hk2, hk4, hg, hp', hv, hl']
              simp
            · refine rn rfl ?_
              refine goal_guard rfl rfl rfl (fun h0 => by simp [hg] at h0) (fun _ => ?_)
              refine rn rfl (fin_is [] rfl ⟨?_, rfl⟩)
              simp only [sslotOk, hk2, hk4, hg, hp', hv, hl']
              simp
          · have hl' : ¬ x.list.length = 1 := by omega
            refine rn rfl ?_
            refine goal_guard rfl rfl rfl (fun h0 => by simp [hg] at h0) (fun _ => ?_)
            refine rn rfl (fin_is [] rfl ⟨?_, rfl⟩)
            simp [sslotOk, hk2, hk4, hg, hp', hl']
        · refine rn rfl ?_
          refine goal_guard rfl rfl rfl (fun _ => ?_) (fun h0 => by simp [hg] at h0)
          refine rn rfl (fin_is [] rfl ⟨?_, rfl⟩)
          simp only [nil_zero, List.length_map]
          simp [sslotOk, hk2, hk4, hg, hp']
      · have hp' : x.pairs ≠ [] := fun h0 => by rw [h0] at hp; simp at hp
        refine rn rfl (fin_is [] rfl ⟨?_, rfl⟩)
        simp [sslotOk, hk2, hk4, hp']

structure OkBX (s : Sig) (b : Bnds) : Prop where
  sig : OkS s
  len : b.length = s.length
  few : s.length ≤ 8
  kinds : ∀ p ∈ s, 0 ≤ p.kind ∧ p.kind ≤ 4
  one : ∀ (i : Nat) (p : Param) (x : Slot), s[i]? = some p → b[i]? = some x → singleQ p = true → x.given = true → ∃ v, x.list = [v]
  big : ∀ x ∈ b, 8 * x.list.length ≤ 140737488351232 ∧ 24 * x.pairs.length ≤ 140737488351232

/-- What is unbound so far is one rest and one map long, and some few more. -/
structure UL (s : Sig) (i : Nat) (F : Flat) : Prop where
  places : 8 * F.places.length ≤ 8 * i + (if (s.take i).any (kIs 2) then 140737488351232 else 0)
  named : 24 * F.named.length ≤ 24 * i + (if (s.take i).any (kIs 4) then 140737488351232 else 0)

theorem UL.zero (s : Sig) : UL s 0 zF := ⟨by simp [zF], by simp [zF]⟩

theorem UL.tot {s : Sig} {i : Nat} {F : Flat} (h : UL s i F) : 8 * F.places.length ≤ 8 * i + 140737488351232 ∧ 24 * F.named.length ≤ 24 * i + 140737488351232 := by
  have h1 := h.places
  have h2 := h.named
  split at h1 <;> split at h2 <;> omega

theorem no_kind {s : Sig} (hs : OkS s) {i : Nat} {p : Param} (hp : s[i]? = some p) (k : Int) (hk : k = 2 ∨ k = 4) (hpk : p.kind = k) : (s.take i).any (kIs k) = false := by
  rw [List.any_eq_false]
  intro q hq hqk
  obtain ⟨j, hj⟩ := List.getElem?_of_mem hq
  rw [List.getElem?_take] at hj
  split at hj
  · rename_i hji
    have hqk' : q.kind = k := by simpa [kIs] using hqk
    have h2 := hs.one hj hp (by omega) (by
      cases hx : singleQ p with
      | false => rfl
      | true => rw [single_kind] at hx; omega)
    omega
  · cases hj

theorem UL.next {s : Sig} {b : Bnds} (h : OkBX s b) {i : Nat} {F : Flat} {ob : Bool} {p : Param} {x : Slot} (hU : UL s i F) (hp : s[i]? = some p) (hx : b[i]? = some x) : UL s (i + 1) (stU (F, ob) (p, x)).1 := by
  obtain ⟨h1, h2⟩ := h.big x (List.mem_of_getElem? hx)
  have u1 := hU.places
  have u2 := hU.named
  have a2 := any_take_succ (p := kIs 2) hp
  have a4 := any_take_succ (p := kIs 4) hp
  unfold stU
  simp only
  split
  · rename_i hk
    rw [no_kind h.sig hp 2 (.inl rfl) hk] at u1
    have e2 : (s.take (i + 1)).any (kIs 2) = true := by rw [a2]; simp [kIs, hk]
    have e4 : (s.take (i + 1)).any (kIs 4) = (s.take i).any (kIs 4) := by rw [a4]; simp [kIs, hk]
    refine ⟨?_, ?_⟩
    · rw [e2]; simp only [List.length_append, if_true, Bool.false_eq_true, if_false] at u1 ⊢; omega
    · rw [e4]; simp only; split at u2 <;> simp_all <;> omega
  · rename_i hk2
    have e2 : (s.take (i + 1)).any (kIs 2) = (s.take i).any (kIs 2) := by rw [a2]; simp [kIs, hk2]
    split
    · rename_i hk
      rw [no_kind h.sig hp 4 (.inr rfl) hk] at u2
      have e4 : (s.take (i + 1)).any (kIs 4) = true := by rw [a4]; simp [kIs, hk]
      refine ⟨?_, ?_⟩
      · rw [e2]; simp only; omega
      · rw [e4]; simp only [List.length_append, if_true, Bool.false_eq_true, if_false] at u2 ⊢; omega
    · rename_i hk4
      have e4 : (s.take (i + 1)).any (kIs 4) = (s.take i).any (kIs 4) := by rw [a4]; simp [kIs, hk4]
      split
      · exact ⟨by rw [e2]; simp only; omega, by rw [e4]; simp only; omega⟩
      · split
        · exact ⟨by rw [e2]; simp only [List.length_append, List.length_cons, List.length_nil]; omega, by rw [e4]; simp only; omega⟩
        · exact ⟨by rw [e2]; simp only; omega, by rw [e4]; simp only [List.length_append, List.length_cons, List.length_nil]; omega⟩

theorem iunbindX_ct (s : Sig) (b : Bnds) (h : OkBX s b) : ACalls pk 10 [.agg (eG s), .agg (eBi b)] [] (fun r o => r = rF (unbQ s b) ∧ o = oF (unbQ s b)) := by
  have hlen := h.len
  have hfew := h.few
  have hzl : (s.zip b).length = s.length := by simp [hlen]
  refine acalls_of_body Tryz.func10 rfl (by kernel_rfl) rfl ?_
  refine rn rfl ?_
  refine goal_weakCod (Weak.adoptO 3 0 1) ?_
  refine goal_weakCod (Weak.adoptO 3 1 2) ?_
  refine goal_loop_keep (fun m σ => ∃ (q L : Int) (i l1 l2 : Nat) (ob : Bool) (F : Flat), q = i ∧ L = s.length ∧ i ≤ s.length ∧ m = s.length - i ∧ l1 = F.places.length ∧ l2 = F.named.length ∧ (F, ob) = ((s.zip b).take i).foldl stU (zF, true) ∧ UL s i F ∧
      σ = ⟨[(13, .one (.int .i64 q)), (12, .one (.int .i64 L)), (11, .one (.fs (s.map eQ))), (6, .one (.bool ob)), (5, .one (.op 2 0 0)), (4, .one (.op 1 0 0)), (3, .one (.op 0 0 0))],
        [some ⟨1, [eBi b], false, false, true⟩, some ⟨2, [[.fs [], .fs []]], false, false, true⟩, some ⟨2, [[.os 3 0 l1 l1, .os 4 0 l2 l2]], false, false, true⟩, ownI F.places, ownP F.named], []⟩) s.length [13, 12, 11, 6, 5, 4, 3] [1, 2, 3, 4, 5] rfl
    ⟨_, _, 0, 0, 0, _, zF, rfl, ?_, by omega, by omega, rfl, rfl, rfl, UL.zero s, rfl⟩ ?_
  · simp
  rintro m σ ⟨q, L, i, l1, l2, ob, F, rfl, rfl, hi, rfl, rfl, rfl, hF, hU, rfl⟩
  have hln := hU.tot
  refine rn rfl ?_
  refine goal_cond rfl (fun hc => ?_) (fun hc => ?_) <;> (try simp only [gt_iff_lt, ge_iff_le, bne_iff_ne, ne_eq, bne_eq_false_iff_eq, beq_iff_eq, beq_eq_false_iff_ne, Bool.not_eq_true', Bool.not_eq_false', decide_eq_true_eq, decide_eq_false_iff_not, List.length_map] at hc)
  · obtain ⟨p, hp⟩ := at_some (xs := s) (i := i) (by omega)
    obtain ⟨x, hx⟩ := at_some (xs := b) (i := i) (by omega)
    have hsz := h.big x (List.mem_of_getElem? hx)
    have hU1 := hU.next (ob := ob) h hp hx
    have hln1 := hU1.tot
    have hz : (s.zip b)[i]? = some (p, x) := by rw [List.getElem?_zip_eq_some]; exact ⟨hp, hx⟩
    have hst : ((s.zip b).take (i + 1)).foldl stU (zF, true) = stU (F, ob) (p, x) := by rw [foldl_take_succ _ _ hz, ← hF]
    have hone := h.one i p x hp hx
    have hk := h.kinds p (List.mem_of_getElem? hp)
    refine rn rfl ?_
    refine goal_did rfl rfl (dA_index (eQ p) rfl rfl rfl rfl rfl rfl rfl (by omega) (by (try simp); omega) (map_at (by simpa using hp)) rfl) ?_
    refine rn rfl ?_
    refine goal_did rfl rfl (dA_index (eL x) rfl rfl rfl rfl rfl rfl rfl (by omega) (by (try simp); omega) (map_at (by simpa using hx)) rfl) ?_
    refine rn rfl ?_
    cases hpl : placedQ p with
    | true =>
      have hk2 : p.kind ≠ 2 ∧ p.kind ≠ 4 := by rw [placed_kind] at hpl; omega
      refine goal_step (step_call [] rfl rfl rfl rfl rfl rfl (iplaced_ct p)) ?_
      rintro σ2 ⟨r, o', ⟨rfl, rfl⟩, hσ⟩
      obtain rfl := Option.some.inj hσ
      clear hσ
      refine rn rfl ?_
      refine goal_guard rfl rfl rfl (fun _ => ?_) (fun h0 => by rw [hpl] at h0; cases h0)
      refine rn rfl ?_
      refine goal_guard rfl rfl rfl (fun ho => ?_) (fun ho => ?_) <;> (try simp only [gt_iff_lt, ge_iff_le, bne_iff_ne, ne_eq, bne_eq_false_iff_eq, beq_iff_eq, beq_eq_false_iff_ne, Bool.not_eq_true', Bool.not_eq_false', decide_eq_true_eq, decide_eq_false_iff_not, List.length_map] at ho)
      · subst ho
        refine rn rfl ?_
        refine goal_cond rfl (fun hg => ?_) (fun hg => ?_) <;> (try simp only [gt_iff_lt, ge_iff_le, bne_iff_ne, ne_eq, bne_eq_false_iff_eq, beq_iff_eq, beq_eq_false_iff_ne, Bool.not_eq_true', Bool.not_eq_false', decide_eq_true_eq, decide_eq_false_iff_not, List.length_map] at hg)
        · obtain ⟨v, hv⟩ := hone (by simp [singleQ, hpl]) hg
          refine rn rfl ?_
          refine goal_cond rfl (fun _ => ?_) (fun h0 => by rw [hg] at h0; cases h0)
          have hv1 : x.list.length = 1 := by rw [hv]; rfl
          refine rn rfl ?_
          refine goal_did rfl rfl (dA_append (old := (F.places).map eI) (rows := (x.list : List Int).map eI) (((F.places) ++ (x.list : List Int)).map eI) (F.places.length + x.list.length) true (Dst.own rfl rfl rfl rfl rfl (by first | (simp; done) | (simp; omega)) (whole (by first | (simp; done) | (simp; omega)))) (Src.fs rfl) rfl rfl rfl rfl rfl rfl rfl rfl (rows_len eI_len _) (rows_len eI_len _) (by (try simp only [List.length_map, List.length_append, List.length_cons, List.length_nil, List.length_take, List.length_drop]); show _ * 8 ≤ _; omega) (by first | (simp; done) | (simp; omega)) (by simp) (by first | (simp; done) | (simp; omega)) (fun _ => noOwnR_map _ eI_noOwn _)) ?_
          refine rn rfl ?_
          refine round_keep (s.length - (i + 1)) [13, 12, 11, 6, 5, 4, 3] [0, 1, 2, 7, 4] (by omega) rfl ⟨_, _, i + 1, F.places.length + x.list.length, F.named.length, true, ⟨F.places ++ x.list, F.named⟩, wrap64 (by omega) (by omega), rfl, by omega, rfl, by simp, by simp, by rw [hst]; simp [stU, hk2.1, hk2.2, hpl, hg, hv, hd0], ?_, rfl⟩; simp [stU, hk2.1, hk2.2, hpl, hg, hv, hd0] at hU1; (try rw [hv]); exact hU1
        · refine rn rfl ?_
          refine goal_cond rfl (fun h0 => by simp at h0; omega) (fun _ => ?_)
          refine rn rfl ?_
          refine goal_step (step_call [] rfl rfl rfl rfl rfl rfl (iplaced_ct p)) ?_
          rintro σ2 ⟨r, o', ⟨rfl, rfl⟩, hσ⟩
          obtain rfl := Option.some.inj hσ
          clear hσ
          refine rn rfl ?_
          refine goal_guard rfl rfl rfl (fun _ => ?_) (fun h0 => by rw [hpl] at h0; cases h0)
          refine rn rfl ?_
          refine goal_cond rfl (fun _ => ?_) (fun h0 => by simp [hg] at h0)
          refine rn rfl ?_
          refine round_keep (s.length - (i + 1)) [13, 12, 11, 6, 5, 4, 3] [0, 1, 2, 3, 4] (by omega) rfl ⟨_, _, i + 1, F.places.length, F.named.length, false, F, wrap64 (by omega) (by omega), rfl, by omega, rfl, by simp, by simp, by rw [hst]; simp [stU, hk2.1, hk2.2, hpl, hg], ?_, rfl⟩; simp [stU, hk2.1, hk2.2, hpl, hg] at hU1; exact hU1
      · subst ho
        refine rn rfl ?_
        refine goal_cond rfl (fun h0 => by simp at h0; omega) (fun _ => ?_)
        refine rn rfl ?_
        refine goal_step (step_call [] rfl rfl rfl rfl rfl rfl (iplaced_ct p)) ?_
        rintro σ2 ⟨r, o', ⟨rfl, rfl⟩, hσ⟩
        obtain rfl := Option.some.inj hσ
        clear hσ
        refine rn rfl ?_
        refine goal_guard rfl rfl rfl (fun _ => ?_) (fun h0 => by rw [hpl] at h0; cases h0)
        refine rn rfl ?_
        refine goal_cond rfl (fun hg => ?_) (fun hg => ?_) <;> (try simp only [gt_iff_lt, ge_iff_le, bne_iff_ne, ne_eq, bne_eq_false_iff_eq, beq_iff_eq, beq_eq_false_iff_ne, Bool.not_eq_true', Bool.not_eq_false', decide_eq_true_eq, decide_eq_false_iff_not, List.length_map] at hg)
        · refine rn rfl ?_
          refine round_keep (s.length - (i + 1)) [13, 12, 11, 6, 5, 4, 3] [0, 1, 2, 3, 4] (by omega) rfl ⟨_, _, i + 1, F.places.length, F.named.length, false, F, wrap64 (by omega) (by omega), rfl, by omega, rfl, by simp, by simp, by rw [hst]; simp [stU, hk2.1, hk2.2, hpl, hg], ?_, rfl⟩; simp [stU, hk2.1, hk2.2, hpl, hg] at hU1; exact hU1
        · refine rn rfl ?_
          refine goal_step (step_call [] rfl rfl rfl rfl rfl rfl (isingle_ct p)) ?_
          rintro σ2 ⟨r, o', ⟨rfl, rfl⟩, hσ⟩
          obtain rfl := Option.some.inj hσ
          clear hσ
          refine rn rfl ?_
          refine goal_guard rfl rfl rfl (fun _ => ?_) (fun h0 => by simp [singleQ, hpl] at h0)
          refine rn rfl ?_
          refine goal_cond rfl (fun _ => ?_) (fun h0 => by rw [hg] at h0; cases h0)
          obtain ⟨v, hv⟩ := hone (by simp [singleQ, hpl]) hg
          refine rn rfl ?_
          refine goal_drawL [2, 5, 6] [12] 13 rfl ?_
          refine drnL [0, 1, 2, 3, 4, 5] (by kernel_rfl) (by kernel_rfl) rfl rfl ?_
          refine AHL_did 6 rfl (by kernel_rfl) (by kernel_rfl) (by kernel_rfl) (by kernel_rfl) rfl rfl (dA_index (eI v) rfl rfl rfl rfl rfl rfl rfl (by omega) (by simp [hv]) (by simp [hv]) rfl) ?_
          refine drnL [7, 8] (by kernel_rfl) (by kernel_rfl) rfl rfl ?_
          refine AHL_oneDid 9 rfl (by kernel_rfl) rfl rfl (dA_step rfl) (mdOk rfl) ?_
          refine AHL_oneDid 10 rfl (by kernel_rfl) rfl rfl (dA_append (old := (F.named).map eP) (rows := ([⟨p.name, v⟩] : List Pair).map eP) (((F.named) ++ ([⟨p.name, v⟩] : List Pair)).map eP) (F.named.length + 1) true (Dst.own rfl rfl rfl rfl rfl (by first | (simp; done) | (simp; omega)) (whole (by first | (simp; done) | (simp; omega)))) (Src.os rfl rfl (Nat.le_refl 1) rfl) rfl rfl rfl rfl rfl rfl rfl rfl (rows_len eP_len _) (rows_len eP_len _) (by (try simp only [List.length_map, List.length_append, List.length_cons, List.length_nil, List.length_take, List.length_drop]); show _ * 24 ≤ _; omega) (by first | (simp; done) | (simp; omega)) (by simp) (by first | (simp; done) | (simp; omega)) (fun _ => noOwnR_map _ eP_noOwn _)) (mdOk rfl) ?_
          refine drnL [11] (by kernel_rfl) (by kernel_rfl) rfl rfl ?_
          refine AHL_lateDid 12 rfl (by kernel_rfl) rfl rfl (dA_step rfl) ?_
          refine AH_end (by kernel_rfl) ?_
          refine rn rfl ?_
          refine round_keep (s.length - (i + 1)) [13, 12, 11, 6, 5, 4, 3] [0, 1, 2, 3, 8] (by omega) rfl ⟨_, _, i + 1, F.places.length, F.named.length + 1, false, ⟨F.places, F.named ++ [⟨p.name, v⟩]⟩, wrap64 (by omega) (by omega), rfl, by omega, rfl, by simp, by simp, by rw [hst]; simp [stU, hk2.1, hk2.2, hpl, hg, hv, hd0], ?_, rfl⟩; simp [stU, hk2.1, hk2.2, hpl, hg, hv, hd0] at hU1; (try rw [hv]); exact hU1
    | false =>
      refine goal_step (step_call [] rfl rfl rfl rfl rfl rfl (iplaced_ct p)) ?_
      rintro σ2 ⟨r, o', ⟨rfl, rfl⟩, hσ⟩
      obtain rfl := Option.some.inj hσ
      clear hσ
      refine rn rfl ?_
      refine goal_guard rfl rfl rfl (fun h0 => by rw [hpl] at h0; cases h0) (fun _ => ?_)
      refine rn rfl ?_
      refine goal_cond rfl (fun h2 => ?_) (fun h2 => ?_) <;> (try simp only [gt_iff_lt, ge_iff_le, bne_iff_ne, ne_eq, bne_eq_false_iff_eq, beq_iff_eq, beq_eq_false_iff_ne, Bool.not_eq_true', Bool.not_eq_false', decide_eq_true_eq, decide_eq_false_iff_not, List.length_map] at h2)
      · have hu2 := hU1.tot.1
        simp only [stU, h2, if_true, List.length_append] at hu2
        refine rn rfl ?_
        refine goal_did rfl rfl (dA_append (old := (F.places).map eI) (rows := (x.list : List Int).map eI) (((F.places) ++ (x.list : List Int)).map eI) (F.places.length + x.list.length) true (Dst.own rfl rfl rfl rfl rfl (by first | (simp; done) | (simp; omega)) (whole (by first | (simp; done) | (simp; omega)))) (Src.fs rfl) rfl rfl rfl rfl rfl rfl rfl rfl (rows_len eI_len _) (rows_len eI_len _) (by (try simp only [List.length_map, List.length_append, List.length_cons, List.length_nil, List.length_take, List.length_drop]); show _ * 8 ≤ _; omega) (by first | (simp; done) | (simp; omega)) (by simp) (by first | (simp; done) | (simp; omega)) (fun _ => noOwnR_map _ eI_noOwn _)) ?_
        refine rn rfl ?_
        refine round_keep (s.length - (i + 1)) [13, 12, 11, 6, 5, 4, 3] [0, 1, 2, 7, 4] (by omega) rfl ⟨_, _, i + 1, F.places.length + x.list.length, F.named.length, ob, ⟨F.places ++ x.list, F.named⟩, wrap64 (by omega) (by omega), rfl, by omega, rfl, by simp, by simp, by rw [hst]; simp [stU, h2], ?_, rfl⟩; simp [stU, h2] at hU1; exact hU1
      · refine rn rfl ?_
        refine goal_step (step_call [] rfl rfl rfl rfl rfl rfl (iplaced_ct p)) ?_
        rintro σ2 ⟨r, o', ⟨rfl, rfl⟩, hσ⟩
        obtain rfl := Option.some.inj hσ
        clear hσ
        refine rn rfl ?_
        refine goal_guard rfl rfl rfl (fun h0 => by rw [hpl] at h0; cases h0) (fun _ => ?_)
        refine rn rfl ?_
        refine goal_step (step_call [] rfl rfl rfl rfl rfl rfl (isingle_ct p)) ?_
        rintro σ2 ⟨r, o', ⟨rfl, rfl⟩, hσ⟩
        obtain rfl := Option.some.inj hσ
        clear hσ
        refine rn rfl ?_
        refine goal_guard rfl rfl rfl (fun h3 => ?_) (fun h3 => ?_) <;> (try simp only [gt_iff_lt, ge_iff_le, bne_iff_ne, ne_eq, bne_eq_false_iff_eq, beq_iff_eq, beq_eq_false_iff_ne, Bool.not_eq_true', Bool.not_eq_false', decide_eq_true_eq, decide_eq_false_iff_not, List.length_map] at h3)
        · have h4 : p.kind ≠ 4 := by rw [single_kind] at h3; omega
          refine rn rfl ?_
          refine goal_cond rfl (fun hg => ?_) (fun hg => ?_) <;> (try simp only [gt_iff_lt, ge_iff_le, bne_iff_ne, ne_eq, bne_eq_false_iff_eq, beq_iff_eq, beq_eq_false_iff_ne, Bool.not_eq_true', Bool.not_eq_false', decide_eq_true_eq, decide_eq_false_iff_not, List.length_map] at hg)
          · obtain ⟨v, hv⟩ := hone h3 hg
            refine rn rfl ?_
            refine goal_drawL [2, 5, 6] [12] 13 rfl ?_
            refine drnL [0, 1, 2, 3, 4, 5] (by kernel_rfl) (by kernel_rfl) rfl rfl ?_
            refine AHL_did 6 rfl (by kernel_rfl) (by kernel_rfl) (by kernel_rfl) (by kernel_rfl) rfl rfl (dA_index (eI v) rfl rfl rfl rfl rfl rfl rfl (by omega) (by simp [hv]) (by simp [hv]) rfl) ?_
            refine drnL [7, 8] (by kernel_rfl) (by kernel_rfl) rfl rfl ?_
            refine AHL_oneDid 9 rfl (by kernel_rfl) rfl rfl (dA_step rfl) (mdOk rfl) ?_
            refine AHL_oneDid 10 rfl (by kernel_rfl) rfl rfl (dA_append (old := (F.named).map eP) (rows := ([⟨p.name, v⟩] : List Pair).map eP) (((F.named) ++ ([⟨p.name, v⟩] : List Pair)).map eP) (F.named.length + 1) true (Dst.own rfl rfl rfl rfl rfl (by first | (simp; done) | (simp; omega)) (whole (by first | (simp; done) | (simp; omega)))) (Src.os rfl rfl (Nat.le_refl 1) rfl) rfl rfl rfl rfl rfl rfl rfl rfl (rows_len eP_len _) (rows_len eP_len _) (by (try simp only [List.length_map, List.length_append, List.length_cons, List.length_nil, List.length_take, List.length_drop]); show _ * 24 ≤ _; omega) (by first | (simp; done) | (simp; omega)) (by simp) (by first | (simp; done) | (simp; omega)) (fun _ => noOwnR_map _ eP_noOwn _)) (mdOk rfl) ?_
            refine drnL [11] (by kernel_rfl) (by kernel_rfl) rfl rfl ?_
            refine AHL_lateDid 12 rfl (by kernel_rfl) rfl rfl (dA_step rfl) ?_
            refine AH_end (by kernel_rfl) ?_
            refine rn rfl ?_
            refine round_keep (s.length - (i + 1)) [13, 12, 11, 6, 5, 4, 3] [0, 1, 2, 3, 8] (by omega) rfl ⟨_, _, i + 1, F.places.length, F.named.length + 1, ob, ⟨F.places, F.named ++ [⟨p.name, v⟩]⟩, wrap64 (by omega) (by omega), rfl, by omega, rfl, by simp, by simp, by rw [hst]; simp [stU, h2, h4, hpl, hg, hv, hd0], ?_, rfl⟩; simp [stU, h2, h4, hpl, hg, hv, hd0] at hU1; exact hU1
          · refine rn rfl ?_
            refine goal_cond rfl (fun h0 => by simp at h0; omega) (fun _ => ?_)
            refine rn rfl ?_
            refine round_keep (s.length - (i + 1)) [13, 12, 11, 6, 5, 4, 3] [0, 1, 2, 3, 4] (by omega) rfl ⟨_, _, i + 1, F.places.length, F.named.length, ob, F, wrap64 (by omega) (by omega), rfl, by omega, rfl, by simp, by simp, by rw [hst]; simp [stU, h2, h4, hpl, hg], ?_, rfl⟩; simp [stU, h2, h4, hpl, hg] at hU1; exact hU1
        · have h4 : p.kind = 4 := by
            rcases kind_split hk with h0 | h0 | h0 | h0
            · rw [hpl] at h0; cases h0
            · exact absurd h0 h2
            · simp [singleQ, h0] at h3
            · exact h0
          refine rn rfl ?_
          refine goal_cond rfl (fun _ => ?_) (fun h0 => by simp at h0; omega)
          refine rn rfl ?_
          have hu4 := hU1.tot.2
          simp [stU, h4] at hu4
          refine goal_did rfl rfl (dA_append (old := (F.named).map eP) (rows := (x.pairs : List Pair).map eP) (((F.named) ++ (x.pairs : List Pair)).map eP) (F.named.length + x.pairs.length) true (Dst.own rfl rfl rfl rfl rfl (by first | (simp; done) | (simp; omega)) (whole (by first | (simp; done) | (simp; omega)))) (Src.fs rfl) rfl rfl rfl rfl rfl rfl rfl rfl (rows_len eP_len _) (rows_len eP_len _) (by (try simp only [List.length_map, List.length_append, List.length_cons, List.length_nil, List.length_take, List.length_drop]); show _ * 24 ≤ _; omega) (by first | (simp; done) | (simp; omega)) (by simp) (by first | (simp; done) | (simp; omega)) (fun _ => noOwnR_map _ eP_noOwn _)) ?_
          refine rn rfl ?_
          refine round_keep (s.length - (i + 1)) [13, 12, 11, 6, 5, 4, 3] [0, 1, 2, 3, 7] (by omega) rfl ⟨_, _, i + 1, F.places.length, F.named.length + x.pairs.length, ob, ⟨F.places, F.named ++ x.pairs⟩, wrap64 (by omega) (by omega), rfl, by omega, rfl, by simp, by simp, by rw [hst]; simp [stU, h4], ?_, rfl⟩; simp [stU, h4] at hU1; exact hU1
  · refine rn rfl (round_ext ?_)
    have hfin : unbQ s b = F := by
      unfold unbQ
      rw [List.take_of_length_le (by omega)] at hF
      rw [← hF]
    rw [hfin]
    refine rn rfl ?_
    refine goal_step (step_callE [] rfl rfl rfl rfl rfl rfl (cons_eq (asFl F) rfl) (copyOfX_ct F (by omega) (by omega))) ?_
    rintro σ2 ⟨r, o', ⟨rfl, rfl⟩, hσ⟩
    obtain rfl := Option.some.inj hσ
    clear hσ
    refine rn rfl ?_
    exact rn rfl (fin_is [5, 6] rfl ⟨rfl, rfl⟩)

end Go.Proofs.YthbnieiohbpacaaGreat
