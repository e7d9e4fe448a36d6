/- Part 5 of the proof: an abstract machine over the model; contracts of the functions that the law reaches. -/
import Derived.Test.YtbaglnfffgonlaaGreatKLFL4
set_option linter.unusedVariables false
set_option linter.unusedSimpArgs false
namespace Go.Proofs.YtbaglnfffgonlaaGreat
open Go
set_option maxRecDepth 100000
set_option maxHeartbeats 1000000

def tQ1 (p : Param) : Param := if p.kind == 1 then ⟨p.name, 3, p.hasD, p.dflt⟩ else p

def tQ (s : Sig) : Sig := s.map tQ1

def stN (F : Flat) (px : Param × Slot) : Flat :=
  if px.1.kind = 0 then ⟨F.places ++ px.2.list, F.named⟩
  else if px.1.kind = 2 then F
  else if px.1.kind = 4 then ⟨F.places, F.named ++ px.2.pairs⟩
  else if px.2.given then ⟨F.places, F.named ++ [⟨px.1.name, hd0 px.2.list⟩]⟩ else F

def namQ (s : Sig) (b : Bnds) : Flat := (s.zip b).foldl stN zF

theorem stN_len (F : Flat) (p : Param) (x : Slot) (h : x.list.length ≤ 1048576 ∧ x.pairs.length ≤ 1048576) : (stN F (p, x)).places.length ≤ F.places.length + 1048576 ∧ (stN F (p, x)).named.length ≤ F.named.length + 1048576 := by
  unfold stN
  simp only
  split
  · simp; omega
  · split
    · simp
    · split
      · simp; omega
      · split <;> simp

theorem nam_len (b : Bnds) (hb : ∀ x ∈ b, x.list.length ≤ 1048576 ∧ x.pairs.length ≤ 1048576) : ∀ (zs : List (Param × Slot)) (F : Flat), (∀ z ∈ zs, z.2 ∈ b) → (zs.foldl stN F).places.length ≤ F.places.length + 1048576 * zs.length ∧ (zs.foldl stN F).named.length ≤ F.named.length + 1048576 * zs.length
  | [], st, _ => by simp
  | z :: zs, st, h => by
    have h1 := nam_len b hb zs (stN st z) (fun y hy => h y (by simp [hy]))
    have h2 := stN_len st z.1 z.2 (hb _ (h z (by simp)))
    rw [List.foldl_cons]
    simp only [List.length_cons]
    have e : stN st z = stN st (z.1, z.2) := rfl
    rw [← e] at h2
    omega

theorem nam_names (M : Nat) : ∀ (zs : List (Param × Slot)) (F : Flat), (∀ z ∈ zs, z.1.name.length ≤ M ∧ ∀ q ∈ z.2.pairs, q.name.length ≤ M) → (∀ q ∈ F.named, q.name.length ≤ M) → ∀ q ∈ (zs.foldl stN F).named, q.name.length ≤ M
  | [], F, _, h => h
  | z :: zs, F, hz, h => by
    rw [List.foldl_cons]
    refine nam_names M zs _ (fun y hy => hz y (by simp [hy])) ?_
    obtain ⟨h1, h2⟩ := hz z (by simp)
    intro q hq
    unfold stN at hq
    split at hq
    · exact h q hq
    · split at hq
      · exact h q hq
      · split at hq
        · rcases List.mem_append.1 hq with hq | hq
          · exact h q hq
          · exact h2 q hq
        · split at hq
          · rcases List.mem_append.1 hq with hq | hq
            · exact h q hq
            · simp only [List.mem_singleton] at hq; rw [hq]; exact h1
          · exact h q hq

def NamF (s : Sig) (f : Flat) : Flat × Bool := if fitQ s f && accQ s f then (if 0 < (restB s (boundQ s f).1).length then (unbQ s (boundQ s f).1, true) else checkF (namQ s (boundQ s f).1) true) else (zF, false)

theorem bound_names {s : Sig} {f : Flat} (hs : OkS s) (hf : OkF f) : ∀ z ∈ s.zip (boundQ s f).1, z.1.name.length ≤ 6 ∧ ∀ q ∈ z.2.pairs, q.name.length ≤ 6 := by
  intro z hz
  obtain ⟨i, hi⟩ := List.getElem?_of_mem hz
  rw [List.getElem?_zip_eq_some] at hi
  refine ⟨(hs.nameLen (List.mem_of_getElem? hi.1)).1, fun q hq => ?_⟩
  rw [bound_at hs hf hi.1 hi.2] at hq
  have hqn : q ∈ f.named := by
    unfold giveQ at hq
    split at hq
    · exact (List.mem_filter.1 hq).1
    · split at hq
      · split at hq
        · simp at hq
        · simp [zL] at hq
      · unfold place1 at hq
        split at hq
        · simp at hq
        · split at hq
          · simp at hq
          · simp [zL] at hq
  have := hf.pairs q hqn
  simp only [okPair, okName, inR, Bool.and_eq_true, decide_eq_true_eq] at this
  omega

theorem tQ1_single (p : Param) : singleQ (tQ1 p) = singleQ p := by
  unfold tQ1
  split
  · rename_i h
    simp only [beq_iff_eq] at h
    simp [singleQ, placedQ, h]
  · rfl

theorem tQ_okB {s : Sig} {b : Bnds} (h : OkB s b) : OkB (tQ s) b := by
  refine ⟨by simp [tQ, h.len], by simp [tQ, h.few], fun p hp => ?_, fun i p x hp hx hsg hg => ?_, h.size⟩
  · simp only [tQ, List.mem_map] at hp
    obtain ⟨q, hq, rfl⟩ := hp
    have := h.kinds q hq
    unfold tQ1
    split
    · simp
    · exact this
  · simp only [tQ, List.getElem?_map] at hp
    cases hq : s[i]? with
    | none => rw [hq] at hp; cases hp
    | some q =>
      rw [hq] at hp
      simp only [Option.map_some, Option.some.injEq] at hp
      rw [← hp, tQ1_single] at hsg
      exact h.one i q x hq hx hsg hg

theorem nam_eq {s : Sig} {b : Bnds} {n : Nat} (h : OkB s b) (hs : OkS s) (hr : restB s b = []) (honly : ∀ i p x, s[i]? = some p → b[i]? = some x → singleQ p = true → (x.given = false → x.list = []) ∧ (p.kind = 0 → x.given = decide (i < n))) : unbQ (tQ s) b = namQ s b := by
  have hl := h.len
  have hzl : (s.zip b).length = s.length := by simp [hl]
  have key : ∀ i, i ≤ s.length → ∃ ob, (((tQ s).zip b).take i).foldl stU (zF, true) = (((s.zip b).take i).foldl stN zF, ob) ∧ (ob = false → n < i) := by
    intro i
    induction i with
    | zero => intro _; exact ⟨true, by simp, fun h0 => by cases h0⟩
    | succ i ih =>
      intro hi
      obtain ⟨ob, h1, h2⟩ := ih (by omega)
      obtain ⟨p, hp⟩ := at_some (xs := s) (i := i) (by omega)
      obtain ⟨x, hx⟩ := at_some (xs := b) (i := i) (by omega)
      have hz : (s.zip b)[i]? = some (p, x) := by rw [List.getElem?_zip_eq_some]; exact ⟨hp, hx⟩
      have hz' : ((tQ s).zip b)[i]? = some (tQ1 p, x) := by rw [List.getElem?_zip_eq_some]; exact ⟨by simp [tQ, hp], hx⟩
      rw [foldl_take_succ _ _ hz, foldl_take_succ _ _ hz', h1]
      generalize ((s.zip b).take i).foldl stN zF = F
      have hk := h.kinds p (List.mem_of_getElem? hp)
      have ho := honly i p x hp hx
      have hone := h.one i p x hp hx
      by_cases k0 : p.kind = 0
      · have ht : tQ1 p = p := by simp [tQ1, k0]
        have hsg : singleQ p = true := single_kind.2 (.inl k0)
        have hpl : placedQ p = true := placed_kind.2 (.inl k0)
        obtain ⟨o1, o2⟩ := ho hsg
        have o2 := o2 k0
        rw [ht]
        cases hg : x.given with
        | true =>
          obtain ⟨v, hv⟩ := hone hsg hg
          rw [hg] at o2
          have hin : i < n := by simpa using o2.symm
          have hob : ob = true := by
            cases ob with
            | true => rfl
            | false => have := h2 rfl; omega
          subst hob
          exact ⟨true, by simp [stU, stN, k0, hg, hpl, hv, hd0], fun h0 => by cases h0⟩
        | false =>
          rw [hg] at o2
          have hin : ¬ i < n := by simpa using o2.symm
          exact ⟨false, by simp [stU, stN, k0, hg, hpl, o1 hg], fun _ => by omega⟩
      · by_cases k2 : p.kind = 2
        · have ht : tQ1 p = p := by simp [tQ1, k2]
          have hlist : x.list = [] := by
            have hix := idxI_le (pred := kIs 2) (k := 0) hp (by simp [kIs, k2])
            obtain ⟨y, hy, hyr, hlt⟩ := restB_at (b := b) hl hix.1
            obtain ⟨q, _, hq, hqk, _⟩ := idxI_find hix.1
            have : (idxI (kIs 2) s 0).toNat = i := hs.one hq hp (by simp [kIs] at hqk; omega) (by
              have : q.kind = 2 := by simpa [kIs] using hqk
              simp [singleQ, placedQ, k2])
            rw [this, hx] at hy
            cases hy
            rw [← hyr, hr]
          rw [ht]
          exact ⟨ob, by simp [stU, stN, k2, hlist], fun h0 => by have := h2 h0; omega⟩
        · by_cases k4 : p.kind = 4
          · have ht : tQ1 p = p := by simp [tQ1, k4]
            rw [ht]
            exact ⟨ob, by simp [stU, stN, k4], fun h0 => by have := h2 h0; omega⟩
          · have hk3 : (tQ1 p).kind = 3 ∧ (tQ1 p).name = p.name := by
              unfold tQ1
              split
              · exact ⟨rfl, rfl⟩
              · rename_i hne
                have : p.kind ≠ 1 := by simpa using hne
                exact ⟨by omega, rfl⟩
            have hnp : placedQ (tQ1 p) = false := by simp [placedQ, hk3.1]
            cases hg : x.given with
            | true => exact ⟨ob, by simp [stU, stN, k0, k2, k4, hg, hnp, hk3.1, hk3.2], fun h0 => by have := h2 h0; omega⟩
            | false => exact ⟨ob, by simp [stU, stN, k0, k2, k4, hg, hnp, hk3.1], fun h0 => by have := h2 h0; omega⟩
  obtain ⟨ob, h1, _⟩ := key s.length (Nat.le_refl _)
  have e1 : ((tQ s).zip b).take s.length = (tQ s).zip b := List.take_of_length_le (by simp [tQ, hl])
  have e2 : (s.zip b).take s.length = s.zip b := List.take_of_length_le (by omega)
  rw [e1, e2] at h1
  unfold unbQ namQ
  rw [h1]

theorem snamed_ctF (s : Sig) (f : Flat) (hls : LenS s) (hlf : LenF f) : ACalls pk 47 [.agg (eG s), .agg (eF f)] [] (fun r o => r = .tup [.agg (eF (NamF s f).1), .one (.bool (NamF s f).2)] ∧ o = []) := by
  refine acalls_of_body Tryz.func47 rfl (by kernel_rfl) rfl ?_
  refine rn rfl ?_
  refine goal_step (step_call [] rfl rfl rfl rfl rfl rfl (sBind_ct s f hls hlf)) ?_
  rintro σ2 ⟨r, o', ⟨rfl, rfl⟩, hσ⟩
  obtain rfl := Option.some.inj hσ
  clear hσ
  refine rn rfl ?_
  unfold BindQ
  by_cases hv : ¬ (fitQ s f && accQ s f) = true
  · rw [if_neg hv]
    have hz : NamF s f = (zF, false) := by unfold NamF; rw [if_neg hv]
    rw [hz]
    refine goal_cond rfl (fun _ => ?_) (fun h0 => by cases h0)
    exact rn rfl (fin_is [] rfl ⟨rfl, rfl⟩)
  rw [Classical.not_not] at hv
  rw [if_pos hv]
  have hz : NamF s f = (if 0 < (restB s (boundQ s f).1).length then (unbQ s (boundQ s f).1, true) else checkF (namQ s (boundQ s f).1) true) := by unfold NamF; rw [if_pos hv]
  rw [hz]
  simp only [Bool.and_eq_true] at hv
  obtain ⟨hs, hf⟩ := fitQ_iff.1 hv.1
  have h := bound_okB hs hf
  have hnm := bound_names hs hf
  have honly : ∀ i p x, s[i]? = some p → (boundQ s f).1[i]? = some x → singleQ p = true → (x.given = false → x.list = []) ∧ (p.kind = 0 → x.given = decide (i < f.places.length)) := fun i p x hp hx hsg => by
    rw [bound_at hs hf hp hx]
    exact (give_one hsg).2
  generalize (boundQ s f).1 = b at *
  have hlen := h.len
  have hfew := h.few
  refine goal_cond rfl (fun h0 => by cases h0) (fun _ => ?_)
  refine rn rfl ?_
  refine goal_step (step_call [] rfl rfl rfl rfl rfl rfl (restOf_ct s b hlen (by omega))) ?_
  rintro σ2 ⟨r, o', ⟨rfl, rfl⟩, hσ⟩
  obtain rfl := Option.some.inj hσ
  clear hσ
  refine rn rfl ?_
  refine goal_cond rfl (fun hr => ?_) (fun hr => ?_) <;> (try simp only [gt_iff_lt, ge_iff_le, bne_iff_ne, ne_eq, bne_eq_false_iff_eq, beq_iff_eq, beq_eq_false_iff_ne, Bool.not_eq_true', Bool.not_eq_false', decide_eq_true_eq, decide_eq_false_iff_not, List.length_map] at hr)
  · rw [if_pos (by omega)]
    refine rn rfl ?_
    refine goal_step (step_call [] rfl rfl rfl rfl rfl rfl (sunbound_ct s b h)) ?_
    rintro σ2 ⟨r, o', ⟨rfl, rfl⟩, hσ⟩
    obtain rfl := Option.some.inj hσ
    clear hσ
    refine rn rfl ?_
    exact rn rfl (fin_is [] rfl ⟨rfl, rfl⟩)
  have hr0 : restB s b = [] := List.eq_nil_of_length_eq_zero (by omega)
  rw [if_neg (by omega)]
  rw [← nam_eq h hs hr0 honly]
  have hun := nam_eq h hs hr0 honly
  have hl1 := nam_len b h.size (s.zip b) zF (fun z hz => (List.of_mem_zip hz).2)
  have hnn : ∀ q ∈ (unbQ (tQ s) b).named, q.name.length ≤ 9223372036854775807 := by
    rw [hun]
    intro q hq
    have := nam_names 6 (s.zip b) zF hnm (by simp [zF]) q hq
    omega
  have hzl : (s.zip b).length = s.length := by simp [hlen]
  rw [hzl] at hl1
  have hl2 : (unbQ (tQ s) b).places.length ≤ 8388608 ∧ (unbQ (tQ s) b).named.length ≤ 8388608 := by
    rw [hun]; unfold namQ; simp only [zF, List.length_nil] at hl1 ⊢; omega
  refine rn rfl ?_
  refine goal_step (step_call [] rfl rfl rfl rfl rfl rfl (copyParams_ct s (by omega))) ?_
  rintro σ2 ⟨r, o', ⟨rfl, rfl⟩, hσ⟩
  obtain rfl := Option.some.inj hσ
  clear hσ
  refine rn rfl ?_
  refine goal_loop_keep (fun m σ => ∃ (q : Int) (i L : Nat) (ys : List Param), q = i ∧ L = s.length ∧ i ≤ s.length ∧ m = s.length - i ∧ ys = tQ (s.take i) ++ s.drop i ∧
      σ = ⟨[(9, .one (.int .i64 q)), (8, .one (.op 2 0 0)), (6, .one (.op 0 0 0)), (4, .one (.op 1 0 0))],
        [some ⟨1, [eBi b], false, false, true⟩, some ⟨2, [[.fs [], .fs []]], false, false, true⟩, some ⟨1, [[.os 3 0 L L]], false, false, true⟩, ownQ ys], []⟩) s.length [9, 8, 6, 4] [3, 2, 5, 4] rfl
    ⟨_, 0, _, s, rfl, rfl, by omega, by omega, by simp [tQ], rfl⟩ ?_
  rintro m σ ⟨q, i, L, ys, rfl, rfl, hi, rfl, hys, rfl⟩
  have hyl : ys.length = s.length := by rw [hys]; simp [tQ]; omega
  refine rn rfl ?_
  refine goal_cond rfl (fun hc => ?_) (fun hc => ?_) <;> (try simp only [gt_iff_lt, ge_iff_le, bne_iff_ne, ne_eq, bne_eq_false_iff_eq, beq_iff_eq, beq_eq_false_iff_ne, Bool.not_eq_true', Bool.not_eq_false', decide_eq_true_eq, decide_eq_false_iff_not, List.length_map] at hc)
  · obtain ⟨p, hp⟩ := at_some (xs := s) (i := i) (by omega)
    have hyp : ys[i]? = some p := by
      rw [hys, List.getElem?_append_right (by simp [tQ]; omega)]
      simp [tQ, List.getElem?_drop]
      rw [show i - min i s.length = 0 by omega, Nat.add_zero]; exact hp
    have hset : ∀ y : Param, ys.set i y = tQ (s.take i) ++ y :: s.drop (i + 1) := fun y => by
      rw [hys, drop_at hp, List.set_append]
      have e : (tQ (s.take i)).length = i := by simp [tQ]; omega
      rw [if_neg (by omega), e]; simp
    have hnext : tQ (s.take (i + 1)) ++ s.drop (i + 1) = ys.set i (tQ1 p) := by
      rw [hset, ← take_snoc hp]; simp [tQ]
    refine rn rfl ?_
    refine goal_did rfl rfl (dA_indexOwn rfl rfl rfl rfl rfl rfl rfl rfl rfl (by omega) (by omega)) ?_
    refine goal_did rfl rfl (dA_step rfl) ?_
    refine goal_did rfl rfl (dA_loadEl (eQ p) rfl rfl rfl rfl (map_at (by simpa using hyp)) rfl rfl rfl) ?_
    refine rn rfl ?_
    refine goal_cond rfl (fun h1 => ?_) (fun h1 => ?_) <;> (try simp only [gt_iff_lt, ge_iff_le, bne_iff_ne, ne_eq, bne_eq_false_iff_eq, beq_iff_eq, beq_eq_false_iff_ne, Bool.not_eq_true', Bool.not_eq_false', decide_eq_true_eq, decide_eq_false_iff_not, List.length_map] at h1)
    · have e1 : tQ1 p = ⟨p.name, 3, p.hasD, p.dflt⟩ := by simp [tQ1, h1]
      refine rn rfl ?_
      refine goal_did rfl rfl (dA_indexOwn rfl rfl rfl rfl rfl rfl rfl rfl rfl (by omega) (by omega)) ?_
      refine goal_did rfl rfl (dA_step rfl) ?_
      refine goal_did rfl rfl (dA_storeEl (eQ p) ((ys.set i (tQ1 p)).map eQ) true rfl rfl rfl rfl rfl (map_at (by simpa using hyp)) rfl rfl (by simp [eQ]) (by rw [map_set, e1]; simp [patch, eQ]; rfl) (fun _ => noOwnR_map _ eQ_noOwn _)) ?_
      refine rn rfl ?_
      refine round_keep (s.length - (i + 1)) [9, 8, 6, 4] [0, 1, 2, 3] (by omega) rfl ⟨_, i + 1, _, ys.set i (tQ1 p), wrap64 (by omega) (by omega), rfl, by omega, rfl, hnext.symm, rfl⟩
    · have e1 : tQ1 p = p := by simp [tQ1, h1]
      rw [e1, set_same hyp] at hnext
      refine rn rfl ?_
      refine round_keep (s.length - (i + 1)) [9, 8, 6, 4] [0, 1, 2, 3] (by omega) rfl ⟨_, i + 1, _, ys, wrap64 (by omega) (by omega), rfl, by omega, rfl, hnext.symm, rfl⟩
  · refine rn rfl ?_
    refine round_ext ?_
    have hfin : ys = tQ s := by rw [hys, show i = s.length by omega]; simp
    rw [hfin]
    refine rn rfl ?_
    refine goal_step (step_callE [] rfl rfl rfl rfl rfl rfl (cons_eq (congrArg (fun x => T.agg [C.fs x]) (takeAll eQ (tQ s) s.length (by simp [tQ]))) rfl) (sunbound_ct (tQ s) b (tQ_okB h))) ?_
    rintro σ2 ⟨r, o', ⟨rfl, rfl⟩, hσ⟩
    obtain rfl := Option.some.inj hσ
    clear hσ
    refine rn rfl ?_
    refine goal_step (step_call [] rfl rfl rfl rfl rfl rfl (checkedFlat_ct (unbQ (tQ s) b) (by omega) (by omega) hnn)) ?_
    rintro σ2 ⟨r, o', ⟨rfl, rfl⟩, hσ⟩
    obtain rfl := Option.some.inj hσ
    clear hσ
    refine rn rfl ?_
    exact rn rfl (fin_is [] rfl ⟨rfl, rfl⟩)

def plainQ (p : Param) (x : Slot) : Bool := p.hasD && (hd0 x.list == p.dflt)

def isDefQ (p : Param) (x : Slot) : Bool := singleQ p && x.given && plainQ p x

def keepQ (p : Param) (fx nd : Bool) : Bool := (placedQ p && fx) || (p.kind == 0 && nd)

def clrQ (p : Param) (x : Slot) (fx nd : Bool) : Bool := isDefQ p x && !keepQ p fx nd

def leanS (fx : Bool) (i : Nat) (p : Param) (x : Slot) (st : Bnds × Bool) : Bnds × Bool :=
  (if clrQ p x fx st.2 then st.1.set i zL else st.1, st.2 || (p.kind == 0 && (x.given && !clrQ p x fx st.2)))

def leanI (s : Sig) (b : Bnds) (fx : Bool) : Nat → Bnds × Bool → Bnds × Bool
  | 0, st => st
  | i + 1, st => leanI s b fx i (match s[i]?, b[i]? with
    | some p, some x => leanS fx i p x st
    | _, _ => st)

def leanQ (s : Sig) (b : Bnds) (fx : Bool) : Bnds := (leanI s b fx s.length (b, false)).1

theorem leanI_succ {s : Sig} {b : Bnds} {fx : Bool} {i : Nat} {p : Param} {x : Slot} (hp : s[i]? = some p) (hx : b[i]? = some x) (st : Bnds × Bool) : leanI s b fx (i + 1) st = leanI s b fx i (leanS fx i p x st) := by
  simp only [leanI, hp, hx]

theorem leanS_okB {s : Sig} {fx : Bool} {i : Nat} {p : Param} {x : Slot} {st : Bnds × Bool} (h : OkB s st.1) : OkB s (leanS fx i p x st).1 := by
  unfold leanS
  simp only
  split
  · refine ⟨by simp [h.len], h.few, h.kinds, fun j q y hq hy hsg hg => ?_, fun y hy => ?_⟩
    · rw [List.getElem?_set] at hy
      split at hy
      · split at hy
        · cases hy; cases hg
        · cases hy
      · exact h.one j q y hq hy hsg hg
    · rcases List.mem_or_eq_of_mem_set hy with hy | hy
      · exact h.size y hy
      · rw [hy]; simp [zL]
  · exact h

theorem leanI_okB {s : Sig} {b : Bnds} {fx : Bool} : ∀ (i : Nat) (st : Bnds × Bool), OkB s st.1 → OkB s (leanI s b fx i st).1
  | 0, st, h => h
  | i + 1, st, h => by
    unfold leanI
    refine leanI_okB i _ ?_
    split
    · exact leanS_okB h
    · exact h

theorem leanI_pairs {s : Sig} {b : Bnds} {fx : Bool} (P : Pair → Prop) : ∀ (i : Nat) (st : Bnds × Bool), (∀ x ∈ st.1, ∀ q ∈ x.pairs, P q) → ∀ x ∈ (leanI s b fx i st).1, ∀ q ∈ x.pairs, P q
  | 0, st, h => h
  | i + 1, st, h => by
    unfold leanI
    refine leanI_pairs P i _ ?_
    split
    · unfold leanS
      simp only
      split
      · intro y hy
        rcases List.mem_or_eq_of_mem_set hy with hy | hy
        · exact h y hy
        · rw [hy]; simp [zL]
      · exact h
    · exact h

theorem isDefault_ct (p : Param) (x : Slot) (ho : singleQ p = true → x.given = true → ∃ v, x.list = [v]) : ACalls pk 79 [.agg (eQ p), .agg (eL x)] [] (fun r o => r = .one (.bool (isDefQ p x)) ∧ o = []) := by
  refine acalls_of_body Tryz.func79 rfl (by kernel_rfl) rfl ?_
  refine rn rfl ?_
  refine goal_draw' [0, 1] 20 rfl ?_
  refine drn [0] (by kernel_rfl) (by kernel_rfl) rfl rfl ?_
  refine AH_one (i := 1) (by kernel_rfl) (step_call [] rfl rfl rfl rfl rfl rfl (ssingle_ct p)) (by simp) ?_
  rintro σ2 ⟨r, o', ⟨rfl, rfl⟩, hσ⟩
  obtain rfl := Option.some.inj hσ
  clear hσ
  refine drn [2] (by kernel_rfl) (by kernel_rfl) rfl rfl ?_
  refine AH_guard (i := 3) rfl rfl rfl (fun h1 => ?_) (fun h1 => ?_) <;> (try simp only [gt_iff_lt, ge_iff_le, bne_iff_ne, ne_eq, bne_eq_false_iff_eq, beq_iff_eq, beq_eq_false_iff_ne, Bool.not_eq_true', Bool.not_eq_false', decide_eq_true_eq, decide_eq_false_iff_not, List.length_map] at h1)
  · refine drn [3, 4, 5, 6] (by kernel_rfl) (by kernel_rfl) rfl rfl ?_
    refine AH_guard (i := 7) rfl rfl rfl (fun h2 => ?_) (fun h2 => ?_) <;> (try simp only [gt_iff_lt, ge_iff_le, bne_iff_ne, ne_eq, bne_eq_false_iff_eq, beq_iff_eq, beq_eq_false_iff_ne, Bool.not_eq_true', Bool.not_eq_false', decide_eq_true_eq, decide_eq_false_iff_not, List.length_map] at h2)
    · refine drn [7, 8, 9, 10] (by kernel_rfl) (by kernel_rfl) rfl rfl ?_
      refine AH_guard (i := 11) rfl rfl rfl (fun h3 => ?_) (fun h3 => ?_) <;> (try simp only [gt_iff_lt, ge_iff_le, bne_iff_ne, ne_eq, bne_eq_false_iff_eq, beq_iff_eq, beq_eq_false_iff_ne, Bool.not_eq_true', Bool.not_eq_false', decide_eq_true_eq, decide_eq_false_iff_not, List.length_map] at h3)
      · obtain ⟨v, hv⟩ := ho h1 h2
        refine drn [11, 12, 15, 16] (by kernel_rfl) (by kernel_rfl) rfl rfl ?_
        refine AH_did 13 rfl (by kernel_rfl) (by kernel_rfl) (by kernel_rfl) rfl rfl (dA_index (eI v) rfl rfl rfl rfl rfl rfl rfl (by omega) (by simp [hv]) (by simp [hv]) rfl) ?_
        refine drn [14, 17, 18, 19] (by kernel_rfl) (by kernel_rfl) rfl rfl ?_
        refine AH_end (by kernel_rfl) ?_
        refine rn rfl ?_
        refine rn rfl (fin_is [] rfl ⟨?_, rfl⟩)
        simp [isDefQ, plainQ, h1, h2, h3, hv, hd0]
      · refine drn [11, 12, 13, 14, 15, 16, 17, 18, 19] (by kernel_rfl) (by kernel_rfl) rfl rfl ?_
        refine AH_end (by kernel_rfl) ?_
        refine rn rfl ?_
        refine rn rfl (fin_is [] rfl ⟨?_, rfl⟩)
        simp [isDefQ, plainQ, h1, h2, h3]
    · refine drn [7, 8, 9, 10, 11, 12, 13, 14, 15, 16, 17, 18, 19] (by kernel_rfl) (by kernel_rfl) rfl rfl ?_
      refine AH_end (by kernel_rfl) ?_
      refine rn rfl ?_
      refine rn rfl (fin_is [] rfl ⟨?_, rfl⟩)
      simp [isDefQ, h1, h2]
  · refine drn [3, 4, 5, 6, 7, 8, 9, 10, 11, 12, 13, 14, 15, 16, 17, 18, 19] (by kernel_rfl) (by kernel_rfl) rfl rfl ?_
    refine AH_end (by kernel_rfl) ?_
    refine rn rfl ?_
    refine rn rfl (fin_is [] rfl ⟨?_, rfl⟩)
    simp [isDefQ, h1]

theorem leanWalk_ct (s : Sig) (b : Bnds) (h : OkB s b) : ACalls pk 36 [.agg (eG s), .agg (eBi b)] [] (fun r o => r = .agg (eBi (leanQ s b (decide (0 < (restB s b).length)))) ∧ o = []) := by
  have hlen := h.len
  have hfew := h.few
  refine acalls_of_body Tryz.func36 rfl (by kernel_rfl) rfl ?_
  refine rn rfl ?_
  refine goal_did rfl rfl (dA_append (old := []) (rows := (b : List Slot).map eL) ((b : List Slot).map eL) (b.length) true (Dst.own rfl rfl rfl rfl rfl (Nat.le_refl 0) rfl) (Src.fs rfl) rfl rfl rfl rfl rfl rfl rfl rfl (by simp) (rows_len eL_len _) (by (try simp only [List.length_map, List.length_append, List.length_cons, List.length_nil, List.length_take, List.length_drop]); show _ * 56 ≤ _; omega) (by first | (simp; done) | (simp; omega)) (by simp) (by first | (simp; done) | (simp; omega)) (fun _ => noOwnR_map _ eL_noOwn _)) ?_
  refine rn rfl ?_
  refine goal_step (step_call [] rfl rfl rfl rfl rfl rfl (restOf_ct s b hlen (by omega))) ?_
  rintro σ2 ⟨r, o', ⟨rfl, rfl⟩, hσ⟩
  obtain rfl := Option.some.inj hσ
  clear hσ
  refine rn rfl ?_
  refine goal_loop_keep (fun m σ => ∃ (q : Int) (i L : Nat) (out : Bnds) (nd fx : Bool), q = (i : Int) - 1 ∧ L = s.length ∧ i ≤ s.length ∧ m = i ∧ out.length = s.length ∧ fx = decide (0 < (restB s b).length) ∧ leanQ s b fx = (leanI s b fx i (out, nd)).1 ∧ (∀ j, j < i → out[j]? = b[j]?) ∧
      σ = ⟨[(8, .one (.int .i64 q)), (7, .one (.bool nd)), (6, .one (.bool fx)), (5, .one (.op 3 0 0)), (4, .one (.op 2 0 0)), (3, .one (.op 1 0 0)), (2, .one (.op 0 0 0))],
        [some ⟨1, [eG s], false, false, true⟩, some ⟨1, [eBi b], false, false, true⟩, some ⟨1, [[.fs []]], false, false, true⟩, some ⟨1, [[.os 4 0 L L]], false, false, true⟩, ownL out], []⟩) s.length [8, 7, 6, 5, 4, 3, 2] [0, 1, 2, 5, 4] rfl
    ⟨_, s.length, _, b, _, _, ?_, hlen, by omega, rfl, hlen, ?_, rfl, fun _ _ => rfl, rfl⟩ ?_
  · simp only [List.length_map]; rw [wrap64 (by omega) (by omega)]
  · simp
  rintro m σ ⟨q, i, L, out, nd, fx, hq, rfl, hi, rfl, hol, hfx, hlq, hag, rfl⟩
  rw [← hfx]
  refine rn rfl ?_
  refine goal_cond rfl (fun hc => ?_) (fun hc => ?_) <;> (try simp only [gt_iff_lt, ge_iff_le, bne_iff_ne, ne_eq, bne_eq_false_iff_eq, beq_iff_eq, beq_eq_false_iff_ne, Bool.not_eq_true', Bool.not_eq_false', decide_eq_true_eq, decide_eq_false_iff_not, List.length_map] at hc)
  · obtain ⟨k, rfl⟩ : ∃ k, m = k + 1 := ⟨m - 1, by omega⟩
    obtain rfl : q = (k : Int) := by omega
    obtain ⟨p, hp⟩ := at_some (xs := s) (i := k) (by omega)
    obtain ⟨x, hx⟩ := at_some (xs := b) (i := k) (by omega)
    have hxo : out[k]? = some x := by rw [hag k (by omega)]; exact hx
    rw [leanI_succ hp hx] at hlq
    refine rn rfl ?_
    refine goal_did rfl rfl (dA_index (eQ p) rfl rfl rfl rfl rfl rfl rfl (by omega) (by (try simp); omega) (map_at (by simpa using hp)) rfl) ?_
    refine rt1 8 rfl ?_
    refine goal_cutR (fun σ' => σ' = ⟨[(10, .one (.bool (keepQ p fx nd))), (9, .one (.op 5 0 0)), (8, .one (.int .i64 k)), (7, .one (.bool nd)), (6, .one (.bool fx)), (5, .one (.op 3 0 0)), (4, .one (.op 2 0 0)), (3, .one (.op 1 0 0)), (2, .one (.op 0 0 0))], [some ⟨1, [eG s], false, false, true⟩, some ⟨1, [eBi b], false, false, true⟩, some ⟨1, [[.fs []]], false, false, true⟩, some ⟨1, [[.os 4 0 s.length s.length]], false, false, true⟩, ownL out, some ⟨4, [eQ p], false, false, true⟩], []⟩) ?_ ?_
    · refine rn rfl ?_
      refine goal_step (step_call [] rfl rfl rfl rfl rfl rfl (splaced_ct p)) ?_
      rintro σ2 ⟨r, o', ⟨rfl, rfl⟩, hσ⟩
      obtain rfl := Option.some.inj hσ
      clear hσ
      refine rn rfl ?_
      refine goal_guard rfl rfl rfl (fun h1 => ?_) (fun h1 => ?_) <;> (try simp only [gt_iff_lt, ge_iff_le, bne_iff_ne, ne_eq, bne_eq_false_iff_eq, beq_iff_eq, beq_eq_false_iff_ne, Bool.not_eq_true', Bool.not_eq_false', decide_eq_true_eq, decide_eq_false_iff_not, List.length_map] at h1)
      · refine rn rfl ?_
        refine goal_guard rfl rfl rfl (fun hf => ?_) (fun hf => ?_) <;> (try simp only [gt_iff_lt, ge_iff_le, bne_iff_ne, ne_eq, bne_eq_false_iff_eq, beq_iff_eq, beq_eq_false_iff_ne, Bool.not_eq_true', Bool.not_eq_false', decide_eq_true_eq, decide_eq_false_iff_not, List.length_map] at hf)
        · have hk : keepQ p fx nd = true := by simp [keepQ, h1, hf]
          rw [hk]
          refine rn rfl ?_
          exact cut_nrm [10, 9, 8, 7, 6, 5, 4, 3, 2] [0, 1, 2, 3, 4, 5] rfl rfl
        · refine rn rfl ?_
          refine goal_guard rfl rfl rfl (fun h2 => ?_) (fun h2 => ?_) <;> (try simp only [gt_iff_lt, ge_iff_le, bne_iff_ne, ne_eq, bne_eq_false_iff_eq, beq_iff_eq, beq_eq_false_iff_ne, Bool.not_eq_true', Bool.not_eq_false', decide_eq_true_eq, decide_eq_false_iff_not, List.length_map] at h2)
          · have hk : keepQ p fx nd = nd := by simp [keepQ, h1, hf, h2]
            rw [hk]
            refine rn rfl ?_
            exact cut_nrm [10, 9, 8, 7, 6, 5, 4, 3, 2] [0, 1, 2, 3, 4, 5] rfl rfl
          · have hk : keepQ p fx nd = false := by simp [keepQ, h1, hf, h2]
            rw [hk]
            refine rn rfl ?_
            exact cut_nrm [10, 9, 8, 7, 6, 5, 4, 3, 2] [0, 1, 2, 3, 4, 5] rfl rfl
      · have hk0 : (p.kind == 0) = false := by
          cases h0 : p.kind == 0 with
          | false => rfl
          | true => rw [placed_kind.2 (.inl (by simpa using h0))] at h1; cases h1
        have hk : keepQ p fx nd = false := by simp [keepQ, h1, hk0]
        rw [hk]
        refine rn rfl ?_
        refine goal_guard rfl rfl rfl (fun h0 => by rw [hk0] at h0; cases h0) (fun _ => ?_)
        refine rn rfl ?_
        exact cut_nrm [10, 9, 8, 7, 6, 5, 4, 3, 2] [0, 1, 2, 3, 4, 5] rfl rfl
    rintro _ rfl
    have hone := h.one k p x hp hx
    refine rt 9 rfl ?_
    refine goal_cutR (fun σ' => σ' = ⟨[(9, .one (.op 5 0 0)), (8, .one (.int .i64 k)), (7, .one (.bool nd)), (6, .one (.bool fx)), (5, .one (.op 3 0 0)), (4, .one (.op 2 0 0)), (3, .one (.op 1 0 0)), (2, .one (.op 0 0 0))], [some ⟨1, [eG s], false, false, true⟩, some ⟨1, [eBi b], false, false, true⟩, some ⟨1, [[.fs []]], false, false, true⟩, some ⟨1, [[.os 4 0 s.length s.length]], false, false, true⟩, ownL (leanS fx k p x (out, nd)).1, some ⟨4, [eQ p], false, false, true⟩], []⟩) ?_ ?_
    · refine rn rfl ?_
      refine goal_draw' [1, 5] 11 rfl ?_
      refine drn [0, 1, 2, 3] (by kernel_rfl) (by kernel_rfl) rfl rfl ?_
      refine AH_did 4 rfl (by kernel_rfl) (by kernel_rfl) (by kernel_rfl) rfl rfl (dA_index (eL x) rfl rfl rfl rfl rfl rfl rfl (by omega) (by (try simp); omega) (map_at (by simpa using hx)) rfl) ?_
      refine drn [5] (by kernel_rfl) (by kernel_rfl) rfl rfl ?_
      refine AH_one (i := 6) (by kernel_rfl) (step_call [] rfl rfl rfl rfl rfl rfl (isDefault_ct p x hone)) (by simp) ?_
      rintro σ2 ⟨r, o', ⟨rfl, rfl⟩, hσ⟩
      obtain rfl := Option.some.inj hσ
      clear hσ
      refine drn [7] (by kernel_rfl) (by kernel_rfl) rfl rfl ?_
      refine AH_guard (i := 8) rfl rfl rfl (fun h3 => ?_) (fun h3 => ?_) <;> (try simp only [gt_iff_lt, ge_iff_le, bne_iff_ne, ne_eq, bne_eq_false_iff_eq, beq_iff_eq, beq_eq_false_iff_ne, Bool.not_eq_true', Bool.not_eq_false', decide_eq_true_eq, decide_eq_false_iff_not, List.length_map] at h3)
      · refine drn [8, 9, 10] (by kernel_rfl) (by kernel_rfl) rfl rfl ?_
        refine AH_end (by kernel_rfl) ?_
        refine rn rfl ?_
        refine goal_cond rfl (fun h4 => ?_) (fun h4 => ?_) <;> (try simp only [gt_iff_lt, ge_iff_le, bne_iff_ne, ne_eq, bne_eq_false_iff_eq, beq_iff_eq, beq_eq_false_iff_ne, Bool.not_eq_true', Bool.not_eq_false', decide_eq_true_eq, decide_eq_false_iff_not, List.length_map] at h4)
        · have e : (leanS fx k p x (out, nd)).1 = out.set k zL := by simp [leanS, clrQ, h3, h4]
          rw [e]
          refine rn rfl ?_
          refine goal_data 61 [] (y := .agg (eL zL)) rfl rfl rfl ?_
          refine goal_did rfl rfl (dA_indexOwn rfl rfl rfl rfl rfl rfl rfl rfl rfl (by omega) (by omega)) ?_
          refine goal_did rfl rfl (dA_storeEl (eL x) ((out.set k zL).map eL) true rfl rfl rfl rfl rfl (map_at (by simpa using hxo)) rfl rfl (by simp [eL, zL]) (by rw [map_set]; simp [patch, eL, zL]) (fun _ => noOwnR_map _ eL_noOwn _)) ?_
          refine rn rfl ?_
          exact cut_nrm [9, 8, 7, 6, 5, 4, 3, 2] [0, 1, 2, 3, 4, 5] rfl rfl
        · have e : (leanS fx k p x (out, nd)).1 = out := by simp [leanS, clrQ, h3, h4]
          rw [e]
          refine rn rfl ?_
          exact cut_nrm [9, 8, 7, 6, 5, 4, 3, 2] [0, 1, 2, 3, 4, 5] rfl rfl
      · have e : (leanS fx k p x (out, nd)).1 = out := by simp [leanS, clrQ, h3]
        rw [e]
        refine drn [8, 9, 10] (by kernel_rfl) (by kernel_rfl) rfl rfl ?_
        refine AH_end (by kernel_rfl) ?_
        refine rn rfl ?_
        refine rn rfl ?_
        exact cut_nrm [9, 8, 7, 6, 5, 4, 3, 2] [0, 1, 2, 3, 4, 5] rfl rfl
    rintro _ rfl
    have hol' : (leanS fx k p x (out, nd)).1.length = s.length := by unfold leanS; simp only; split <;> simp [hol]
    have hy : (leanS fx k p x (out, nd)).1[k]? = some (if clrQ p x fx nd then zL else x) := by
      unfold leanS
      simp only
      split
      · rw [List.getElem?_set, if_pos rfl, if_pos (by omega)]
      · exact hxo
    have hag' : ∀ j, j < k → (leanS fx k p x (out, nd)).1[j]? = b[j]? := fun j hj => by
      rw [← hag j (by omega)]
      unfold leanS
      simp only
      split
      · rw [List.getElem?_set, if_neg (by omega)]
      · rfl
    have hnd : (leanS fx k p x (out, nd)).2 = (nd || (p.kind == 0 && (if clrQ p x fx nd then zL else x).given)) := by
      unfold leanS
      simp only
      cases clrQ p x fx nd <;> simp [zL]
    generalize hO : leanS fx k p x (out, nd) = st at hol' hy hag' hnd hlq ⊢
    obtain ⟨O, N⟩ := st
    simp only at hol' hy hag' hnd hlq ⊢
    generalize (if clrQ p x fx nd then zL else x) = y at hy hnd
    refine rt1 11 rfl ?_
    refine goal_cutR (fun σ' => σ' = ⟨[(9, .one (.op 5 0 0)), (8, .one (.int .i64 k)), (7, .one (.bool N)), (6, .one (.bool fx)), (5, .one (.op 3 0 0)), (4, .one (.op 2 0 0)), (3, .one (.op 1 0 0)), (2, .one (.op 0 0 0))], [some ⟨1, [eG s], false, false, true⟩, some ⟨1, [eBi b], false, false, true⟩, some ⟨1, [[.fs []]], false, false, true⟩, some ⟨1, [[.os 4 0 s.length s.length]], false, false, true⟩, ownL O, some ⟨4, [eQ p], false, false, true⟩], []⟩) ?_ ?_
    · refine rn rfl ?_
      refine goal_guard rfl rfl rfl (fun h5 => ?_) (fun h5 => ?_) <;> (try simp only [gt_iff_lt, ge_iff_le, bne_iff_ne, ne_eq, bne_eq_false_iff_eq, beq_iff_eq, beq_eq_false_iff_ne, Bool.not_eq_true', Bool.not_eq_false', decide_eq_true_eq, decide_eq_false_iff_not, List.length_map] at h5)
      · have e : N = true := by rw [hnd, h5]; rfl
        rw [e]
        refine rn rfl ?_
        exact cut_nrm [9, 8, 7, 6, 5, 4, 3, 2] [0, 1, 2, 3, 4, 5] rfl rfl
      · refine rn rfl ?_
        refine goal_guard rfl rfl rfl (fun h6 => ?_) (fun h6 => ?_) <;> (try simp only [gt_iff_lt, ge_iff_le, bne_iff_ne, ne_eq, bne_eq_false_iff_eq, beq_iff_eq, beq_eq_false_iff_ne, Bool.not_eq_true', Bool.not_eq_false', decide_eq_true_eq, decide_eq_false_iff_not, List.length_map] at h6)
        · have e : N = y.given := by rw [hnd, h5]; simp [h6]
          rw [e]
          refine rn rfl ?_
          refine goal_did rfl rfl (dA_indexOwn rfl rfl rfl rfl rfl rfl rfl rfl rfl (by omega) (by omega)) ?_
          refine goal_did rfl rfl (dA_step rfl) ?_
          refine goal_did rfl rfl (dA_loadEl (eL y) rfl rfl rfl rfl (map_at (by simpa using hy)) rfl rfl rfl) ?_
          refine rn rfl ?_
          exact cut_nrm [9, 8, 7, 6, 5, 4, 3, 2] [0, 1, 2, 3, 4, 5] rfl rfl
        · have e : N = false := by rw [hnd, h5]; simp [h6]
          rw [e]
          refine rn rfl ?_
          exact cut_nrm [9, 8, 7, 6, 5, 4, 3, 2] [0, 1, 2, 3, 4, 5] rfl rfl
    rintro _ rfl
    refine rn rfl ?_
    refine round_keep k [8, 7, 6, 5, 4, 3, 2] [0, 1, 2, 3, 4] (by omega) rfl ⟨_, k, _, O, N, fx, wrap64 (by omega) (by omega), rfl, by omega, rfl, hol', rfl, hlq, hag', rfl⟩
  · obtain rfl : m = 0 := by omega
    refine rn rfl (round_ext ?_)
    have hfin : leanQ s b fx = out := hlq
    rw [hfin]
    refine rn rfl (fin_is [] rfl ⟨?_, rfl⟩)
    exact congrArg (fun x => T.agg [C.fs x]) (takeAll eL _ _ hol)

def LeanF (s : Sig) (f : Flat) : Flat × Bool := if fitQ s f && accQ s f then checkF (unbQ s (leanQ s (boundQ s f).1 (decide (0 < (restB s (boundQ s f).1).length)))) true else (zF, false)

theorem asL (b : Bnds) (n : Nat) (h : b.length = n) : T.agg [C.fs (List.take n (List.drop 0 (b.map eL)))] = T.agg (eBi b) := by rw [takeAll eL _ _ h]; rfl

theorem unb_namesM (M : Nat) : ∀ (zs : List (Param × Slot)) (st : Flat × Bool), (∀ z ∈ zs, z.1.name.length ≤ M ∧ ∀ q ∈ z.2.pairs, q.name.length ≤ M) → (∀ q ∈ st.1.named, q.name.length ≤ M) → ∀ q ∈ (zs.foldl stU st).1.named, q.name.length ≤ M
  | [], st, _, h => h
  | z :: zs, st, hz, h => by
    rw [List.foldl_cons]
    refine unb_namesM M zs _ (fun y hy => hz y (by simp [hy])) ?_
    obtain ⟨h1, h2⟩ := hz z (by simp)
    intro q hq
    unfold stU at hq
    split at hq
    · exact h q hq
    · split at hq
      · rcases List.mem_append.1 hq with hq | hq
        · exact h q hq
        · exact h2 q hq
      · split at hq
        · exact h q hq
        · split at hq
          · exact h q hq
          · rcases List.mem_append.1 hq with hq | hq
            · exact h q hq
            · simp only [List.mem_singleton] at hq; rw [hq]; exact h1

theorem lean_unb {s : Sig} {b : Bnds} (hs : OkS s) (h : OkB s b) (hp : ∀ x ∈ b, ∀ q ∈ x.pairs, q.name.length ≤ 6) (fx : Bool) : OkB s (leanQ s b fx) ∧ (unbQ s (leanQ s b fx)).places.length ≤ 8388608 ∧ (unbQ s (leanQ s b fx)).named.length ≤ 8388608 ∧ ∀ q ∈ (unbQ s (leanQ s b fx)).named, q.name.length ≤ 9223372036854775807 := by
  have h1 : OkB s (leanQ s b fx) := leanI_okB _ _ h
  have h2 : ∀ x ∈ leanQ s b fx, ∀ q ∈ x.pairs, q.name.length ≤ 6 := leanI_pairs (fun q => q.name.length ≤ 6) _ _ hp
  have hl := unb_len (leanQ s b fx) h1.size (s.zip (leanQ s b fx)) (zF, true) (fun z hz => (List.of_mem_zip hz).2)
  have hzl : (s.zip (leanQ s b fx)).length = s.length := by simp [h1.len]
  have hf := h1.few
  have hn := unb_namesM 6 (s.zip (leanQ s b fx)) (zF, true) (fun z hz => ⟨(hs.nameLen (List.of_mem_zip hz).1).1, h2 _ (List.of_mem_zip hz).2⟩) (by simp [zF])
  unfold unbQ
  simp only [zF, List.length_nil, hzl] at hl hn ⊢
  exact ⟨h1, by omega, by omega, fun q hq => by have := hn q hq; omega⟩

theorem bound_pairs {s : Sig} {f : Flat} (hs : OkS s) (hf : OkF f) : ∀ x ∈ (boundQ s f).1, ∀ q ∈ x.pairs, q.name.length ≤ 6 := by
  intro x hx
  obtain ⟨i, hi⟩ := List.getElem?_of_mem hx
  obtain ⟨p, hp⟩ := at_some (xs := s) (i := i) (by have := lt_of_some hi; rw [boundQ_len] at this; exact this)
  have hz : (p, x) ∈ s.zip (boundQ s f).1 := List.mem_of_getElem? (by rw [List.getElem?_zip_eq_some]; exact ⟨hp, hi⟩)
  exact (bound_names hs hf _ hz).2

theorem slean_ctF (s : Sig) (f : Flat) (hls : LenS s) (hlf : LenF f) : ACalls pk 9 [.agg (eG s), .agg (eF f)] [] (fun r o => r = .tup [.agg (eF (LeanF s f).1), .one (.bool (LeanF s f).2)] ∧ o = []) := by
  refine acalls_of_body Tryz.func9 rfl (by kernel_rfl) rfl ?_
  refine rn rfl ?_
  refine goal_step (step_call [] rfl rfl rfl rfl rfl rfl (sBind_ct s f hls hlf)) ?_
  rintro σ2 ⟨r, o', ⟨rfl, rfl⟩, hσ⟩
  obtain rfl := Option.some.inj hσ
  clear hσ
  refine rn rfl ?_
  unfold BindQ
  by_cases hv : ¬ (fitQ s f && accQ s f) = true
  · rw [if_neg hv]
    have hz : LeanF s f = (zF, false) := by unfold LeanF; rw [if_neg hv]
    rw [hz]
    refine goal_cond rfl (fun _ => ?_) (fun h0 => by cases h0)
    exact rn rfl (fin_is [] rfl ⟨rfl, rfl⟩)
  rw [Classical.not_not] at hv
  rw [if_pos hv]
  have hz : LeanF s f = checkF (unbQ s (leanQ s (boundQ s f).1 (decide (0 < (restB s (boundQ s f).1).length)))) true := by unfold LeanF; rw [if_pos hv]
  rw [hz]
  simp only [Bool.and_eq_true] at hv
  obtain ⟨hs, hf⟩ := fitQ_iff.1 hv.1
  have h := bound_okB hs hf
  have hpn := bound_pairs hs hf
  generalize (boundQ s f).1 = b at *
  obtain ⟨l1, l2, l3, l4⟩ := lean_unb hs h hpn (decide (0 < (restB s b).length))
  refine goal_cond rfl (fun h0 => by cases h0) (fun _ => ?_)
  refine rn rfl ?_
  refine goal_draw' [0, 3] 10 rfl ?_
  refine drn [0, 1, 2] (by kernel_rfl) (by kernel_rfl) rfl rfl ?_
  refine AH_one (i := 3) (by kernel_rfl) (step_call [] rfl rfl rfl rfl rfl rfl (leanWalk_ct s b h)) (by simp) ?_
  rintro σ2 ⟨r, o', ⟨rfl, rfl⟩, hσ⟩
  obtain rfl := Option.some.inj hσ
  clear hσ
  refine AH_one (i := 4) (by kernel_rfl) (step_call [] rfl rfl rfl rfl rfl rfl (sunbound_ct s _ l1)) (by simp) ?_
  rintro σ2 ⟨r, o', ⟨rfl, rfl⟩, hσ⟩
  obtain rfl := Option.some.inj hσ
  clear hσ
  refine AH_one (i := 5) (by kernel_rfl) (step_call [] rfl rfl rfl rfl rfl rfl (checkedFlat_ct _ (by omega) (by omega) l4)) (by simp) ?_
  rintro σ2 ⟨r, o', ⟨rfl, rfl⟩, hσ⟩
  obtain rfl := Option.some.inj hσ
  clear hσ
  refine drn [6, 7] (by kernel_rfl) (by kernel_rfl) rfl rfl ?_
  refine AH_oneDid 8 rfl (by kernel_rfl) rfl (dA_step rfl) (mdOk rfl) ?_
  refine drn [9] (by kernel_rfl) (by kernel_rfl) rfl rfl ?_
  refine AH_end (by kernel_rfl) ?_
  refine rn rfl ?_
  exact rn rfl (fin_is [] rfl ⟨rfl, rfl⟩)

theorem ilean_ctF (s : Sig) (f : Flat) (hls : LenS s) (hlf : LenF f) : ACalls pk 8 [.agg (eG s), .agg (eF f)] [] (fun r o => r = .tup [rF (LeanF s f).1, .one (.bool (LeanF s f).2)] ∧ o = oF (LeanF s f).1) := by
  refine acalls_of_body Tryz.func8 rfl (by kernel_rfl) rfl ?_
  refine rn rfl ?_
  refine goal_step (step_call [] rfl rfl rfl rfl rfl rfl (iBind_ct s f hls hlf)) ?_
  rintro σ2 ⟨r, o', ⟨rfl, rfl⟩, hσ⟩
  obtain rfl := Option.some.inj hσ
  clear hσ
  refine rn rfl ?_
  unfold BindQ
  by_cases hv : ¬ (fitQ s f && accQ s f) = true
  · rw [if_neg hv]
    have hz : LeanF s f = (zF, false) := by unfold LeanF; rw [if_neg hv]
    rw [hz]
    refine goal_cond rfl (fun _ => ?_) (fun h0 => by cases h0)
    refine rn rfl ?_
    exact fin_weak (Weak.adoptO 2 0 1) (fin_weak (Weak.adoptO 2 1 2) (fin_is [5, 6] rfl ⟨rfl, rfl⟩))
  rw [Classical.not_not] at hv
  rw [if_pos hv]
  have hz : LeanF s f = checkF (unbQ s (leanQ s (boundQ s f).1 (decide (0 < (restB s (boundQ s f).1).length)))) true := by unfold LeanF; rw [if_pos hv]
  rw [hz]
  simp only [Bool.and_eq_true] at hv
  obtain ⟨hs, hf⟩ := fitQ_iff.1 hv.1
  have h := bound_okB hs hf
  have hpn := bound_pairs hs hf
  generalize (boundQ s f).1 = b at *
  have hlen := h.len
  have hfew := h.few
  obtain ⟨l1, l2, l3, l4⟩ := lean_unb hs h hpn (decide (0 < (restB s b).length))
  refine goal_cond rfl (fun h0 => by cases h0) (fun _ => ?_)
  refine rn rfl ?_
  refine goal_step (step_lendE [] rfl rfl rfl rfl rfl rfl rfl (cons_eq rfl (cons_eq (asL b _ rfl) rfl)) (rest_ct s b hlen (by omega)) (by rintro r o ⟨rfl, rfl⟩; exact ⟨rfl, rfl⟩)) ?_
  rintro σ2 ⟨r, o', ⟨rfl, rfl⟩, hσ⟩
  obtain rfl := Option.some.inj hσ
  clear hσ
  refine rn rfl ?_
  refine rn rfl ?_
  refine goal_loop_keep (fun m σ => ∃ (q : Int) (i L : Nat) (out : Bnds) (nd nn fx : Bool), q = (i : Int) - 1 ∧ L = s.length ∧ i ≤ s.length ∧ m = i ∧ out.length = s.length ∧ nn = !fx ∧ fx = decide (0 < (restB s b).length) ∧ leanQ s b fx = (leanI s b fx i (out, nd)).1 ∧ (∀ j, j < i → out[j]? = b[j]?) ∧
      σ = ⟨[(10, .one (.int .i64 q)), (9, .one (.bool nd)), (8, .one (.bool nn)), (6, .one (.op 2 0 0)), (4, .one (.op 1 0 0)), (2, .one (.op 0 0 0))],
        [some ⟨1, [eG s], false, false, true⟩, some ⟨2, [[.fs [], .fs []]], false, false, true⟩, some ⟨1, [[.os 3 0 L L]], false, false, true⟩, ownL out], []⟩) s.length [10, 9, 8, 6, 4, 2] [0, 2, 4, 3] rfl
    ⟨_, s.length, _, b, _, _, _, ?_, hlen, by omega, rfl, hlen, ?_, rfl, rfl, fun _ _ => rfl, rfl⟩ ?_
  · simp only [List.length_map]; rw [wrap64 (by omega) (by omega)]
  · cases restB s b with
    | nil => rfl
    | cons a l => simp; omega
  rintro m σ ⟨q, i, L, out, nd, nn, fx, hq, rfl, hi, rfl, hol, hnn, hfx, hlq, hag, rfl⟩
  rw [← hfx] at l1 l2 l3 l4 ⊢
  refine rn rfl ?_
  refine goal_cond rfl (fun hc => ?_) (fun hc => ?_) <;> (try simp only [gt_iff_lt, ge_iff_le, bne_iff_ne, ne_eq, bne_eq_false_iff_eq, beq_iff_eq, beq_eq_false_iff_ne, Bool.not_eq_true', Bool.not_eq_false', decide_eq_true_eq, decide_eq_false_iff_not, List.length_map] at hc)
  · obtain ⟨k, rfl⟩ : ∃ k, m = k + 1 := ⟨m - 1, by omega⟩
    obtain rfl : q = (k : Int) := by omega
    obtain ⟨p, hp⟩ := at_some (xs := s) (i := k) (by omega)
    obtain ⟨x, hx⟩ := at_some (xs := b) (i := k) (by omega)
    have hxo : out[k]? = some x := by rw [hag k (by omega)]; exact hx
    rw [leanI_succ hp hx] at hlq
    have hone := h.one k p x hp hx
    refine rn rfl ?_
    refine goal_cutR (fun σ' => σ' = ⟨[(12, .one (.op 3 (0 + (k : Int).toNat) 0)), (11, .one (.op 4 0 0)), (10, .one (.int .i64 k)), (9, .one (.bool nd)), (8, .one (.bool nn)), (6, .one (.op 2 0 0)), (4, .one (.op 1 0 0)), (2, .one (.op 0 0 0))], [some ⟨1, [eG s], false, false, true⟩, some ⟨2, [[.fs [], .fs []]], false, false, true⟩, some ⟨1, [[.os 3 0 s.length s.length]], false, false, true⟩, ownL out, some ⟨4, [eQ p], false, false, true⟩], []⟩) ?_ ?_
    · refine goal_draw' [0, 2] 12 rfl ?_
      refine drn [0, 1, 2, 5, 6, 7] (by kernel_rfl) (by kernel_rfl) rfl rfl ?_
      refine AH_did 3 rfl (by kernel_rfl) (by kernel_rfl) (by kernel_rfl) rfl rfl (dA_index (eQ p) rfl rfl rfl rfl rfl rfl rfl (by omega) (by (try simp); omega) (map_at (by simpa using hp)) rfl) ?_
      refine drn [4] (by kernel_rfl) (by kernel_rfl) rfl rfl ?_
      refine AH_did 8 rfl (by kernel_rfl) (by kernel_rfl) (by kernel_rfl) rfl rfl (dA_indexOwn rfl rfl rfl rfl rfl rfl rfl rfl rfl (by omega) (by (try simp); omega)) ?_
      refine AH_oneDid 9 rfl (by kernel_rfl) rfl (dA_step rfl) (mdOk rfl) ?_
      refine AH_oneDid 10 rfl (by kernel_rfl) rfl (dA_step rfl) (mdOk rfl) ?_
      refine drn [11] (by kernel_rfl) (by kernel_rfl) rfl rfl ?_
      refine AH_end (by kernel_rfl) ?_
      refine rn rfl ?_
      exact cut_nrm [12, 11, 10, 9, 8, 6, 4, 2] [0, 1, 2, 3, 4] rfl rfl
    rintro _ rfl
    refine rt 10 rfl ?_
    refine goal_cutR (fun σ' => (singleQ p = true ∧ x.given = true) ∧ σ' = ⟨[(12, .one (.op 3 (0 + (k : Int).toNat) 0)), (11, .one (.op 4 0 0)), (10, .one (.int .i64 k)), (9, .one (.bool nd)), (8, .one (.bool nn)), (6, .one (.op 2 0 0)), (4, .one (.op 1 0 0)), (2, .one (.op 0 0 0))], [some ⟨1, [eG s], false, false, true⟩, some ⟨2, [[.fs [], .fs []]], false, false, true⟩, some ⟨1, [[.os 3 0 s.length s.length]], false, false, true⟩, ownL out, some ⟨4, [eQ p], false, false, true⟩], []⟩) ?_ ?_
    · refine rn rfl ?_
      refine goal_step (step_call [] rfl rfl rfl rfl rfl rfl (isingle_ct p)) ?_
      rintro σ2 ⟨r, o', ⟨rfl, rfl⟩, hσ⟩
      obtain rfl := Option.some.inj hσ
      clear hσ
      refine rn rfl ?_
      refine goal_guard rfl rfl rfl (fun h1 => ?_) (fun h1 => ?_) <;> (try simp only [gt_iff_lt, ge_iff_le, bne_iff_ne, ne_eq, bne_eq_false_iff_eq, beq_iff_eq, beq_eq_false_iff_ne, Bool.not_eq_true', Bool.not_eq_false', decide_eq_true_eq, decide_eq_false_iff_not, List.length_map] at h1)
      · have e : leanS fx k p x (out, nd) = (out, nd) := by
          have hk0 : (p.kind == 0) = false := by
            cases h0 : p.kind == 0 with
            | false => rfl
            | true => rw [single_kind.2 (.inl (by simpa using h0))] at h1; cases h1
          simp [leanS, clrQ, isDefQ, h1, hk0]
        refine rn rfl ?_
        refine cut_ext ?_
        refine rn rfl ?_
        refine round_keep k [10, 9, 8, 6, 4, 2] [0, 1, 2, 3] (by omega) rfl ⟨_, k, _, out, nd, nn, fx, wrap64 (by omega) (by omega), rfl, by omega, rfl, hol, hnn, rfl, by rw [hlq, e], fun j hj => hag j (by omega), rfl⟩
      · refine goal_did rfl rfl (dA_step rfl) ?_
        refine goal_did rfl rfl (dA_step rfl) ?_
        refine goal_did rfl rfl (dA_step rfl) ?_
        refine goal_did rfl rfl (dA_loadEl (eL x) rfl rfl rfl rfl (map_at (by simpa using hxo)) rfl rfl rfl) ?_
        refine rn rfl ?_
        refine goal_cond rfl (fun h2 => ?_) (fun h2 => ?_) <;> (try simp only [gt_iff_lt, ge_iff_le, bne_iff_ne, ne_eq, bne_eq_false_iff_eq, beq_iff_eq, beq_eq_false_iff_ne, Bool.not_eq_true', Bool.not_eq_false', decide_eq_true_eq, decide_eq_false_iff_not, List.length_map] at h2)
        · have e : leanS fx k p x (out, nd) = (out, nd) := by simp [leanS, clrQ, isDefQ, h2]
          refine rn rfl ?_
          refine cut_ext ?_
          refine rn rfl ?_
          refine round_keep k [10, 9, 8, 6, 4, 2] [0, 1, 2, 3] (by omega) rfl ⟨_, k, _, out, nd, nn, fx, wrap64 (by omega) (by omega), rfl, by omega, rfl, hol, hnn, rfl, by rw [hlq, e], fun j hj => hag j (by omega), rfl⟩
        · refine rn rfl ?_
          exact cut_nrm [12, 11, 10, 9, 8, 6, 4, 2] [0, 1, 2, 3, 4] rfl ⟨⟨by simpa using h1, by simpa using h2⟩, rfl⟩
    rintro _ ⟨⟨hsg, hgv⟩, rfl⟩
    obtain ⟨v, hv⟩ := hone hsg hgv
    refine rt1 11 rfl ?_
    refine goal_cutR (fun σ' => σ' = ⟨[(13, .one (.bool (plainQ p x))), (12, .one (.op 3 (0 + (k : Int).toNat) 0)), (11, .one (.op 4 0 0)), (10, .one (.int .i64 k)), (9, .one (.bool nd)), (8, .one (.bool nn)), (6, .one (.op 2 0 0)), (4, .one (.op 1 0 0)), (2, .one (.op 0 0 0))], [some ⟨1, [eG s], false, false, true⟩, some ⟨2, [[.fs [], .fs []]], false, false, true⟩, some ⟨1, [[.os 3 0 s.length s.length]], false, false, true⟩, ownL out, some ⟨4, [eQ p], false, false, true⟩], []⟩) ?_ ?_
    · refine goal_draw' [3, 4] 14 rfl ?_
      refine drn [0, 1, 2] (by kernel_rfl) (by kernel_rfl) rfl rfl ?_
      refine AH_guard (i := 3) rfl rfl rfl (fun h3 => ?_) (fun h3 => ?_) <;> (try simp only [gt_iff_lt, ge_iff_le, bne_iff_ne, ne_eq, bne_eq_false_iff_eq, beq_iff_eq, beq_eq_false_iff_ne, Bool.not_eq_true', Bool.not_eq_false', decide_eq_true_eq, decide_eq_false_iff_not, List.length_map] at h3)
      · have e : plainQ p x = (v == p.dflt) := by simp [plainQ, h3, hv, hd0]
        rw [e]
        refine drn [3, 9, 10] (by kernel_rfl) (by kernel_rfl) rfl rfl ?_
        refine AH_oneDid 4 rfl (by kernel_rfl) rfl (dA_step rfl) (mdOk rfl) ?_
        refine AH_did 5 rfl (by kernel_rfl) (by kernel_rfl) (by kernel_rfl) rfl rfl (dA_step rfl) ?_
        refine AH_did 6 rfl (by kernel_rfl) (by kernel_rfl) (by kernel_rfl) rfl rfl (dA_loadEl (eL x) rfl rfl rfl rfl (map_at (by simpa using hxo)) rfl rfl rfl) ?_
        refine AH_did 7 rfl (by kernel_rfl) (by kernel_rfl) (by kernel_rfl) rfl rfl (dA_index (eI v) rfl rfl rfl rfl rfl rfl rfl (by omega) (by simp [hv]) (by simp [hv]) rfl) ?_
        refine drn [8, 11, 12, 13] (by kernel_rfl) (by kernel_rfl) rfl rfl ?_
        refine AH_end (by kernel_rfl) ?_
        refine rn rfl ?_
        exact cut_nrm [13, 12, 11, 10, 9, 8, 6, 4, 2] [0, 1, 2, 3, 4] rfl rfl
      · have e : plainQ p x = false := by simp [plainQ, h3]
        rw [e]
        refine drn [3, 4, 5, 6, 7, 8, 9, 10, 11, 12, 13] (by kernel_rfl) (by kernel_rfl) rfl rfl ?_
        refine AH_end (by kernel_rfl) ?_
        refine rn rfl ?_
        exact cut_nrm [13, 12, 11, 10, 9, 8, 6, 4, 2] [0, 1, 2, 3, 4] rfl rfl
    rintro _ rfl
    generalize hpl : plainQ p x = pl
    rcases single_kind.1 hsg with hk | hk | hk
    · refine rn rfl ?_
      refine goal_guard rfl rfl rfl (fun h0 => by simp [hk] at h0) (fun _ => ?_)
      refine rn rfl ?_
      refine goal_guard rfl rfl rfl (fun h0 => by simp [hk] at h0) (fun _ => ?_)
      refine rn rfl ?_
      refine goal_guard rfl rfl rfl (fun _ => ?_) (fun h0 => by simp [hk] at h0)
      refine rn rfl ?_
      refine goal_guard rfl rfl rfl (fun hp1 => ?_) (fun hp1 => ?_) <;> (try simp only [gt_iff_lt, ge_iff_le, bne_iff_ne, ne_eq, bne_eq_false_iff_eq, beq_iff_eq, beq_eq_false_iff_ne, Bool.not_eq_true', Bool.not_eq_false', decide_eq_true_eq, decide_eq_false_iff_not, List.length_map] at hp1)
      · refine rn rfl ?_
        refine goal_guard rfl rfl rfl (fun hn1 => ?_) (fun hn1 => ?_) <;> (try simp only [gt_iff_lt, ge_iff_le, bne_iff_ne, ne_eq, bne_eq_false_iff_eq, beq_iff_eq, beq_eq_false_iff_ne, Bool.not_eq_true', Bool.not_eq_false', decide_eq_true_eq, decide_eq_false_iff_not, List.length_map] at hn1)
        · refine rn rfl ?_
          refine goal_cond rfl (fun hb1 => ?_) (fun hb1 => ?_) <;> (try simp only [gt_iff_lt, ge_iff_le, bne_iff_ne, ne_eq, bne_eq_false_iff_eq, beq_iff_eq, beq_eq_false_iff_ne, Bool.not_eq_true', Bool.not_eq_false', decide_eq_true_eq, decide_eq_false_iff_not, List.length_map] at hb1)
          · have e : leanS fx k p x (out, nd) = (out.set k zL, nd) := by simp [leanS, clrQ, isDefQ, keepQ, placedQ, hsg, hgv, hpl, hk, hp1, hb1, (show fx = false by rw [hn1] at hnn; simpa using hnn.symm)]
            refine rt1 15 rfl ?_
            refine run_sound 1 _ _ _ _ rfl ?_
            refine goal_did rfl rfl (dA_step rfl) ?_
            refine goal_did rfl rfl (dA_step rfl) ?_
            refine goal_did rfl rfl (dA_step rfl) ?_
            refine goal_data 97 [] (y := .agg (eL zL)) rfl rfl rfl ?_
            refine goal_did rfl rfl (dA_storeEl (eL x) ((out.set k zL).map eL) true rfl rfl rfl rfl rfl (map_at (by simpa using hxo)) rfl rfl (by simp [eL, zL]) (by rw [map_set]; simp [patch, eL, zL]) (fun _ => noOwnR_map _ eL_noOwn _)) ?_
            refine rn rfl ?_
            refine round_keep k [10, 9, 8, 6, 4, 2] [0, 1, 2, 3] (by omega) rfl ⟨_, k, _, out.set k zL, nd, nn, fx, wrap64 (by omega) (by omega), rfl, by omega, rfl, (by simp [hol]), hnn, rfl, by rw [hlq, e], (fun j hj => by rw [List.getElem?_set, if_neg (by omega)]; exact hag j (by omega)), rfl⟩
          · have e : leanS fx k p x (out, nd) = (out, true) := by simp [leanS, clrQ, isDefQ, keepQ, placedQ, hsg, hgv, hpl, hk, hp1, hb1, (show fx = false by rw [hn1] at hnn; simpa using hnn.symm)]
            refine rn rfl ?_
            refine goal_cond rfl (fun _ => ?_) (fun h0 => by simp [hk] at h0)
            refine rn rfl ?_
            refine round_keep k [10, 9, 8, 6, 4, 2] [0, 1, 2, 3] (by omega) rfl ⟨_, k, _, out, true, nn, fx, wrap64 (by omega) (by omega), rfl, by omega, rfl, hol, hnn, rfl, by rw [hlq, e], (fun j hj => hag j (by omega)), rfl⟩
        · have e : leanS fx k p x (out, nd) = (out, true) := by simp [leanS, clrQ, isDefQ, keepQ, placedQ, hsg, hgv, hpl, hk, hp1, (show fx = true by rw [hn1] at hnn; simpa using hnn.symm)]
          refine rn rfl ?_
          refine goal_cond rfl (fun _ => ?_) (fun h0 => by simp [hk] at h0)
          refine rn rfl ?_
          refine round_keep k [10, 9, 8, 6, 4, 2] [0, 1, 2, 3] (by omega) rfl ⟨_, k, _, out, true, nn, fx, wrap64 (by omega) (by omega), rfl, by omega, rfl, hol, hnn, rfl, by rw [hlq, e], (fun j hj => hag j (by omega)), rfl⟩
      · have e : leanS fx k p x (out, nd) = (out, true) := by simp [leanS, clrQ, isDefQ, keepQ, placedQ, hsg, hgv, hpl, hk, hp1]
        refine rn rfl ?_
        refine goal_cond rfl (fun _ => ?_) (fun h0 => by simp [hk] at h0)
        refine rn rfl ?_
        refine round_keep k [10, 9, 8, 6, 4, 2] [0, 1, 2, 3] (by omega) rfl ⟨_, k, _, out, true, nn, fx, wrap64 (by omega) (by omega), rfl, by omega, rfl, hol, hnn, rfl, by rw [hlq, e], (fun j hj => hag j (by omega)), rfl⟩
    · refine rn rfl ?_
      refine goal_guard rfl rfl rfl (fun h0 => by simp [hk] at h0) (fun _ => ?_)
      refine rn rfl ?_
      refine goal_guard rfl rfl rfl (fun _ => ?_) (fun h0 => by simp [hk] at h0)
      refine rn rfl ?_
      refine goal_guard rfl rfl rfl (fun hp1 => ?_) (fun hp1 => ?_) <;> (try simp only [gt_iff_lt, ge_iff_le, bne_iff_ne, ne_eq, bne_eq_false_iff_eq, beq_iff_eq, beq_eq_false_iff_ne, Bool.not_eq_true', Bool.not_eq_false', decide_eq_true_eq, decide_eq_false_iff_not, List.length_map] at hp1)
      · refine rn rfl ?_
        refine goal_cond rfl (fun hn1 => ?_) (fun hn1 => ?_) <;> (try simp only [gt_iff_lt, ge_iff_le, bne_iff_ne, ne_eq, bne_eq_false_iff_eq, beq_iff_eq, beq_eq_false_iff_ne, Bool.not_eq_true', Bool.not_eq_false', decide_eq_true_eq, decide_eq_false_iff_not, List.length_map] at hn1)
        · have e : leanS fx k p x (out, nd) = (out.set k zL, nd) := by simp [leanS, clrQ, isDefQ, keepQ, placedQ, hsg, hgv, hpl, hk, hp1, (show fx = false by rw [hn1] at hnn; simpa using hnn.symm)]
          refine rn rfl ?_
          refine goal_cond rfl (fun _ => ?_) (fun h0 => by rw [hn1] at h0; cases h0)
          refine rt1 15 rfl ?_
          refine run_sound 1 _ _ _ _ rfl ?_
          refine goal_did rfl rfl (dA_step rfl) ?_
          refine goal_did rfl rfl (dA_step rfl) ?_
          refine goal_did rfl rfl (dA_step rfl) ?_
          refine goal_data 97 [] (y := .agg (eL zL)) rfl rfl rfl ?_
          refine goal_did rfl rfl (dA_storeEl (eL x) ((out.set k zL).map eL) true rfl rfl rfl rfl rfl (map_at (by simpa using hxo)) rfl rfl (by simp [eL, zL]) (by rw [map_set]; simp [patch, eL, zL]) (fun _ => noOwnR_map _ eL_noOwn _)) ?_
          refine rn rfl ?_
          refine round_keep k [10, 9, 8, 6, 4, 2] [0, 1, 2, 3] (by omega) rfl ⟨_, k, _, out.set k zL, nd, nn, fx, wrap64 (by omega) (by omega), rfl, by omega, rfl, (by simp [hol]), hnn, rfl, by rw [hlq, e], (fun j hj => by rw [List.getElem?_set, if_neg (by omega)]; exact hag j (by omega)), rfl⟩
        · have e : leanS fx k p x (out, nd) = (out, nd) := by simp [leanS, clrQ, isDefQ, keepQ, placedQ, hsg, hgv, hpl, hk, hp1, (show fx = true by rw [hn1] at hnn; simpa using hnn.symm)]
          refine rn rfl ?_
          refine goal_guard rfl rfl rfl (fun h0 => by simp [hk] at h0) (fun _ => ?_)
          refine rn rfl ?_
          refine goal_cond rfl (fun h0 => by simp [hk] at h0) (fun _ => ?_)
          refine rn rfl ?_
          refine round_keep k [10, 9, 8, 6, 4, 2] [0, 1, 2, 3] (by omega) rfl ⟨_, k, _, out, nd, nn, fx, wrap64 (by omega) (by omega), rfl, by omega, rfl, hol, hnn, rfl, by rw [hlq, e], (fun j hj => hag j (by omega)), rfl⟩
      · have e : leanS fx k p x (out, nd) = (out, nd) := by simp [leanS, clrQ, isDefQ, keepQ, placedQ, hsg, hgv, hpl, hk, hp1]
        refine rn rfl ?_
        refine goal_guard rfl rfl rfl (fun h0 => by simp [hk] at h0) (fun _ => ?_)
        refine rn rfl ?_
        refine goal_cond rfl (fun h0 => by simp [hk] at h0) (fun _ => ?_)
        refine rn rfl ?_
        refine round_keep k [10, 9, 8, 6, 4, 2] [0, 1, 2, 3] (by omega) rfl ⟨_, k, _, out, nd, nn, fx, wrap64 (by omega) (by omega), rfl, by omega, rfl, hol, hnn, rfl, by rw [hlq, e], (fun j hj => hag j (by omega)), rfl⟩
    · refine rn rfl ?_
      refine goal_guard rfl rfl rfl (fun _ => ?_) (fun h0 => by simp [hk] at h0)
      refine rn rfl ?_
      refine goal_cond rfl (fun hp1 => ?_) (fun hp1 => ?_) <;> (try simp only [gt_iff_lt, ge_iff_le, bne_iff_ne, ne_eq, bne_eq_false_iff_eq, beq_iff_eq, beq_eq_false_iff_ne, Bool.not_eq_true', Bool.not_eq_false', decide_eq_true_eq, decide_eq_false_iff_not, List.length_map] at hp1)
      · have e : leanS fx k p x (out, nd) = (out.set k zL, nd) := by simp [leanS, clrQ, isDefQ, keepQ, placedQ, hsg, hgv, hpl, hk, hp1]
        refine rn rfl ?_
        refine goal_cond rfl (fun _ => ?_) (fun h0 => by rw [hp1] at h0; cases h0)
        refine rt1 15 rfl ?_
        refine run_sound 1 _ _ _ _ rfl ?_
        refine goal_did rfl rfl (dA_step rfl) ?_
        refine goal_did rfl rfl (dA_step rfl) ?_
        refine goal_did rfl rfl (dA_step rfl) ?_
        refine goal_data 97 [] (y := .agg (eL zL)) rfl rfl rfl ?_
        refine goal_did rfl rfl (dA_storeEl (eL x) ((out.set k zL).map eL) true rfl rfl rfl rfl rfl (map_at (by simpa using hxo)) rfl rfl (by simp [eL, zL]) (by rw [map_set]; simp [patch, eL, zL]) (fun _ => noOwnR_map _ eL_noOwn _)) ?_
        refine rn rfl ?_
        refine round_keep k [10, 9, 8, 6, 4, 2] [0, 1, 2, 3] (by omega) rfl ⟨_, k, _, out.set k zL, nd, nn, fx, wrap64 (by omega) (by omega), rfl, by omega, rfl, (by simp [hol]), hnn, rfl, by rw [hlq, e], (fun j hj => by rw [List.getElem?_set, if_neg (by omega)]; exact hag j (by omega)), rfl⟩
      · have e : leanS fx k p x (out, nd) = (out, nd) := by simp [leanS, clrQ, isDefQ, keepQ, placedQ, hsg, hgv, hpl, hk, hp1]
        refine rn rfl ?_
        refine goal_guard rfl rfl rfl (fun h0 => by simp [hk] at h0) (fun _ => ?_)
        refine rn rfl ?_
        refine goal_guard rfl rfl rfl (fun h0 => by simp [hk] at h0) (fun _ => ?_)
        refine rn rfl ?_
        refine goal_cond rfl (fun h0 => by simp [hk] at h0) (fun _ => ?_)
        refine rn rfl ?_
        refine round_keep k [10, 9, 8, 6, 4, 2] [0, 1, 2, 3] (by omega) rfl ⟨_, k, _, out, nd, nn, fx, wrap64 (by omega) (by omega), rfl, by omega, rfl, hol, hnn, rfl, by rw [hlq, e], (fun j hj => hag j (by omega)), rfl⟩
  · obtain rfl : m = 0 := by omega
    refine rn rfl (round_ext ?_)
    have hfin : leanQ s b fx = out := hlq
    rw [hfin] at l1 l2 l3 l4 ⊢
    refine rn rfl ?_
    refine goal_step (step_callE [] rfl rfl rfl rfl rfl rfl (cons_eq rfl (cons_eq (asL out _ hol) rfl)) (iunbindD_ct s out l1)) ?_
    rintro σ2 ⟨r, o', ⟨rfl, rfl⟩, hσ⟩
    obtain rfl := Option.some.inj hσ
    clear hσ
    refine rn rfl ?_
    refine goal_step (step_call [] rfl rfl rfl rfl rfl rfl (checked_ct (unbQ s out) true (by omega) (by omega) l4)) ?_
    rintro σ2 ⟨r, o', ⟨rfl, rfl⟩, hσ⟩
    obtain rfl := Option.some.inj hσ
    clear hσ
    refine rn rfl ?_
    exact rn rfl (fin_is [4, 5] rfl ⟨rfl, rfl⟩)

theorem ileanD_ctF (s : Sig) (f : Flat) (hls : LenS s) (hlf : LenF f) : ACalls pk 8 [.agg (eG s), .agg (eF f)] [] (fun r o => r = .tup [.agg (eF (LeanF s f).1), .one (.bool (LeanF s f).2)] ∧ o = []) :=
  (ilean_ctF s f hls hlf).told [] (by rintro r o ⟨rfl, rfl⟩; exact ⟨_, _, rfl, congrArg (fun t => T.tup [t, .one (.bool (LeanF s f).2)]) (asFl _), rfl⟩)

section

variable {s : Sig} {b : Bnds} {fx : Bool}

theorem leanI_len : ∀ (i : Nat) (st : Bnds × Bool), (leanI s b fx i st).1.length = st.1.length
  | 0, st => rfl
  | i + 1, st => by
    unfold leanI
    rw [leanI_len i]
    split
    · unfold leanS
      simp only
      split <;> simp
    · rfl

theorem leanI_at (hlen : b.length = s.length) : ∀ (i : Nat) (out : Bnds) (nd : Bool), i ≤ s.length → out.length = s.length → (∀ j, j < i → out[j]? = b[j]?) →
    (∀ j, i ≤ j → (leanI s b fx i (out, nd)).1[j]? = out[j]?) ∧
    ∀ (j : Nat) (p : Param) (x : Slot), j < i → s[j]? = some p → b[j]? = some x → ∃ nd' : Bool, (leanI s b fx i (out, nd)).1[j]? = some (if clrQ p x fx nd' then zL else x) ∧
      (nd' = true ↔ nd = true ∨ ∃ (k : Nat) (q : Param) (y : Slot), j < k ∧ k < i ∧ s[k]? = some q ∧ (leanI s b fx i (out, nd)).1[k]? = some y ∧ q.kind = 0 ∧ y.given = true)
  | 0, out, nd, _, _, _ => ⟨fun _ _ => rfl, fun j p x hj => by omega⟩
  | i + 1, out, nd, hi, hol, hag => by
    obtain ⟨p, hp⟩ := at_some (xs := s) (i := i) (by omega)
    obtain ⟨x, hx⟩ := at_some (xs := b) (i := i) (by omega)
    have hxo : out[i]? = some x := by rw [hag i (by omega)]; exact hx
    rw [leanI_succ hp hx]
    generalize hst : leanS fx i p x (out, nd) = st
    obtain ⟨O, N⟩ := st
    have hO : O = if clrQ p x fx nd then out.set i zL else out := by have := congrArg Prod.fst hst; exact this.symm
    have hN : N = (nd || (p.kind == 0 && (x.given && !clrQ p x fx nd))) := by have := congrArg Prod.snd hst; exact this.symm
    have hOl : O.length = s.length := by rw [hO]; split <;> simp [hol]
    have hOj : ∀ j, j ≠ i → O[j]? = out[j]? := fun j hj => by
      rw [hO]
      split
      · rw [List.getElem?_set, if_neg (fun h => hj h.symm)]
      · rfl
    have hOi : O[i]? = some (if clrQ p x fx nd then zL else x) := by
      rw [hO]
      split
      · rw [List.getElem?_set, if_pos rfl, if_pos (by omega)]
      · exact hxo
    obtain ⟨h1, h2⟩ := leanI_at hlen i O N (by omega) hOl (fun j hj => by rw [hOj j (by omega)]; exact hag j (by omega))
    generalize (leanI s b fx i (O, N)).1 = R at h1 h2 ⊢
    have hRi : R[i]? = some (if clrQ p x fx nd then zL else x) := by rw [h1 i (Nat.le_refl _)]; exact hOi
    refine ⟨fun j hj => by rw [h1 j (by omega)]; exact hOj j (by omega), fun j q y hj hq hy => ?_⟩
    by_cases hji : j = i
    · subst hji
      rw [hp] at hq; cases hq
      rw [hx] at hy; cases hy
      refine ⟨nd, hRi, ?_⟩
      constructor
      · exact .inl
      · rintro (h | ⟨k, _, _, hk1, hk2, _⟩)
        · exact h
        · omega
    · obtain ⟨nd', e1, e2⟩ := h2 j q y (by omega) hq hy
      refine ⟨nd', e1, ?_⟩
      rw [e2]
      constructor
      · rintro (h | ⟨k, r, z, a1, a2, a3⟩)
        · rw [hN] at h
          simp only [Bool.or_eq_true, Bool.and_eq_true, beq_iff_eq, Bool.not_eq_true'] at h
          rcases h with h | ⟨h3, h4, h5⟩
          · exact .inl h
          · refine .inr ⟨i, p, x, by omega, by omega, hp, ?_, h3, h4⟩
            rw [hRi, h5]; rfl
        · exact .inr ⟨k, r, z, a1, by omega, a3⟩
      · rintro (h | ⟨k, r, z, a1, a2, a3, a4, a5, a6⟩)
        · left; rw [hN, h]; rfl
        · by_cases hki : k = i
          · subst hki
            left
            rw [hp] at a3; cases a3
            rw [hRi] at a4
            rw [hN]
            cases hc : clrQ p x fx nd with
            | true => rw [hc] at a4; cases a4; cases a6
            | false =>
              rw [hc] at a4; cases a4
              simp only [Bool.false_eq_true, if_false] at a6
              simp [a5, a6]
          · exact .inr ⟨k, r, z, a1, by omega, a3, a4, a5, a6⟩

theorem lean_at (hlen : b.length = s.length) {j : Nat} {p : Param} {x : Slot} (hp : s[j]? = some p) (hx : b[j]? = some x) : ∃ nd : Bool, (leanQ s b fx)[j]? = some (if clrQ p x fx nd then zL else x) ∧
    (nd = true ↔ ∃ (k : Nat) (q : Param) (y : Slot), j < k ∧ s[k]? = some q ∧ (leanQ s b fx)[k]? = some y ∧ q.kind = 0 ∧ y.given = true) := by
  obtain ⟨_, h⟩ := leanI_at (fx := fx) hlen s.length b false (Nat.le_refl _) hlen (fun _ _ => rfl)
  obtain ⟨nd, h1, h2⟩ := h j p x (lt_of_some hp) hp hx
  refine ⟨nd, h1, ?_⟩
  rw [h2]
  constructor
  · rintro (h | ⟨k, q, y, a1, a2, a3⟩)
    · cases h
    · exact ⟨k, q, y, a1, a3⟩
  · rintro ⟨k, q, y, a1, a3, a4⟩
    exact .inr ⟨k, q, y, a1, lt_of_some a3, a3, a4⟩

theorem lean_len (hlen : b.length = s.length) : (leanQ s b fx).length = s.length := by unfold leanQ; rw [leanI_len]; exact hlen

theorem lean_was (hlen : b.length = s.length) {j : Nat} {p : Param} {y : Slot} (hp : s[j]? = some p) (hy : (leanQ s b fx)[j]? = some y) : ∃ x nd, b[j]? = some x ∧ y = (if clrQ p x fx nd then zL else x) ∧
    (nd = true ↔ ∃ (k : Nat) (q : Param) (y : Slot), j < k ∧ s[k]? = some q ∧ (leanQ s b fx)[k]? = some y ∧ q.kind = 0 ∧ y.given = true) := by
  obtain ⟨x, hx⟩ := at_some (xs := b) (i := j) (by rw [hlen]; exact lt_of_some hp)
  obtain ⟨nd, h1, h2⟩ := lean_at (fx := fx) hlen hp hx
  rw [hy] at h1
  cases h1
  exact ⟨x, nd, hx, rfl, h2⟩

theorem clr_iff {p : Param} {x : Slot} {nd : Bool} : clrQ p x fx nd = true ↔ singleQ p = true ∧ x.given = true ∧ p.hasD = true ∧ hd0 x.list = p.dflt ∧ ¬ (placedQ p = true ∧ fx = true) ∧ ¬ (p.kind = 0 ∧ nd = true) := by
  unfold clrQ isDefQ plainQ keepQ
  simp only [Bool.and_eq_true, Bool.not_eq_true', Bool.or_eq_false_iff, beq_iff_eq, Bool.and_eq_false_iff, beq_eq_false_iff_ne, not_and, Bool.not_eq_true]
  constructor
  · rintro ⟨⟨⟨h1, h2⟩, h3, h4⟩, h5, h6⟩
    refine ⟨h1, h2, h3, h4, fun h => ?_, fun h => ?_⟩
    · rcases h5 with h5 | h5
      · rw [h] at h5; cases h5
      · exact h5
    · rcases h6 with h6 | h6
      · exact absurd h h6
      · exact h6
  · rintro ⟨h1, h2, h3, h4, h5, h6⟩
    refine ⟨⟨⟨h1, h2⟩, h3, h4⟩, ?_, ?_⟩
    · cases h : placedQ p with
      | false => exact .inl rfl
      | true => exact .inr (h5 h)
    · by_cases h : p.kind = 0
      · exact .inr (h6 h)
      · exact .inl h

theorem lean_other (hlen : b.length = s.length) {j : Nat} {p : Param} {y : Slot} (hp : s[j]? = some p) (hs : singleQ p = false) (hy : (leanQ s b fx)[j]? = some y) : b[j]? = some y := by
  obtain ⟨x, nd, hx, rfl, _⟩ := lean_was hlen hp hy
  have : clrQ p x fx nd = false := by
    cases h : clrQ p x fx nd with
    | false => rfl
    | true => rw [(clr_iff.1 h).1] at hs; cases hs
  rw [this]; exact hx

theorem lean_given (hlen : b.length = s.length) {j : Nat} {p : Param} {y : Slot} (hp : s[j]? = some p) (hy : (leanQ s b fx)[j]? = some y) (hg : y.given = true) : b[j]? = some y ∧ ∃ nd : Bool, clrQ p y fx nd = false ∧
    (nd = true ↔ ∃ (k : Nat) (q : Param) (y : Slot), j < k ∧ s[k]? = some q ∧ (leanQ s b fx)[k]? = some y ∧ q.kind = 0 ∧ y.given = true) := by
  obtain ⟨x, nd, hx, rfl, h2⟩ := lean_was hlen hp hy
  cases h : clrQ p x fx nd with
  | true => rw [h] at hg; cases hg
  | false => exact ⟨hx, nd, h, h2⟩

end

/-- Whether all places are fixed. -/
abbrev fixQ (s : Sig) (b : Bnds) : Bool := decide (0 < (restB s b).length)

abbrev leanB (s : Sig) (b : Bnds) : Bnds := leanQ s b (fixQ s b)

theorem kIs_at {s : Sig} (h : 0 ≤ idxI (kIs 2) s 0) : ∃ p, s[(idxI (kIs 2) s 0).toNat]? = some p ∧ p.kind = 2 := by
  obtain ⟨p, _, hp, hk, _⟩ := idxI_find h
  exact ⟨p, hp, by simpa [kIs] using hk⟩

theorem not2 {p : Param} (h : p.kind = 2) : singleQ p = false := by simp [singleQ, placedQ, h]

theorem not4 {p : Param} (h : p.kind = 4) : singleQ p = false := by simp [singleQ, placedQ, h]

theorem restB_same {s : Sig} {b c : Bnds} (hb : b.length = s.length) (hc : c.length = s.length) (h : ∀ (j : Nat) (p : Param) (x y : Slot), s[j]? = some p → p.kind = 2 → b[j]? = some x → c[j]? = some y → x.list = y.list) : restB s b = restB s c := by
  by_cases h0 : 0 ≤ idxI (kIs 2) s 0
  · obtain ⟨x, hx, hx2, _⟩ := restB_at hb h0
    obtain ⟨y, hy, hy2, _⟩ := restB_at hc h0
    obtain ⟨p, hp, hk⟩ := kIs_at h0
    rw [hx2, hy2]
    exact h _ p x y hp hk hx hy
  · unfold restB
    rw [if_neg h0, if_neg h0]

theorem fix_full {s : Sig} {b : Bnds} (h : WfB s b) (hf : fixQ s b = true) {j : Nat} {q : Param} {y : Slot} (hq : s[j]? = some q) (hy : b[j]? = some y) (hpl : placedQ q = true) : y.given = true := by
  unfold fixQ at hf
  rw [decide_eq_true_eq] at hf
  by_cases h0 : 0 ≤ idxI (kIs 2) s 0
  · obtain ⟨x, hx, hx2, _⟩ := restB_at h.len h0
    obtain ⟨p, hp, hk⟩ := kIs_at h0
    rw [hx2] at hf
    exact h.full _ p x hp hx hk (fun h1 => by rw [h1] at hf; simp at hf) j q y hq hy hpl
  · unfold restB at hf
    rw [if_neg h0] at hf
    simp at hf

theorem rest_fix {s : Sig} {b : Bnds} (h : WfB s b) {i : Nat} {p : Param} {x : Slot} (hp : s[i]? = some p) (hx : b[i]? = some x) (hk : p.kind = 2) (hne : x.list ≠ []) : fixQ s b = true := by
  have h0 : 0 ≤ idxI (kIs 2) s 0 := (idxI_le (k := 0) (pred := kIs 2) hp (by simp [kIs, hk])).1
  obtain ⟨y, hy, hy2, _⟩ := restB_at h.len h0
  obtain ⟨q, hq, hqk⟩ := kIs_at h0
  have := h.sig.one hq hp (by omega) (not2 hk)
  rw [this, hx] at hy
  cases hy
  unfold fixQ
  rw [hy2, decide_eq_true_eq]
  exact List.length_pos_iff.2 hne

section

variable {s : Sig} {b : Bnds}

theorem WfB.lean (h : WfB s b) : WfB s (leanB s b) := by
  refine ⟨h.sig, lean_len h.len, fun i p y hp hy hsg => ?_, fun i p y hp hy hk => ?_, fun i p y hp hy hk hne j q z hq hz hpl => ?_, fun i p y hp hy hk => ?_, fun j i q p z y hji hq hp hz hy hk hg => ?_⟩
  · obtain ⟨x, nd, hx, rfl, h2⟩ := lean_was h.len hp hy
    obtain ⟨a1, a2⟩ := h.single i p x hp hx hsg
    cases hc : clrQ p x (fixQ s b) nd with
    | true => exact ⟨fun h0 => (by cases h0), fun _ => ⟨rfl, (clr_iff.1 hc).2.2.1⟩⟩
    | false => exact ⟨a1, a2⟩
  · exact h.rest i p y hp (lean_other h.len hp (not2 hk) hy) hk
  · have hx := lean_other h.len hp (not2 hk) hy
    have hf := rest_fix h hp hx hk hne
    obtain ⟨x, nd, hx', rfl, h2⟩ := lean_was h.len hq hz
    have hc : clrQ q x (fixQ s b) nd = false := by
      cases hc : clrQ q x (fixQ s b) nd with
      | false => rfl
      | true => exact absurd ⟨hpl, hf⟩ (clr_iff.1 hc).2.2.2.2.1
    rw [hc]
    exact fix_full h hf hq hx' hpl
  · exact h.map i p y hp (lean_other h.len hp (not4 hk) hy) hk
  · obtain ⟨hx, _⟩ := lean_given h.len hp hy hg
    obtain ⟨x', nd, hx', rfl, h2⟩ := lean_was h.len hq hz
    have hq0 : q.kind = 0 := by
      have h3 := h.sig.sorted (i - j) j q p hq (by rw [show j + (i - j) = i by omega]; exact hp)
      have h4 := h.sig.kindRange (List.mem_of_getElem? hq)
      omega
    have hnd : nd = true := h2.2 ⟨i, p, y, hji, hp, hy, hk, hg⟩
    have hc : clrQ q x' (fixQ s b) nd = false := by
      cases hc : clrQ q x' (fixQ s b) nd with
      | false => rfl
      | true => exact absurd ⟨hq0, hnd⟩ (clr_iff.1 hc).2.2.2.2.2
    rw [hc]
    exact h.first j i q p x' y hji hq hp hx' hx hk hg

theorem WfB.lean_fix (h : WfB s b) : restB s (leanB s b) = restB s b := by
  refine restB_same (lean_len h.len) h.len fun j p x y hp hk hx hy => ?_
  have := lean_other h.len hp (not2 hk) hx
  rw [hy] at this; cases this; rfl

theorem WfB.lean_fill (h : WfB s b) : fillQ s (leanB s b) = fillQ s b := by
  apply List.ext_getElem?
  intro j
  cases hp : s[j]? with
  | none =>
    have h1 : s.length ≤ j := by rw [List.getElem?_eq_none_iff] at hp; exact hp
    rw [List.getElem?_eq_none (by rw [fillQ_len (lean_len h.len)]; exact h1), List.getElem?_eq_none (by rw [fillQ_len h.len]; exact h1)]
  | some p =>
    obtain ⟨x, hx⟩ := h.get hp
    obtain ⟨nd, h1, _⟩ := lean_at (fx := fixQ s b) h.len hp hx
    rw [fillQ_at hp h1, fillQ_at hp hx]
    cases hc : clrQ p x (fixQ s b) nd with
    | false => rfl
    | true =>
      obtain ⟨c1, c2, c3, c4, _⟩ := clr_iff.1 hc
      have h2 := ((h.single j p x hp hx c1).1 c2).1
      simp only [if_true]
      unfold fill1
      rw [c1, c2]
      simp only [zL, Bool.not_false, Bool.and_self, if_true, Bool.not_true, Bool.and_false, Bool.false_eq_true, if_false]
      rw [h2, ← c4]

theorem WfB.lean_again (h : WfB s b) : leanB s (leanB s b) = leanB s b := by
  have hL := h.lean
  have hfx : fixQ s (leanB s b) = fixQ s b := by unfold fixQ; rw [h.lean_fix]
  have key : ∀ (d j : Nat), s.length ≤ j + d → (leanB s (leanB s b))[j]? = (leanB s b)[j]? := by
    intro d
    induction d with
    | zero =>
      intro j hj
      rw [List.getElem?_eq_none (by rw [lean_len hL.len]; omega), List.getElem?_eq_none (by rw [hL.len]; omega)]
    | succ d ih =>
      intro j hj
      cases hp : s[j]? with
      | none =>
        have h1 : s.length ≤ j := by rw [List.getElem?_eq_none_iff] at hp; exact hp
        rw [List.getElem?_eq_none (by rw [lean_len hL.len]; omega), List.getElem?_eq_none (by rw [hL.len]; omega)]
      | some p =>
        obtain ⟨y, hy⟩ := hL.get hp
        obtain ⟨nd, h1, h2⟩ := lean_at (fx := fixQ s (leanB s b)) hL.len hp hy
        have hc : clrQ p y (fixQ s (leanB s b)) nd = false := by
          cases hc : clrQ p y (fixQ s (leanB s b)) nd with
          | false => rfl
          | true =>
            obtain ⟨c1, c2, c3, c4, c5, c6⟩ := clr_iff.1 hc
            obtain ⟨_, nd', e1, e2⟩ := lean_given h.len hp hy c2
            have : clrQ p y (fixQ s b) nd' = true := clr_iff.2 ⟨c1, c2, c3, c4, by rw [← hfx]; exact c5, fun ⟨k0, hn⟩ => c6 ⟨k0, ?_⟩⟩
            · rw [this] at e1; cases e1
            · obtain ⟨k, q, z, a1, a2, a3, a4, a5⟩ := e2.1 hn
              exact h2.2 ⟨k, q, z, a1, a2, by rw [ih k (by omega)]; exact a3, a4, a5⟩
        rw [hc] at h1
        show (leanQ s (leanB s b) (fixQ s (leanB s b)))[j]? = _
        rw [h1, hy]; rfl
  apply List.ext_getElem?
  intro j
  exact key s.length j (by omega)

theorem cnt_le {b c : Bnds} (hl : b.length = c.length) (h : ∀ (j : Nat) (x y : Slot), b[j]? = some x → c[j]? = some y → cntL x ≤ cntL y) : cntB b ≤ cntB c := by
  have key : ∀ i, i ≤ b.length → cntB (b.take i) ≤ cntB (c.take i) := by
    intro i
    induction i with
    | zero => intro _; simp [cntB]
    | succ i ih =>
      intro hi
      obtain ⟨x, hx⟩ := at_some (xs := b) (i := i) (by omega)
      obtain ⟨y, hy⟩ := at_some (xs := c) (i := i) (by omega)
      rw [cntB_take hx, cntB_take hy]
      have := ih (by omega)
      have := h i x y hx hy
      omega
  have := key b.length (Nat.le_refl _)
  rw [List.take_length, hl, List.take_length] at this
  exact this

theorem WfB.lean_cnt (h : WfB s b) : cntB (leanB s b) ≤ cntB b := by
  refine cnt_le (by rw [lean_len h.len, h.len]) fun j y x hy hx => ?_
  obtain ⟨p, hp⟩ := at_some (xs := s) (i := j) (by rw [← h.len]; exact lt_of_some hx)
  obtain ⟨x', nd, hx', rfl, _⟩ := lean_was h.len hp hy
  rw [hx] at hx'; cases hx'
  split
  · simp [cntL, zL]
  · exact Nat.le_refl _

end

section

variable {s : Sig} {b c : Bnds}

theorem same_rest (hb : WfB s b) (hc : WfB s c) (h : sameB (fillQ s b) (fillQ s c) = true) {j : Nat} {p : Param} {x y : Slot} (hp : s[j]? = some p) (hx : b[j]? = some x) (hy : c[j]? = some y) : sameL (fill1 p x) (fill1 p y) = true :=
  (sameB_iff.1 h).2 j _ _ (fillQ_at hp hx) (fillQ_at hp hy)

theorem fill_other {p : Param} {x : Slot} (h : singleQ p = false) : fill1 p x = x := by simp [fill1, h]

theorem fill_given {p : Param} {x : Slot} (h : x.given = true) : fill1 p x = x := by simp [fill1, h]

theorem fill_open {p : Param} {x : Slot} (h : singleQ p = true) (hg : x.given = false) : fill1 p x = ⟨true, [p.dflt], []⟩ := by simp [fill1, h, hg]

theorem same_fix (hb : WfB s b) (hc : WfB s c) (h : sameB (fillQ s b) (fillQ s c) = true) : fixQ s b = fixQ s c := by
  unfold fixQ
  rw [restB_same hb.len hc.len fun j p x y hp hk hx hy => ?_]
  have := same_rest hb hc h hp hx hy
  rw [fill_other (not2 hk), fill_other (not2 hk)] at this
  simp only [sameL, Bool.and_eq_true, decide_eq_true_eq] at this
  exact this.2.1

theorem same_lean1 (hb : WfB s b) (hc : WfB s c) (h : sameB (fillQ s b) (fillQ s c) = true) : ∀ (d j : Nat) (p : Param) (x y : Slot), s.length ≤ j + d → s[j]? = some p → singleQ p = true → (leanB s b)[j]? = some x → (leanB s c)[j]? = some y → x.given = true → y.given = true
  | 0, j, p, x, y, hj, hp, _, _, _, _ => by have := lt_of_some hp; omega
  | d + 1, j, p, x, y, hj, hp, hsg, hx, hy, hg => by
    obtain ⟨hxb, nd, e1, e2⟩ := lean_given hb.len hp hx hg
    obtain ⟨z, nd', hz, rfl, f2⟩ := lean_was hc.len hp hy
    have hfx := same_fix hb hc h
    have hsame := same_rest hb hc h hp hxb hz
    rw [fill_given hg] at hsame
    have hxs := ((hb.single j p x hp hxb hsg).1 hg).1
    have nd_imp : nd = true → ∃ (k : Nat) (q : Param) (y : Slot), j < k ∧ s[k]? = some q ∧ (leanB s c)[k]? = some y ∧ q.kind = 0 ∧ y.given = true := fun hn => by
      obtain ⟨k, q, w, a1, a2, a3, a4, a5⟩ := e2.1 hn
      obtain ⟨v, hv⟩ := hc.lean.get a2
      exact ⟨k, q, v, a1, a2, hv, a4, same_lean1 hb hc h d k q w v (by omega) a2 (single_kind.2 (.inl a4)) a3 hv a5⟩
    have keep : p.hasD = true → hd0 x.list = p.dflt → (placedQ p = true ∧ fixQ s c = true) ∨ (p.kind = 0 ∧ nd = true) := fun h1 h2 => by
      refine Classical.byContradiction fun hno => ?_
      have : clrQ p x (fixQ s b) nd = true := clr_iff.2 ⟨hsg, hg, h1, h2, fun h3 => hno (.inl (by rw [← hfx]; exact h3)), fun h3 => hno (.inr h3)⟩
      rw [this] at e1; cases e1
    cases hzg : z.given with
    | false =>
      exfalso
      obtain ⟨hz0, hzd⟩ := (hc.single j p z hp hz hsg).2 hzg
      rw [fill_open hsg hzg] at hsame
      simp only [sameL, Bool.and_eq_true, decide_eq_true_eq] at hsame
      have hv : hd0 x.list = p.dflt := by rw [hsame.2.1]; rfl
      rcases keep hzd hv with ⟨k1, k2⟩ | ⟨k1, k2⟩
      · have := fix_full hc k2 hp hz k1
        rw [hzg] at this; cases this
      · obtain ⟨k, q, v, a1, a2, a3, a4, a5⟩ := nd_imp k2
        obtain ⟨hv', _⟩ := lean_given hc.len a2 a3 a5
        have := hc.first j k p q z v a1 hp a2 hz hv' a4 a5
        rw [hzg] at this; cases this
    | true =>
      rw [fill_given hzg] at hsame
      simp only [sameL, Bool.and_eq_true, decide_eq_true_eq] at hsame
      have hcl : clrQ p z (fixQ s c) nd' = false := by
        cases hcl : clrQ p z (fixQ s c) nd' with
        | false => rfl
        | true =>
          obtain ⟨c1, c2, c3, c4, c5, c6⟩ := clr_iff.1 hcl
          rcases keep c3 (by rw [hsame.2.1]; exact c4) with k1 | ⟨k1, k2⟩
          · exact absurd k1 c5
          · exact absurd ⟨k1, f2.2 (nd_imp k2)⟩ c6
      rw [hcl]; exact hzg

theorem sameL_symm {x y : Slot} (h : sameL x y = true) : sameL y x = true := by
  simp only [sameL, Bool.and_eq_true, decide_eq_true_eq, beq_iff_eq] at h ⊢
  exact ⟨h.1.symm, h.2.1.symm, h.2.2.symm⟩

theorem sameB_symm {x y : Bnds} (h : sameB x y = true) : sameB y x = true := by
  obtain ⟨h1, h2⟩ := sameB_iff.1 h
  exact sameB_iff.2 ⟨h1.symm, fun i u v hu hv => sameL_symm (h2 i v u hv hu)⟩

theorem same_lean (hb : WfB s b) (hc : WfB s c) (h : sameB (fillQ s b) (fillQ s c) = true) : cntB (leanB s b) = cntB (leanB s c) := by
  have one : ∀ {b c : Bnds} (hb : WfB s b) (hc : WfB s c) (h : sameB (fillQ s b) (fillQ s c) = true), cntB (leanB s b) ≤ cntB (leanB s c) := by
    intro b c hb hc h
    refine cnt_le (by rw [lean_len hb.len, lean_len hc.len]) fun j x y hx hy => ?_
    obtain ⟨p, hp⟩ := at_some (xs := s) (i := j) (by rw [← lean_len (fx := fixQ s b) hb.len]; exact lt_of_some hx)
    cases hsg : singleQ p with
    | true =>
      cases hg : x.given with
      | false =>
        rw [((hb.lean.single j p x hp hx hsg).2 hg).1]
        simp [cntL, zL]
      | true =>
        have hgy := same_lean1 hb hc h s.length j p x y (by omega) hp hsg hx hy hg
        rw [((hb.lean.single j p x hp hx hsg).1 hg).1, ((hc.lean.single j p y hp hy hsg).1 hgy).1]
        simp [cntL]
    | false =>
      have h1 := lean_other hb.len hp hsg hx
      have h2 := lean_other hc.len hp hsg hy
      have h3 := same_rest hb hc h hp h1 h2
      rw [fill_other hsg, fill_other hsg] at h3
      simp only [sameL, Bool.and_eq_true, decide_eq_true_eq] at h3
      have h4 := (isort_perm h3.2.2).length_eq
      unfold cntL
      rw [h3.2.1, h4]
      exact Nat.le_refl _
  have h1 := one hb hc h
  have h2 := one hc hb (sameB_symm h)
  omega

end

def sizeF (f : Flat) : Nat := f.places.length + f.named.length

structure LeanOf (s : Sig) (f g : Flat) (b : Bnds) : Prop where
  from_ : Given s f b
  to_ : Given s g (leanB s b)
  eq : g = unbQ s (leanB s b)

theorem lean_ok {s : Sig} {f : Flat} (h : (LeanF s f).2 = true) : LeanOf s f (LeanF s f).1 (boundQ s f).1 := by
  unfold LeanF at h ⊢
  split at h
  · rename_i hc
    rw [if_pos hc]
    simp only [Bool.and_eq_true] at hc
    obtain ⟨hs, hf⟩ := fitQ_iff.1 hc.1
    have G : Given s f (boundQ s f).1 := ⟨hs, hf, hc.2, rfl⟩
    unfold checkF at h ⊢
    split at h
    · rename_i hk
      rw [if_pos hk]
      simp only [Bool.true_and] at hk
      have hU := okFlat_iff.1 hk
      exact ⟨G, (G.wf.lean).valid hU.places hU.named, rfl⟩
    · cases h
  · cases h

section

variable {s : Sig} {f g : Flat} {b : Bnds}

theorem LeanOf.again (h : LeanOf s f g b) : LeanF s g = (g, true) := by
  have hw := h.from_.wf
  unfold LeanF
  rw [if_pos (by rw [fitQ_iff.2 ⟨h.to_.sig, h.to_.flat⟩, h.to_.acc]; rfl)]
  rw [← h.to_.eq]
  have : leanQ s (leanB s b) (decide (0 < (restB s (leanB s b)).length)) = leanB s b := hw.lean_again
  rw [this, ← h.eq]
  unfold checkF
  rw [okFlat_iff.2 h.to_.flat]; rfl

theorem LeanOf.size (h : LeanOf s f g b) : sizeF g ≤ sizeF f := by
  have h1 := h.from_.count
  have h2 := h.to_.count
  have h3 := h.from_.wf.lean_cnt
  unfold sizeF; omega

theorem sEff_iff {s : Sig} {f g : Flat} : SEff s f g = true ↔ ∃ b c, Given s f b ∧ Given s g c ∧ sameB (fillQ s b) (fillQ s c) = true := by
  constructor
  · intro h
    unfold SEff at h
    simp only [Bool.and_eq_true] at h
    obtain ⟨⟨h1, h2⟩, h3⟩ := h
    obtain ⟨a1, a2, a3, a4⟩ := bindQ_ok h1
    obtain ⟨b1, b2, b3, b4⟩ := bindQ_ok h2
    rw [a4, b4] at h3
    exact ⟨_, _, ⟨a1, a2, a3, rfl⟩, ⟨b1, b2, b3, rfl⟩, h3⟩
  · rintro ⟨b, c, h1, h2, h3⟩
    unfold SEff
    rw [h1.bind, h2.bind]
    simpa using h3

theorem LeanOf.effect (h : LeanOf s f g b) : SEff s f g = true :=
  sEff_iff.2 ⟨_, _, h.from_, h.to_, by rw [h.from_.wf.lean_fill]; exact sameB_self _⟩

theorem Given.inj {c : Bnds} (h : Given s f b) (g : Given s f c) : b = c := by rw [h.eq, g.eq]

/-- What has the same effect has zs many values at least. -/
theorem LeanOf.least (h : LeanOf s f g b) {f' : Flat} (he : SEff s f f' = true) : sizeF g ≤ sizeF f' ∧ ∀ g' b', LeanOf s f' g' b' → sizeF g = sizeF g' := by
  obtain ⟨b0, c, h1, h2, h3⟩ := sEff_iff.1 he
  obtain rfl := h1.inj h.from_
  have k := same_lean h1.wf h2.wf h3
  have k1 := h.to_.count
  have k2 := h2.count
  have k3 := h2.wf.lean_cnt
  refine ⟨by unfold sizeF; omega, fun g' b' h' => ?_⟩
  obtain rfl := h'.from_.inj h2
  have := h'.to_.count
  unfold sizeF; omega

theorem LeanOf.effect2 (h : LeanOf s f g b) {f' : Flat} (he : SEff s f f' = true) : SEff s g f' = true := by
  obtain ⟨b0, c, h1, h2, h3⟩ := sEff_iff.1 he
  obtain rfl := h1.inj h.from_
  exact sEff_iff.2 ⟨_, _, h.to_, h2, by rw [h1.wf.lean_fill]; exact h3⟩

end

theorem lawSize_ct (f : Flat) (h1 : f.places.length ≤ 1048576) (h2 : f.named.length ≤ 1048576) : ACalls pk 13 [.agg (eF f)] [] (fun r o => r = .one (.int .i64 ((f.places.length + f.named.length : Nat) : Int)) ∧ o = []) := by
  refine acalls_of_body Tryz.func13 rfl (by kernel_rfl) rfl ?_
  refine rn rfl ?_
  refine rn rfl (fin_is [] rfl ⟨?_, rfl⟩)
  rw [List.length_map, List.length_map, wrap64 (by omega) (by omega)]; simp

section

variable {s : Sig} {f : Flat} {b : Bnds}

theorem Given.effect {g : Flat} (h : Given s f b) (h' : Given s g b) : SEff s f g = true := by
  unfold SEff
  rw [h.bind, h'.bind]
  simp [sameB_self]

end

structure NamAt (s : Sig) (b : Bnds) (i : Nat) (F : Flat) (V : List Int) (X Y : List Pair) : Prop where
  places : F.places = V
  named : F.named = X ++ Y
  vlen : V.length ≤ i
  vals : ∀ (j : Nat) (x : Slot), j < V.length → b[j]? = some x → x.given = true ∧ V[j]? = some (hd0 x.list)
  vkind : ∀ (j : Nat) (p : Param), j < V.length → s[j]? = some p → p.kind = 0
  zero : ∀ (j : Nat) (p : Param) (x : Slot), j < i → s[j]? = some p → b[j]? = some x → p.kind = 0 → V.length ≤ j → x.given = false
  map : ∀ (j : Nat) (p : Param) (x : Slot), j < i → s[j]? = some p → b[j]? = some x → p.kind = 4 → Y = x.pairs
  map0 : (∀ (j : Nat) (p : Param), j < i → s[j]? = some p → p.kind ≠ 4) → Y = []
  mem : ∀ q : Pair, q ∈ X ↔ ∃ (j : Nat) (p : Param) (x : Slot), j < i ∧ s[j]? = some p ∧ b[j]? = some x ∧ x.given = true ∧ namedQ p = true ∧ q = ⟨p.name, hd0 x.list⟩
  nodup : (namesOf X).Nodup

section

variable {s : Sig} {f : Flat} {b : Bnds}

theorem Given.namAt (h : Given s f b) : ∀ i, i ≤ s.length → ∃ V X Y, NamAt s b i (((s.zip b).take i).foldl stN zF) V X Y
  | 0, _ => ⟨[], [], [], ⟨by simp [zF], by simp [zF], by simp, fun j x hj => by simp at hj, fun j p hj => by simp at hj, fun j p x hj => by omega, fun j p x hj => by omega, fun _ => rfl, fun q => by
      constructor
      · intro h0; simp at h0
      · rintro ⟨j, p, x, hj, _⟩; omega, by simp [namesOf]⟩⟩
  | i + 1, hi => by
    obtain ⟨V, X, Y, I⟩ := Given.namAt h i (by omega)
    obtain ⟨p, hp⟩ := at_some (xs := s) (i := i) (by omega)
    have hx := h.get hp
    have hsh := fun hsg => give_shape (s := s) (pl := f.places) (qs := f.named) (i := i) (p := p) hsg
    generalize hxe : giveQ s f.places f.named i p = x at hx hsh
    have hz : (s.zip b)[i]? = some (p, x) := List.getElem?_zip_eq_some.2 ⟨hp, hx⟩
    rw [foldl_take_succ _ _ hz]
    generalize ((s.zip b).take i).foldl stN zF = F at *
    have hkr := h.sig.kindRange (List.mem_of_getElem? hp)
    have upto : ∀ (j : Nat) (q : Param), j < i + 1 → s[j]? = some q → j < i ∨ (j = i ∧ q = p) := fun j q hj hq => by
      by_cases hji : j = i
      · subst hji; rw [hp] at hq; cases hq; exact .inr ⟨rfl, rfl⟩
      · exact .inl (by omega)
    have xat : ∀ (j : Nat) (y : Slot), j = i → b[j]? = some y → y = x := fun j y hj hy => by subst hj; rw [hx] at hy; cases hy; rfl
    have before : ∀ (j : Nat) (q : Param), j < i → s[j]? = some q → q.kind ≤ p.kind := fun j q hj hq => h.sig.sorted (i - j) j q p hq (by rw [show j + (i - j) = i by omega]; exact hp)
    have notin : ∀ q ∈ X, q.name ≠ p.name := fun q hq he => by
      obtain ⟨j, r, y, hj, hr, _, _, _, rfl⟩ := (I.mem q).1 hq
      have := name_inj h.sig hr hp he
      omega
    have memStay : (x.given = true → namedQ p = false) → ∀ q : Pair, q ∈ X ↔ ∃ (j : Nat) (p : Param) (x : Slot), j < i + 1 ∧ s[j]? = some p ∧ b[j]? = some x ∧ x.given = true ∧ namedQ p = true ∧ q = ⟨p.name, hd0 x.list⟩ := fun hno q => by
      rw [I.mem q]
      constructor
      · rintro ⟨j, r, y, hj, hr, hy, hg, hk, rfl⟩
        exact ⟨j, r, y, by omega, hr, hy, hg, hk, rfl⟩
      · rintro ⟨j, r, y, hj, hr, hy, hg, hk, rfl⟩
        rcases upto j r hj hr with hji | ⟨rfl, rfl⟩
        · exact ⟨j, r, y, hji, hr, hy, hg, hk, rfl⟩
        · exfalso
          have := xat j y rfl hy
          subst this
          rw [hno hg] at hk; cases hk
    have mapStay : p.kind ≠ 4 → ∀ (j : Nat) (q : Param) (y : Slot), j < i + 1 → s[j]? = some q → b[j]? = some y → q.kind = 4 → Y = y.pairs := fun hk4 j q y hj hq hy hk => by
      rcases upto j q hj hq with hji | ⟨rfl, rfl⟩
      · exact I.map j q y hji hq hy hk
      · exact absurd hk hk4
    have map0Stay : (∀ (j : Nat) (q : Param), j < i + 1 → s[j]? = some q → q.kind ≠ 4) → Y = [] := fun h0 => I.map0 fun j q hj hq => h0 j q (by omega) hq
    have zeroStay : p.kind ≠ 0 → ∀ (j : Nat) (q : Param) (y : Slot), j < i + 1 → s[j]? = some q → b[j]? = some y → q.kind = 0 → V.length ≤ j → y.given = false := fun hk0 j q y hj hq hy hk hv => by
      rcases upto j q hj hq with hji | ⟨rfl, rfl⟩
      · exact I.zero j q y hji hq hy hk hv
      · exact absurd hk hk0
    by_cases hk0 : p.kind = 0
    · have hs' : stN F (p, x) = ⟨F.places ++ x.list, F.named⟩ := by simp [stN, hk0]
      have hsg : singleQ p = true := single_kind.2 (.inl hk0)
      have hnn : namedQ p = false := by simp [namedQ, hk0]
      rw [hs']
      cases hg : x.given with
      | false =>
        have hxl : x.list = [] := by rw [(hsh hsg).2 hg]; rfl
        refine ⟨V, X, Y, ⟨by rw [hxl, List.append_nil]; exact I.places, I.named, by have := I.vlen; omega, I.vals, I.vkind, fun j q y hj hq hy hk hv => ?_, mapStay (by omega), map0Stay, memStay (fun _ => hnn), I.nodup⟩⟩
        rcases upto j q hj hq with hji | ⟨rfl, rfl⟩
        · exact I.zero j q y hji hq hy hk hv
        · rw [xat j y rfl hy]; exact hg
      | true =>
        have hxl : x.list = [hd0 x.list] := by
          have := (hsh hsg).1 hg
          rw [this]; rfl
        have hVi : V.length = i := by
          refine Classical.byContradiction fun hne => ?_
          have hlt : V.length < i := by have := I.vlen; omega
          obtain ⟨q, hq⟩ := at_some (xs := s) (i := V.length) (by omega)
          have hqk : q.kind = 0 := by
            have := before _ q hlt hq
            have := (h.sig.kindRange (List.mem_of_getElem? hq)).1
            omega
          have h1 := h.before hp hq hk0 hlt (by rw [hxe]; exact hg)
          have h2 := I.zero _ q _ hlt hq (h.get hq) hqk (Nat.le_refl _)
          rw [h1] at h2; cases h2
        refine ⟨V ++ [hd0 x.list], X, Y, ⟨by show F.places ++ x.list = _; rw [I.places, ← hxl], I.named, by simp; omega, fun j y hj hy => ?_, fun j q hj hq => ?_, fun j q y hj hq hy hk hv => ?_, mapStay (by omega), map0Stay, memStay (fun _ => hnn), I.nodup⟩⟩
        · simp only [List.length_append, List.length_cons, List.length_nil] at hj
          by_cases hjv : j < V.length
          · obtain ⟨a1, a2⟩ := I.vals j y hjv hy
            exact ⟨a1, by rw [List.getElem?_append_left hjv]; exact a2⟩
          · have hji : j = i := by omega
            have := xat j y hji hy
            subst this
            exact ⟨hg, by rw [List.getElem?_append_right (by omega)]; simp [hji, hVi]⟩
        · simp only [List.length_append, List.length_cons, List.length_nil] at hj
          by_cases hjv : j < V.length
          · exact I.vkind j q hjv hq
          · have hji : j = i := by omega
            subst hji; rw [hp] at hq; cases hq; exact hk0
        · simp only [List.length_append, List.length_cons, List.length_nil] at hv
          omega
    by_cases hk2 : p.kind = 2
    · have hs' : stN F (p, x) = F := by simp [stN, hk0, hk2]
      rw [hs']
      exact ⟨V, X, Y, ⟨I.places, I.named, by have := I.vlen; omega, I.vals, I.vkind, zeroStay hk0, mapStay (by omega), map0Stay, memStay (fun _ => by simp [namedQ, hk2]), I.nodup⟩⟩
    by_cases hk4 : p.kind = 4
    · have hY : Y = [] := I.map0 fun j q hj hq hk => by
        have := h.sig.one hq hp (by omega) (by simp [singleQ, placedQ, hk4]); omega
      have hs' : stN F (p, x) = ⟨F.places, F.named ++ x.pairs⟩ := by simp [stN, hk0, hk2, hk4]
      rw [hs']
      refine ⟨V, X, x.pairs, ⟨I.places, by show F.named ++ x.pairs = _; rw [I.named, hY, List.append_nil], by have := I.vlen; omega, I.vals, I.vkind, zeroStay hk0, fun j q y hj hq hy hk => ?_, fun h0 => absurd hk4 (h0 i p (by omega) hp), memStay (fun _ => by simp [namedQ, hk4]), I.nodup⟩⟩
      rcases upto j q hj hq with hji | ⟨rfl, rfl⟩
      · have := h.sig.one hq hp (by omega) (by simp [singleQ, placedQ, hk4]); omega
      · rw [xat j y rfl hy]
    have hn : namedQ p = true := named_kind.2 (by omega)
    cases hg : x.given with
    | false =>
      have hs' : stN F (p, x) = F := by simp [stN, hk0, hk2, hk4, hg]
      rw [hs']
      exact ⟨V, X, Y, ⟨I.places, I.named, by have := I.vlen; omega, I.vals, I.vkind, zeroStay hk0, mapStay hk4, map0Stay, memStay (fun h0 => by rw [hg] at h0; cases h0), I.nodup⟩⟩
    | true =>
      have hY : Y = [] := I.map0 fun j q hj hq hk => by
        have := before j q hj hq; omega
      have hs' : stN F (p, x) = ⟨F.places, F.named ++ [⟨p.name, hd0 x.list⟩]⟩ := by simp [stN, hk0, hk2, hk4, hg]
      rw [hs']
      refine ⟨V, X ++ [⟨p.name, hd0 x.list⟩], Y, ⟨I.places, by show F.named ++ [_] = _; rw [I.named, hY]; simp, by have := I.vlen; omega, I.vals, I.vkind, zeroStay hk0, mapStay hk4, map0Stay, fun q => ?_, ?_⟩⟩
      · rw [List.mem_append, List.mem_singleton, I.mem q]
        constructor
        · rintro (⟨j, r, y, hj, hr, hy, hgy, hk, rfl⟩ | rfl)
          · exact ⟨j, r, y, by omega, hr, hy, hgy, hk, rfl⟩
          · exact ⟨i, p, x, by omega, hp, hx, hg, hn, rfl⟩
        · rintro ⟨j, r, y, hj, hr, hy, hgy, hk, rfl⟩
          rcases upto j r hj hr with hji | ⟨rfl, rfl⟩
          · exact .inl ⟨j, r, y, hji, hr, hy, hgy, hk, rfl⟩
          · right; rw [xat j y rfl hy]
      · unfold namesOf
        rw [List.map_append, List.map_cons, List.map_nil]
        refine List.nodup_append.2 ⟨I.nodup, by simp, fun a ha c hc => ?_⟩
        simp only [List.mem_singleton] at hc
        obtain ⟨q, hq, rfl⟩ := List.mem_map.1 ha
        rw [hc]
        exact notin q hq

theorem Given.namedAgain (h : Given s f b) (hN : OkF (namQ s b)) (hR : ∀ (j : Nat) (p : Param) (x : Slot), s[j]? = some p → b[j]? = some x → p.kind = 2 → x.list = []) : Given s (namQ s b) b := by
  obtain ⟨V, X, Y, I⟩ := h.namAt s.length (Nat.le_refl _)
  rw [List.take_of_length_le (by simp [h.len])] at I
  have hI : NamAt s b s.length (namQ s b) V X Y := I
  clear I
  have hPl := placesQ_le s
  have hVl := hI.vlen
  have hV : V.length ≤ placesQ s := by
    refine Classical.byContradiction fun hc => ?_
    obtain ⟨q, hq⟩ := at_some (xs := s) (i := placesQ s) (by omega)
    have := hI.vkind _ q (by omega) hq
    have := (h.sig.placed_iff hq).1 (placed_kind.2 (.inl this))
    omega
  have xmem : ∀ q ∈ X, ∃ (j : Nat) (p : Param), s[j]? = some p ∧ namedQ p = true ∧ q.name = p.name := fun q hq => by
    obtain ⟨j, p, x, _, hp, hx, hg, hk, rfl⟩ := (hI.mem q).1 hq
    exact ⟨j, p, hp, hk, rfl⟩
  have ymem : ∀ q ∈ Y, ∃ (j : Nat) (p : Param), s[j]? = some p ∧ p.kind = 4 ∧ takesQ s q.name = (j : Int) := fun q hq => by
    by_cases h4 : ∃ (j : Nat) (p : Param), s[j]? = some p ∧ p.kind = 4
    · obtain ⟨j, p, hp, hk⟩ := h4
      have hY := hI.map j p _ (lt_of_some hp) hp (h.get hp) hk
      unfold giveQ at hY
      rw [if_pos hk] at hY
      simp only at hY
      rw [hY, List.mem_filter] at hq
      exact ⟨j, p, hp, hk, by simpa using hq.2⟩
    · have := hI.map0 fun j p _ hp hk => h4 ⟨j, p, hp, hk⟩
      rw [this] at hq; cases hq
  have hB : ∀ (i : Nat) (p : Param), s[i]? = some p → giveQ s (namQ s b).places (namQ s b).named i p = giveQ s f.places f.named i p := fun i p hp => by
    have hkr := h.sig.kindRange (List.mem_of_getElem? hp)
    by_cases hk4 : p.kind = 4
    · have hY := hI.map i p _ (lt_of_some hp) hp (h.get hp) hk4
      have e1 : ∀ qs pl, giveQ s pl qs i p = ⟨false, [], qs.filter fun q => takesQ s q.name == (i : Int)⟩ := fun qs pl => by unfold giveQ; rw [if_pos hk4]
      rw [e1] at hY
      simp only at hY
      rw [e1, e1, hI.named, List.filter_append]
      have hX : X.filter (fun q => takesQ s q.name == (i : Int)) = [] := by
        rw [List.filter_eq_nil_iff]
        intro q hq ht
        obtain ⟨j, r, hr, hn, hqn⟩ := xmem q hq
        have := takes_named h.sig hr hn
        rw [← hqn] at this
        simp only [beq_iff_eq] at ht
        have hij : i = j := by omega
        subst hij
        rw [hp] at hr; cases hr
        rw [named_kind] at hn; omega
      rw [hX, List.nil_append, hY, List.filter_filter]
      simp
    by_cases hk2 : p.kind = 2
    · have hR' := hR i p _ hp (h.get hp) hk2
      rw [give_rest hk2] at hR'
      simp only at hR'
      rw [give_rest hk2, give_rest hk2, hI.places, hR']
      congr 1
      exact List.drop_eq_nil_of_le (by omega)
    have hsg : singleQ p = true := single_kind.2 (by omega)
    have hsh := give_shape (s := s) (pl := f.places) (qs := f.named) (i := i) (p := p) hsg
    have hget := h.get hp
    generalize giveQ s f.places f.named i p = g at hsh hget ⊢
    rw [give_single hsg]
    by_cases hb : byPl (namQ s b).places i p = true
    · rw [if_pos hb]
      simp only [byPl, Bool.and_eq_true, decide_eq_true_eq] at hb
      have hiV : i < V.length := by rw [hI.places] at hb; exact hb.2
      obtain ⟨a1, a2⟩ := hI.vals i g hiV hget
      rw [hsh.1 a1]
      have : (namQ s b).places.getD i 0 = hd0 g.list := by
        rw [List.getD_eq_getElem?_getD, hI.places, a2]; rfl
      rw [this]
    · rw [if_neg hb]
      cases hn : namedQ p with
      | true =>
        rw [if_pos rfl]
        cases hg : g.given with
        | true =>
          have hm : (⟨p.name, hd0 g.list⟩ : Pair) ∈ X := (hI.mem _).2 ⟨i, p, g, lt_of_some hp, hp, hget, hg, hn, rfl⟩
          have hf := find_uniq (qs := (namQ s b).named) (q := ⟨p.name, hd0 g.list⟩) hN.nodup (by rw [hI.named]; exact List.mem_append_left _ hm)
          simp only at hf
          rw [hf]
          exact (hsh.1 hg).symm
        | false =>
          rw [hsh.2 hg]
          have : (namQ s b).named.find? (nameIs p.name) = none := by
            rw [List.find?_eq_none]
            intro q hq hqn
            simp only [nameIs, beq_iff_eq] at hqn
            rw [hI.named] at hq
            rcases List.mem_append.1 hq with hq | hq
            · obtain ⟨j, r, x, _, hr, hx, hgx, _, rfl⟩ := (hI.mem q).1 hq
              have hji := name_inj h.sig hr hp hqn
              subst hji
              rw [hget] at hx; cases hx
              rw [hg] at hgx; cases hgx
            · obtain ⟨j, r, hr, hk, ht⟩ := ymem q hq
              have := takes_named h.sig hp hn
              rw [← hqn, ht] at this
              have hji : j = i := by omega
              subst hji
              rw [hp] at hr; cases hr
              exact hk4 hk
          rw [this]
      | false =>
        rw [if_neg (by simp)]
        have hk0 : p.kind = 0 := by
          have : ¬ (p.kind = 1 ∨ p.kind = 3) := fun h0 => by rw [named_kind.2 h0] at hn; cases hn
          rw [single_kind] at hsg; omega
        have hVi : V.length ≤ i := Nat.le_of_not_lt fun h0 => hb (by
          simp only [byPl, Bool.and_eq_true, decide_eq_true_eq, hI.places]
          exact ⟨placed_kind.2 (.inl hk0), h0⟩)
        exact (hsh.2 (hI.zero i p g (lt_of_some hp) hp hget hk0 hVi)).symm
  have hacc : accQ s (namQ s b) = true := by
    have hf3 := ((acc_iff h.sig h.flat).1 h.acc).2.2
    refine (acc_iff h.sig hN).2 ⟨fun hlt => by rw [hI.places] at hlt; omega, fun q hq => ?_, ?_⟩
    · rw [wrong_iff2 h.sig]
      rw [hI.named] at hq
      rcases List.mem_append.1 hq with hq | hq
      · obtain ⟨j, p, hp, hn, hqn⟩ := xmem q hq
        refine ⟨.inl ⟨j, p, hp, hn, hqn.symm⟩, fun i r hr hrn hre => ?_⟩
        have hij := name_inj h.sig hr hp (by rw [hre, hqn])
        subst hij
        rw [hp] at hr; cases hr
        unfold byPl
        cases hpl : placedQ p with
        | false => rfl
        | true =>
          simp only [Bool.true_and, decide_eq_false_iff_not, hI.places]
          intro hi
          have := hI.vkind i p hi hp
          rw [named_kind] at hn; omega
      · obtain ⟨j, r, hr, hk, ht⟩ := ymem q hq
        refine ⟨.inr ⟨r, List.mem_of_getElem? hr, hk⟩, fun i p hp hn he => ?_⟩
        have := takes_named h.sig hp hn
        rw [he, ht] at this
        have hji : j = i := by omega
        subst hji
        rw [hp] at hr; cases hr
        rw [named_kind] at hn; omega
    · have : s.mapIdx (giveQ s (namQ s b).places (namQ s b).named) = s.mapIdx (giveQ s f.places f.named) := by
        apply List.ext_getElem?
        intro i
        rw [List.getElem?_mapIdx, List.getElem?_mapIdx]
        cases hp : s[i]? with
        | none => rfl
        | some p => simp only [Option.map_some, hB i p hp]
      rw [this]; exact hf3
  refine ⟨h.sig, hN, hacc, ?_⟩
  rw [bound_closed h.sig hN.nodup]
  apply List.ext_getElem?
  intro i
  simp only [closedQ, List.getElem?_mapIdx]
  cases hp : s[i]? with
  | none =>
    have : s.length ≤ i := by rw [List.getElem?_eq_none_iff] at hp; exact hp
    rw [List.getElem?_eq_none (by rw [h.len]; exact this)]; rfl
  | some p => simp only [Option.map_some, hB i p hp, h.get hp]

theorem Given.more (h : Given s f b) : f.places.length ≤ (unbQ s b).places.length := by
  obtain ⟨op, V, R, X, Y, I⟩ := h.unb
  rw [I.places, List.length_append]
  have hV : V.length ≤ placesQ s := by have := I.vlen; omega
  by_cases hlt : V.length < placesQ s
  · have := (h.gap I hlt).1; omega
  · by_cases h2 : ∃ (j : Nat) (p : Param), s[j]? = some p ∧ p.kind = 2
    · obtain ⟨j, p, hp, hk⟩ := h2
      have hR := I.rest j p _ (lt_of_some hp) hp (h.get hp) hk
      rw [give_rest hk] at hR
      have : R.length = f.places.length - placesQ s := by rw [hR]; simp
      omega
    · have h1 := ((acc_iff h.sig h.flat).1 h.acc).1
      have : ¬ placesQ s < f.places.length := fun h0 => by
        obtain ⟨p, hp, hk⟩ := List.any_eq_true.1 (h1 h0)
        obtain ⟨j, hj⟩ := List.getElem?_of_mem hp
        exact h2 ⟨j, p, hj, by simpa [kIs] using hk⟩
      omega

/-- The call with the most names has the same canonical call. -/
theorem Given.ofNamed (h : Given s f b) (hok : (NamF s f).2 = true) : Given s (NamF s f).1 b := by
  have hb := h.eq
  unfold NamF at hok ⊢
  rw [← hb] at hok ⊢
  split at hok
  · rename_i h1
    rw [if_pos h1]
    split at hok
    · rename_i h2
      rw [if_pos h2]
      exact h.again
    · rename_i h2
      rw [if_neg h2]
      unfold checkF at hok ⊢
      split at hok
      · rename_i h3
        rw [if_pos h3]
        simp only [Bool.true_and] at h3
        refine h.namedAgain (okFlat_iff.1 h3) fun j p x hp hx hk => ?_
        have hidx : 0 ≤ idxI (kIs 2) s 0 := idxI_ge.2 (List.any_eq_true.2 ⟨p, List.mem_of_getElem? hp, by simp [kIs, hk]⟩)
        obtain ⟨y, hy, hr, _⟩ := restB_at (b := b) h.len hidx
        obtain ⟨q, _, hq, hqk, _⟩ := idxI_find hidx
        have hqk' : q.kind = 2 := by simpa [kIs] using hqk
        have := h.sig.one hp hq (by omega) (by simp [singleQ, placedQ, hqk'])
        rw [this, hy] at hx
        cases hx
        rw [hr] at h2
        exact List.eq_nil_of_length_eq_zero (by omega)
      · cases hok
  · cases hok

end

theorem named_ok {s : Sig} {f : Flat} (h : (NamF s f).2 = true) : Given s f (boundQ s f).1 := by
  unfold NamF at h
  split at h
  · rename_i h1
    simp only [Bool.and_eq_true] at h1
    obtain ⟨o1, o2⟩ := fitQ_iff.1 h1.1
    exact ⟨o1, o2, h1.2, rfl⟩
  · cases h

theorem nam_lenF (s : Sig) (f : Flat) : LenF (NamF s f).1 := by
  cases h : (NamF s f).2 with
  | true => exact ((named_ok h).ofNamed h).flat.len
  | false =>
    have : (NamF s f).1 = zF := by
      unfold NamF at h ⊢
      split at h
      · rename_i h1
        rw [if_pos h1]
        split at h
        · cases h
        · rename_i h2
          rw [if_neg h2]
          unfold checkF at h ⊢
          split at h
          · cases h
          · rename_i h3; rw [if_neg h3]
      · rename_i h1; rw [if_neg h1]
    rw [this]
    exact ⟨by simp [zF], by simp [zF], by simp [zF]⟩

theorem bound_nd {s : Sig} {f : Flat} (hs : OkS s) (hf : OkF f) : NdB (boundQ s f).1 := by
  obtain ⟨c1, c2⟩ := bound_small hs hf
  refine ⟨by omega, fun x hx => ⟨by have := (c2 x hx).1; omega, by have := (c2 x hx).2; omega⟩, fun x hx => ?_⟩
  obtain ⟨i, hi⟩ := List.getElem?_of_mem hx
  obtain ⟨p, hp⟩ := at_some (xs := s) (i := i) (by have := lt_of_some hi; rw [boundQ_len] at this; exact this)
  rw [bound_at hs hf hp hi]
  unfold giveQ
  split
  · exact hf.nodup.sublist (List.filter_sublist.map _)
  · split
    · split <;> simp [zL, namesOf]
    · unfold place1
      split
      · simp [namesOf]
      · split <;> simp [zL, namesOf]

theorem mid_at {α : Type} {A D : List α} {x : α} {i : Nat} (h : i = A.length) : (A ++ x :: D)[i]? = some x := by subst h; simp

theorem mid_set {α : Type} {A D : List α} {x y : α} {i : Nat} (h : i = A.length) : (A ++ x :: D).set i y = A ++ y :: D := by subst h; simp

theorem patch1 (x : Slot) : patch (eL x) (0 + 1) [C.fs (x.list.map eI)] = eL x := rfl

theorem patch2 (x : Slot) : patch (eL x) (0 + 2) [C.fs (x.pairs.map eP)] = eL x := rfl

theorem sfill_ct (s : Sig) (b : Bnds) (hlen : b.length = s.length) (few : s.length ≤ 8) (hsz : ∀ x ∈ b, x.list.length ≤ 1048576 ∧ x.pairs.length ≤ 1048576) :
    ACalls pk 52 [.agg (eG s), .agg (eBi b)] [] (fun r o => r = .agg (eBi (fillQ s b)) ∧ o = []) := by
  have hfl := fillQ_len hlen
  refine acalls_of_body Tryz.func52 rfl (by kernel_rfl) rfl ?_
  refine rn rfl ?_
  refine goal_did rfl rfl (dA_append (old := []) (rows := (b : List Slot).map eL) ((b : List Slot).map eL) (b.length) true (Dst.own rfl rfl rfl rfl rfl (Nat.le_refl 0) rfl) (Src.fs rfl) rfl rfl rfl rfl rfl rfl rfl rfl (by simp) (rows_len eL_len _) (by (try simp only [List.length_map, List.length_append, List.length_cons, List.length_nil, List.length_take, List.length_drop]); show _ * 56 ≤ _; omega) (by first | (simp; done) | (simp; omega)) (by simp) (by first | (simp; done) | (simp; omega)) (fun _ => noOwnR_map _ eL_noOwn _)) ?_
  refine rn rfl ?_
  refine rn rfl ?_
  refine goal_loop_keep (fun m σ => ∃ (q : Int) (i : Nat) (R : Bnds), q = i ∧ i ≤ b.length ∧ m = b.length - i ∧ R = (fillQ s b).take i ++ b.drop i ∧
      σ = ⟨[(6, .one (.int .i64 q)), (5, .one (.op 4 0 0)), (4, .one (.op 2 0 0)), (3, .one (.op 1 0 0)), (2, .one (.op 0 0 0))],
        [some ⟨1, [eG s], false, false, true⟩, some ⟨1, [eBi b], false, false, true⟩, some ⟨1, [[.fs []]], false, false, true⟩, ownL R, some ⟨1, [[.os 3 0 b.length b.length]], false, false, true⟩], []⟩) b.length [6, 5, 4, 3, 2] [0, 1, 2, 4, 5] rfl
    ⟨_, 0, b, rfl, by omega, by omega, by simp, rfl⟩ ?_
  rintro m σ ⟨q, i, R, rfl, hi, rfl, hR, rfl⟩
  have hRl : R.length = b.length := by rw [hR]; simp [hfl]; omega
  refine rn rfl ?_
  refine goal_cond rfl (fun h => ?_) (fun h => ?_) <;> (try simp only [gt_iff_lt, ge_iff_le, bne_iff_ne, ne_eq, bne_eq_false_iff_eq, beq_iff_eq, beq_eq_false_iff_ne, Bool.not_eq_true', Bool.not_eq_false', decide_eq_true_eq, decide_eq_false_iff_not, List.length_map] at h)
  · obtain ⟨x, hx⟩ := at_some (xs := b) (i := i) (by omega)
    obtain ⟨p, hp⟩ := at_some (xs := s) (i := i) (by omega)
    obtain ⟨l1, l2⟩ := hsz x (List.mem_of_getElem? hx)
    have hfa := fillQ_at hp hx
    have hA : i = ((fillQ s b).take i).length := by rw [List.length_take, hfl]; omega
    have hnx := take_snoc hfa
    have hRe : R = (fillQ s b).take i ++ x :: b.drop (i + 1) := by rw [hR, drop_at hx]
    have hRx : R[i]? = some x := by rw [hRe]; exact mid_at hA
    have hrow : (R.map eL)[i]? = some (eL x) := by rw [List.getElem?_map, hRx]; rfl
    have hnext : ∀ y, fill1 p x = y → R.set i y = (fillQ s b).take (i + 1) ++ b.drop (i + 1) := fun y hy => by
      rw [hRe, mid_set hA, ← hnx, hy]; simp
    refine rn rfl ?_
    refine goal_draw' [1, 4] 14 rfl ?_
    refine drn [0, 1, 2, 4, 5, 6] (by kernel_rfl) (by kernel_rfl) rfl rfl ?_
    refine AH_did 7 rfl (by kernel_rfl) (by kernel_rfl) (by kernel_rfl) rfl rfl (dA_index (eL x) rfl rfl rfl rfl rfl rfl rfl (by omega) (by (try simp); omega) (map_at (by simpa using hx)) rfl) ?_
    refine drn [8, 9] (by kernel_rfl) (by kernel_rfl) rfl rfl ?_
    refine AH_oneDid 3 rfl (by kernel_rfl) rfl (dA_step rfl) (mdOk rfl) ?_
    refine AH_oneDid 10 rfl (by kernel_rfl) rfl (dA_append (old := []) (rows := (x.list : List Int).map eI) ((x.list : List Int).map eI) (x.list.length) true (Dst.own rfl rfl rfl rfl rfl (Nat.le_refl 0) rfl) (Src.fs rfl) rfl rfl rfl rfl rfl rfl rfl rfl (by simp) (rows_len eI_len _) (by (try simp only [List.length_map, List.length_append, List.length_cons, List.length_nil, List.length_take, List.length_drop]); show _ * 8 ≤ _; omega) (by first | (simp; done) | (simp; omega)) (by simp) (by first | (simp; done) | (simp; omega)) (fun _ => noOwnR_map _ eI_noOwn _)) (mdOk rfl) ?_
    refine AH_data 29 [6] (y := .one (.fs (x.list.map eI))) rfl rfl (congrArg (fun x => T.one (C.fs x)) (takeAll eI _ _ rfl)) ?_
    refine AH_did 11 rfl (by kernel_rfl) (by kernel_rfl) (by kernel_rfl) rfl rfl (dA_indexOwn rfl rfl rfl rfl rfl rfl rfl rfl rfl (by omega) (by (try simp); omega)) ?_
    refine drn [12] (by kernel_rfl) (by kernel_rfl) rfl rfl ?_
    refine AH_oneDid 13 rfl (by kernel_rfl) rfl (dA_storeEl (eL x) (R.map eL) true rfl rfl rfl rfl rfl (by simpa using hrow) rfl rfl (by simp [eL]) (by rw [show 0 + (i : Int).toNat = i by simp, patch1, set_same hrow]) (fun _ => noOwnR_map _ eL_noOwn _)) (mdOk rfl) ?_
    refine AH_end (by kernel_rfl) ?_
    refine rn rfl ?_
    refine rn rfl ?_
    refine goal_draw' [1, 4] 14 rfl ?_
    refine drn [0, 1, 2, 4, 5, 6] (by kernel_rfl) (by kernel_rfl) rfl rfl ?_
    refine AH_did 7 rfl (by kernel_rfl) (by kernel_rfl) (by kernel_rfl) rfl rfl (dA_index (eL x) rfl rfl rfl rfl rfl rfl rfl (by omega) (by (try simp); omega) (map_at (by simpa using hx)) rfl) ?_
    refine drn [8, 9] (by kernel_rfl) (by kernel_rfl) rfl rfl ?_
    refine AH_oneDid 3 rfl (by kernel_rfl) rfl (dA_step rfl) (mdOk rfl) ?_
    refine AH_oneDid 10 rfl (by kernel_rfl) rfl (dA_append (old := []) (rows := (x.pairs : List Pair).map eP) ((x.pairs : List Pair).map eP) (x.pairs.length) true (Dst.own rfl rfl rfl rfl rfl (Nat.le_refl 0) rfl) (Src.fs rfl) rfl rfl rfl rfl rfl rfl rfl rfl (by simp) (rows_len eP_len _) (by (try simp only [List.length_map, List.length_append, List.length_cons, List.length_nil, List.length_take, List.length_drop]); show _ * 24 ≤ _; omega) (by first | (simp; done) | (simp; omega)) (by simp) (by first | (simp; done) | (simp; omega)) (fun _ => noOwnR_map _ eP_noOwn _)) (mdOk rfl) ?_
    refine AH_data 42 [8] (y := .one (.fs (x.pairs.map eP))) rfl rfl (congrArg (fun x => T.one (C.fs x)) (takeAll eP _ _ rfl)) ?_
    refine AH_did 11 rfl (by kernel_rfl) (by kernel_rfl) (by kernel_rfl) rfl rfl (dA_indexOwn rfl rfl rfl rfl rfl rfl rfl rfl rfl (by omega) (by (try simp); omega)) ?_
    refine drn [12] (by kernel_rfl) (by kernel_rfl) rfl rfl ?_
    refine AH_oneDid 13 rfl (by kernel_rfl) rfl (dA_storeEl (eL x) (R.map eL) true rfl rfl rfl rfl rfl (by simpa using hrow) rfl rfl (by simp [eL]) (by rw [show 0 + (i : Int).toNat = i by simp, patch2, set_same hrow]) (fun _ => noOwnR_map _ eL_noOwn _)) (mdOk rfl) ?_
    refine AH_end (by kernel_rfl) ?_
    refine rn rfl ?_
    refine rn rfl ?_
    refine goal_did rfl rfl (dA_index (eQ p) rfl rfl rfl rfl rfl rfl rfl (by omega) (by (try simp); omega) (map_at (by simpa using hp)) rfl) ?_
    refine rn rfl ?_
    refine goal_step (step_call [] rfl rfl rfl rfl rfl rfl (ssingle_ct p)) ?_
    rintro σ2 ⟨r, o', ⟨rfl, rfl⟩, hσ⟩
    obtain rfl := Option.some.inj hσ
    clear hσ
    refine rn rfl ?_
    refine goal_guard rfl rfl rfl (fun h1 => ?_) (fun h1 => ?_) <;> (try simp only [gt_iff_lt, ge_iff_le, bne_iff_ne, ne_eq, bne_eq_false_iff_eq, beq_iff_eq, beq_eq_false_iff_ne, Bool.not_eq_true', Bool.not_eq_false', decide_eq_true_eq, decide_eq_false_iff_not, List.length_map] at h1)
    · refine rn rfl ?_
      refine goal_did rfl rfl (dA_indexOwn rfl rfl rfl rfl rfl rfl rfl rfl rfl (by omega) (by (try simp); omega)) ?_
      refine goal_did rfl rfl (dA_step rfl) ?_
      refine goal_did rfl rfl (dA_loadEl (eL x) rfl rfl rfl rfl (map_at (by simpa using hRx)) rfl rfl rfl) ?_
      refine rn rfl ?_
      refine goal_cond rfl (fun h2 => ?_) (fun h2 => ?_) <;> (try simp only [gt_iff_lt, ge_iff_le, bne_iff_ne, ne_eq, bne_eq_false_iff_eq, beq_iff_eq, beq_eq_false_iff_ne, Bool.not_eq_true', Bool.not_eq_false', decide_eq_true_eq, decide_eq_false_iff_not, List.length_map] at h2)
      · have hf1 : fill1 p x = ⟨true, [p.dflt], []⟩ := by simp [fill1, h1, h2]
        have hn := hnext _ hf1
        refine rn rfl ?_
        refine goal_draw' [0, 4] 13 rfl ?_
        refine drn [0, 1, 2, 3, 4, 5] (by kernel_rfl) (by kernel_rfl) rfl rfl ?_
        refine AH_did 6 rfl (by kernel_rfl) (by kernel_rfl) (by kernel_rfl) rfl rfl (dA_index (eQ p) rfl rfl rfl rfl rfl rfl rfl (by omega) (by (try simp); omega) (map_at (by simpa using hp)) rfl) ?_
        refine drn [7, 8] (by kernel_rfl) (by kernel_rfl) rfl rfl ?_
        refine AH_oneDid 9 rfl (by kernel_rfl) rfl (dA_step rfl) (mdOk rfl) ?_
        refine drn [10] (by kernel_rfl) (by kernel_rfl) rfl rfl ?_
        refine AH_data 70 [9] (y := .agg (eL ⟨true, [p.dflt], []⟩)) rfl rfl rfl ?_
        refine AH_did 11 rfl (by kernel_rfl) (by kernel_rfl) (by kernel_rfl) rfl rfl (dA_indexOwn rfl rfl rfl rfl rfl rfl rfl rfl rfl (by omega) (by (try simp); omega)) ?_
        refine AH_oneDid 12 rfl (by kernel_rfl) rfl (dA_storeEl (eL x) ((R.set i ⟨true, [p.dflt], []⟩).map eL) true rfl rfl rfl rfl rfl (by simpa using hrow) rfl rfl (by simp [eL]) (by rw [show 0 + (i : Int).toNat = i by simp, map_set]; rfl) (fun _ => noOwnR_map _ eL_noOwn _)) (mdOk rfl) ?_
        refine AH_end (by kernel_rfl) ?_
        refine rn rfl ?_
        refine rn rfl ?_
        rw [hn]
        refine round_keep (b.length - (i + 1)) [6, 5, 4, 3, 2] [0, 1, 2, 3, 4] (by omega) rfl ⟨_, i + 1, _, wrap64 (by omega) (by omega), by omega, rfl, rfl, rfl⟩
      · have hf1 : fill1 p x = x := by simp [fill1, h2]
        have hn := hnext _ hf1
        rw [set_same hRx] at hn
        refine rn rfl ?_
        refine round_keep (b.length - (i + 1)) [6, 5, 4, 3, 2] [0, 1, 2, 3, 4] (by omega) rfl ⟨_, i + 1, R, wrap64 (by omega) (by omega), by omega, rfl, hn, rfl⟩
    · have hf1 : fill1 p x = x := by simp [fill1, h1]
      have hn := hnext _ hf1
      rw [set_same hRx] at hn
      refine rn rfl ?_
      refine round_keep (b.length - (i + 1)) [6, 5, 4, 3, 2] [0, 1, 2, 3, 4] (by omega) rfl ⟨_, i + 1, R, wrap64 (by omega) (by omega), by omega, rfl, hn, rfl⟩
  · refine rn rfl (round_ext ?_)
    have hfin : R = fillQ s b := by
      rw [hR, List.take_of_length_le (by omega), List.drop_eq_nil_of_le (by omega), List.append_nil]
    refine rn rfl (fin_is [] rfl ⟨?_, rfl⟩)
    rw [hfin, takeAll eL _ _ (by rw [hfl, hlen])]; rfl

theorem fillQ_nd {s : Sig} {b : Bnds} (hlen : b.length = s.length) (h : NdB b) : NdB (fillQ s b) := by
  have key : ∀ x ∈ fillQ s b, x.list.length ≤ 1048576 ∧ x.pairs.length ≤ 1048576 ∧ (namesOf x.pairs).Nodup := by
    intro x hx
    unfold fillQ at hx
    obtain ⟨i, hi⟩ := List.getElem?_of_mem hx
    rw [List.getElem?_zipWith] at hi
    cases hp : s[i]? with
    | none => rw [hp] at hi; simp at hi
    | some p =>
      cases hy : b[i]? with
      | none => rw [hp, hy] at hi; simp at hi
      | some y =>
        rw [hp, hy] at hi
        simp only [Option.some.injEq] at hi
        have hm := List.mem_of_getElem? hy
        rw [← hi]
        unfold fill1
        split
        · simp [namesOf]
        · exact ⟨(h.size y hm).1, (h.size y hm).2, h.nodup y hm⟩
  refine ⟨?_, fun x hx => ⟨(key x hx).1, (key x hx).2.1⟩, fun x hx => (key x hx).2.2⟩
  rw [fillQ_len hlen, ← hlen]; exact h.len

theorem ssameEffect_ct (s : Sig) (f g : Flat) (hs : LenS s) (hf : LenF f) (hg : LenF g) : ACalls pk 15 [.agg (eG s), .agg (eF f), .agg (eF g)] [] (fun r o => r = .one (.bool (SEff s f g)) ∧ o = []) := by
  have hA := sBind_ct s f hs hf
  have hB := sBind_ct s g hs hg
  refine acalls_of_body Tryz.func15 rfl (by kernel_rfl) rfl ?_
  refine rn rfl ?_
  refine goal_step (step_call [] rfl rfl rfl rfl rfl rfl (hA)) ?_
  rintro σ2 ⟨r, o', ⟨rfl, rfl⟩, hσ⟩
  obtain rfl := Option.some.inj hσ
  clear hσ
  refine rn rfl ?_
  refine rn rfl ?_
  refine goal_step (step_call [] rfl rfl rfl rfl rfl rfl (hB)) ?_
  rintro σ2 ⟨r, o', ⟨rfl, rfl⟩, hσ⟩
  obtain rfl := Option.some.inj hσ
  clear hσ
  refine rn rfl ?_
  refine goal_draw' [0, 3, 4] 14 rfl ?_
  refine drn [0, 1] (by kernel_rfl) (by kernel_rfl) rfl rfl ?_
  refine AH_guard (i := 2) rfl rfl rfl (fun h1 => ?_) (fun h1 => ?_) <;> (try simp only [gt_iff_lt, ge_iff_le, bne_iff_ne, ne_eq, bne_eq_false_iff_eq, beq_iff_eq, beq_eq_false_iff_ne, Bool.not_eq_true', Bool.not_eq_false', decide_eq_true_eq, decide_eq_false_iff_not, List.length_map] at h1)
  · refine drn [2, 3, 4] (by kernel_rfl) (by kernel_rfl) rfl rfl ?_
    refine AH_guard (i := 5) rfl rfl rfl (fun h2 => ?_) (fun h2 => ?_) <;> (try simp only [gt_iff_lt, ge_iff_le, bne_iff_ne, ne_eq, bne_eq_false_iff_eq, beq_iff_eq, beq_eq_false_iff_ne, Bool.not_eq_true', Bool.not_eq_false', decide_eq_true_eq, decide_eq_false_iff_not, List.length_map] at h2)
    · have e1 : (BindQ s f).2 = true := h1
      have e2 : (BindQ s g).2 = true := h2
      obtain ⟨s1, f1, _, eqf⟩ := bindQ_ok e1
      obtain ⟨_, g1, _, eqg⟩ := bindQ_ok e2
      have n1 := bound_nd s1 f1
      have n2 := bound_nd s1 g1
      have hl1 := boundQ_len s f
      have hl2 := boundQ_len s g
      have hsl := s1.len
      have hz : SEff s f g = sameB (fillQ s (boundQ s f).1) (fillQ s (boundQ s g).1) := by unfold SEff; rw [eqf, eqg]; simp
      have hF1 := sfill_ct s (boundQ s f).1 hl1 hsl n1.size
      have hF2 := sfill_ct s (boundQ s g).1 hl2 hsl n2.size
      have hSm := ssameB_ct (fillQ s (boundQ s f).1) (fillQ s (boundQ s g).1) (fillQ_nd hl1 n1) (fillQ_nd hl2 n2)
      rw [hz, eqf, eqg]
      refine drn [5, 6, 8, 9] (by kernel_rfl) (by kernel_rfl) rfl rfl ?_
      refine AH_one (i := 7) (by kernel_rfl) (step_call [] rfl rfl rfl rfl rfl rfl (hF1)) (by simp) ?_
      rintro σ2 ⟨r, o', ⟨rfl, rfl⟩, hσ⟩
      obtain rfl := Option.some.inj hσ
      clear hσ
      refine AH_one (i := 10) (by kernel_rfl) (step_call [] rfl rfl rfl rfl rfl rfl (hF2)) (by simp) ?_
      rintro σ2 ⟨r, o', ⟨rfl, rfl⟩, hσ⟩
      obtain rfl := Option.some.inj hσ
      clear hσ
      refine AH_one (i := 11) (by kernel_rfl) (step_call [] rfl rfl rfl rfl rfl rfl (hSm)) (by simp) ?_
      rintro σ2 ⟨r, o', ⟨rfl, rfl⟩, hσ⟩
      obtain rfl := Option.some.inj hσ
      clear hσ
      refine drn [12, 13] (by kernel_rfl) (by kernel_rfl) rfl rfl ?_
      refine AH_end (by kernel_rfl) ?_
      refine rn rfl ?_
      exact rn rfl (fin_is [] rfl ⟨rfl, rfl⟩)
    · refine drn [5, 6, 7, 8, 9, 10, 11, 12, 13] (by kernel_rfl) (by kernel_rfl) rfl rfl ?_
      refine AH_end (by kernel_rfl) ?_
      refine rn rfl ?_
      refine rn rfl (fin_is [] rfl ⟨?_, rfl⟩)
      simp [SEff, h2]
  · refine drn [2, 3, 4, 5, 6, 7, 8, 9, 10, 11, 12, 13] (by kernel_rfl) (by kernel_rfl) rfl rfl ?_
    refine AH_end (by kernel_rfl) ?_
    refine rn rfl ?_
    refine rn rfl (fin_is [] rfl ⟨?_, rfl⟩)
    simp [SEff, h1]

theorem leanF_lenF (s : Sig) (f : Flat) : LenF (LeanF s f).1 := by
  cases h : (LeanF s f).2 with
  | true => exact (lean_ok h).to_.flat.len
  | false =>
    have : (LeanF s f).1 = zF := by
      unfold LeanF checkF at h ⊢
      split at h
      · rename_i h1
        rw [if_pos h1]
        split at h
        · cases h
        · rename_i h3; rw [if_neg h3]
      · rename_i h1; rw [if_neg h1]
    rw [this]
    exact ⟨by simp [zF], by simp [zF], by simp [zF]⟩

theorem drawSame_ct (bs : Str) : ACalls pk 14 [.one (.fs (bs.map rowB))] [] (fun r o => ∃ s f g, SmallS s ∧ MidF f 24 9 ∧ LenF g ∧ r = .tup [.agg (eG s), .agg (eF f), .agg (eF g)] ∧ o = []) := by
  have hb : (bs.take 2000).length ≤ 2000 := by simp; omega
  refine acalls_of_body Tryz.func14 rfl (by kernel_rfl) rfl ?_
  refine rn rfl ?_
  refine goal_step (step_call [] rfl rfl rfl rfl rfl rfl (newReader_ct bs)) ?_
  rintro σ2 ⟨r, o', ⟨rfl, rfl⟩, hσ⟩
  obtain rfl := Option.some.inj hσ
  clear hσ
  refine rn rfl ?_
  refine goal_step (step_callE [3] rfl rfl rfl rfl rfl rfl rfl (signatureCall_ct (bs.take 2000) 0 hb (by omega) (by omega))) ?_
  rintro σ2 ⟨r, o', ⟨s, f, k1, hs, hf, hk1, hk2, rfl, rfl⟩, hσ⟩
  obtain rfl := Option.some.inj hσ
  clear hσ
  have ls := hs.lens
  have lf := hf.lens
  have hsl := hs.len
  have hL := slean_ctF s f ls lf
  have lL := leanF_lenF s f
  have hN := snamed_ctF s f ls lf
  have lN := nam_lenF s f
  generalize (LeanF s f).1 = L at *
  generalize (NamF s f).1 = M at *
  refine rn rfl ?_
  refine goal_step (step_callE [3] rfl rfl rfl rfl rfl rfl (rfl) (pick_ct (bs.take 2000) k1 3 hb (by omega) (by omega) (by omega))) ?_
  rintro σ2 ⟨r, o', ⟨⟨z, rfl, _, _⟩, rfl⟩, hσ⟩
  obtain rfl := Option.some.inj hσ
  clear hσ
  refine rn rfl ?_
  refine rt 12 rfl ?_
  refine goal_cutR (fun σ' => σ' = ⟨[(7, .one (.op 5 0 0)), (6, .one (.op 4 0 0)), (5, .one (.op 3 0 0)), (4, .one (.op 2 0 0)), (3, .one (.op 1 0 0)), (2, .one (.op 0 0 0))],
      [some ⟨1, [[.fs []]], false, false, true⟩, some ⟨2, [[.fs [], .fs []]], false, false, true⟩, some ⟨2, [[.fs [], .fs []]], false, false, true⟩, oR (bs.take 2000) (k1 + 1), some ⟨1, [eG s], false, false, true⟩, some ⟨2, [eF f], false, false, true⟩], []⟩) ?_ ?_
  · refine rn rfl ?_
    refine goal_cond rfl (fun h1 => ?_) (fun h1 => ?_) <;> (try simp only [gt_iff_lt, ge_iff_le, bne_iff_ne, ne_eq, bne_eq_false_iff_eq, beq_iff_eq, beq_eq_false_iff_ne, Bool.not_eq_true', Bool.not_eq_false', decide_eq_true_eq, decide_eq_false_iff_not, List.length_map] at h1)
    · refine rn rfl ?_
      refine goal_step (step_call [] rfl rfl rfl rfl rfl rfl (hL)) ?_
      rintro σ2 ⟨r, o', ⟨rfl, rfl⟩, hσ⟩
      obtain rfl := Option.some.inj hσ
      clear hσ
      refine rn rfl ?_
      refine rn rfl ?_
      refine goal_cond rfl (fun h2 => ?_) (fun h2 => ?_) <;> (try simp only [gt_iff_lt, ge_iff_le, bne_iff_ne, ne_eq, bne_eq_false_iff_eq, beq_iff_eq, beq_eq_false_iff_ne, Bool.not_eq_true', Bool.not_eq_false', decide_eq_true_eq, decide_eq_false_iff_not, List.length_map] at h2)
      · refine rn rfl ?_
        refine goal_draw' [4, 5, 6] 6 rfl ?_
        refine drn [0, 1, 2] (by kernel_rfl) (by kernel_rfl) rfl rfl ?_
        refine AH_oneDid 3 rfl (by kernel_rfl) rfl (dA_step rfl) (mdOk rfl) ?_
        refine AH_oneDid 4 rfl (by kernel_rfl) rfl (dA_step rfl) (mdOk rfl) ?_
        refine AH_oneDid 5 rfl (by kernel_rfl) rfl (dA_step rfl) (mdOk rfl) ?_
        refine AH_end (by kernel_rfl) ?_
        refine rn rfl ?_
        refine rn rfl (cut_ret ?_)
        exact fin_is [] rfl ⟨s, f, L, hs, hf, lL, rfl, rfl⟩
      · refine rn rfl ?_
        exact cut_nrm [7, 6, 5, 4, 3, 2] [0, 1, 2, 3, 4, 5] rfl rfl
    · refine rn rfl ?_
      refine goal_cond rfl (fun h2 => ?_) (fun h2 => ?_) <;> (try simp only [gt_iff_lt, ge_iff_le, bne_iff_ne, ne_eq, bne_eq_false_iff_eq, beq_iff_eq, beq_eq_false_iff_ne, Bool.not_eq_true', Bool.not_eq_false', decide_eq_true_eq, decide_eq_false_iff_not, List.length_map] at h2)
      · refine rn rfl ?_
        refine goal_step (step_call [] rfl rfl rfl rfl rfl rfl (hN)) ?_
        rintro σ2 ⟨r, o', ⟨rfl, rfl⟩, hσ⟩
        obtain rfl := Option.some.inj hσ
        clear hσ
        refine rn rfl ?_
        refine rn rfl ?_
        refine goal_cond rfl (fun h3 => ?_) (fun h3 => ?_) <;> (try simp only [gt_iff_lt, ge_iff_le, bne_iff_ne, ne_eq, bne_eq_false_iff_eq, beq_iff_eq, beq_eq_false_iff_ne, Bool.not_eq_true', Bool.not_eq_false', decide_eq_true_eq, decide_eq_false_iff_not, List.length_map] at h3)
        · refine rn rfl ?_
          refine goal_draw' [4, 5, 6] 6 rfl ?_
          refine drn [0, 1, 2] (by kernel_rfl) (by kernel_rfl) rfl rfl ?_
          refine AH_oneDid 3 rfl (by kernel_rfl) rfl (dA_step rfl) (mdOk rfl) ?_
          refine AH_oneDid 4 rfl (by kernel_rfl) rfl (dA_step rfl) (mdOk rfl) ?_
          refine AH_oneDid 5 rfl (by kernel_rfl) rfl (dA_step rfl) (mdOk rfl) ?_
          refine AH_end (by kernel_rfl) ?_
          refine rn rfl ?_
          refine rn rfl (cut_ret ?_)
          exact fin_is [] rfl ⟨s, f, M, hs, hf, lN, rfl, rfl⟩
        · refine rn rfl ?_
          exact cut_nrm [7, 6, 5, 4, 3, 2] [0, 1, 2, 3, 4, 5] rfl rfl
      · refine rn rfl ?_
        exact cut_nrm [7, 6, 5, 4, 3, 2] [0, 1, 2, 3, 4, 5] rfl rfl
  rintro _ rfl
  refine rn rfl ?_
  refine goal_step (step_call [] rfl rfl rfl rfl rfl rfl (svalidSig_ct s (by omega) ls.names)) ?_
  rintro σ2 ⟨r, o', ⟨rfl, rfl⟩, hσ⟩
  obtain rfl := Option.some.inj hσ
  clear hσ
  refine rn rfl ?_
  refine goal_cond rfl (fun h3 => ?_) (fun h3 => ?_) <;> (try simp only [gt_iff_lt, ge_iff_le, bne_iff_ne, ne_eq, bne_eq_false_iff_eq, beq_iff_eq, beq_eq_false_iff_ne, Bool.not_eq_true', Bool.not_eq_false', decide_eq_true_eq, decide_eq_false_iff_not, List.length_map] at h3)
  · have hok := okSig_iff.1 h3
    refine rn rfl ?_
    refine goal_draw' [4, 5] 8 rfl ?_
    refine drn [0, 1, 2, 3] (by kernel_rfl) (by kernel_rfl) rfl rfl ?_
    refine AH_one (i := 4) (by kernel_rfl) (step_callE [3] rfl rfl rfl rfl rfl rfl (rfl) (callFor_ct (bs.take 2000) (k1 + 1) s hok hb (by omega) (by omega))) (by simp) ?_
    rintro σ2 ⟨r, o', ⟨g, k3, hg, hk5, hk6, rfl, rfl⟩, hσ⟩
    obtain rfl := Option.some.inj hσ
    clear hσ
    refine AH_oneDid 5 rfl (by kernel_rfl) rfl (dA_step rfl) (mdOk rfl) ?_
    refine AH_oneDid 6 rfl (by kernel_rfl) rfl (dA_step rfl) (mdOk rfl) ?_
    refine AH_oneDid 7 rfl (by kernel_rfl) rfl (dA_step rfl) (mdOk rfl) ?_
    refine AH_end (by kernel_rfl) ?_
    refine rn rfl ?_
    exact rn rfl (fin_is [] rfl ⟨s, f, g, hs, hf, (hg.wide (by omega) (by omega)).lens, rfl, rfl⟩)
  · refine rn rfl ?_
    refine goal_draw' [4, 5] 7 rfl ?_
    refine drn [0, 1, 2] (by kernel_rfl) (by kernel_rfl) rfl rfl ?_
    refine AH_one (i := 3) (by kernel_rfl) (step_callE [3] rfl rfl rfl rfl rfl rfl (rfl) (goodFlat_ct (bs.take 2000) (k1 + 1) hb (by omega) (by omega))) (by simp) ?_
    rintro σ2 ⟨r, o', ⟨g, k3, hg, hk5, hk6, rfl, rfl⟩, hσ⟩
    obtain rfl := Option.some.inj hσ
    clear hσ
    refine AH_oneDid 4 rfl (by kernel_rfl) rfl (dA_step rfl) (mdOk rfl) ?_
    refine AH_oneDid 5 rfl (by kernel_rfl) rfl (dA_step rfl) (mdOk rfl) ?_
    refine AH_oneDid 6 rfl (by kernel_rfl) rfl (dA_step rfl) (mdOk rfl) ?_
    refine AH_end (by kernel_rfl) ?_
    refine rn rfl ?_
    refine rn rfl (fin_is [] rfl ⟨s, f, g, hs, hf, ⟨Nat.le_trans hg.places (by omega), Nat.le_trans hg.named (by omega), fun p hp => by have := hg.names p hp; omega⟩, ?_, rfl⟩)
    rw [takeAll eI _ _ rfl, takeAll eP _ _ rfl]; rfl

theorem fnLeanFlatLeast_ct (bs : Str) (hl : bs.length ≤ 9223372036854775807) : ACalls pk 4 [.one (.fs (bs.map rowB))] [] (fun r o => r = .one (.bool true) ∧ o = []) := by
  refine acalls_of_body Tryz.func4 rfl (by kernel_rfl) rfl ?_
  refine rn rfl ?_
  refine goal_cond rfl (fun h => ?_) (fun h => ?_) <;> (try simp only [gt_iff_lt, ge_iff_le, bne_iff_ne, ne_eq, bne_eq_false_iff_eq, beq_iff_eq, beq_eq_false_iff_ne, Bool.not_eq_true', Bool.not_eq_false', decide_eq_true_eq, decide_eq_false_iff_not, List.length_map] at h)
  · exact rn rfl (fin_is [] rfl ⟨rfl, rfl⟩)
  · refine rn rfl ?_
    refine goal_step (step_call [] rfl rfl rfl rfl rfl rfl (drawSame_ct bs)) ?_
    rintro σ2 ⟨r, o', ⟨s, f, g, hs, hf, lg, rfl, rfl⟩, hσ⟩
    obtain rfl := Option.some.inj hσ
    clear hσ
    have ls := hs.lens
    have lf := hf.lens
    have hI := isameEffect_ct s f g ls lf lg
    have hS := ssameEffect_ct s f g ls lf lg
    have hLf := ileanD_ctF s f ls lf
    have hLg := ileanD_ctF s g ls lg
    have l1 := leanF_lenF s f
    have l2 := leanF_lenF s g
    have hSz := lawSize_ct g lg.places lg.named
    have hSz1 := lawSize_ct (LeanF s f).1 l1.places l1.named
    have hSz2 := lawSize_ct (LeanF s g).1 l2.places l2.named
    have hE2 := isameEffect_ct s (LeanF s f).1 g ls l1 lg
    have key : SEff s f g = true → (LeanF s f).2 = true → (LeanF s g).2 = true → SEff s (LeanF s f).1 g = true ∧ sizeF (LeanF s f).1 ≤ sizeF g ∧ sizeF (LeanF s f).1 = sizeF (LeanF s g).1 := fun h1 h2 h3 => by
      have G := lean_ok h2
      obtain ⟨a, b⟩ := G.least h1
      exact ⟨G.effect2 h1, a, b _ _ (lean_ok h3)⟩
    unfold sizeF at key
    generalize SEff s (LeanF s f).1 g = e2 at *
    generalize (LeanF s f).1 = A at *
    generalize (LeanF s g).1 = B at *
    generalize (LeanF s f).2 = ok1 at *
    generalize (LeanF s g).2 = ok2 at *
    generalize SEff s f g = e1 at *
    refine rn rfl ?_
    refine goal_step (step_call [] rfl rfl rfl rfl rfl rfl (hI)) ?_
    rintro σ2 ⟨r, o', ⟨rfl, rfl⟩, hσ⟩
    obtain rfl := Option.some.inj hσ
    clear hσ
    refine rn rfl ?_
    refine rn rfl ?_
    refine goal_step (step_call [] rfl rfl rfl rfl rfl rfl (hS)) ?_
    rintro σ2 ⟨r, o', ⟨rfl, rfl⟩, hσ⟩
    obtain rfl := Option.some.inj hσ
    clear hσ
    refine rn rfl ?_
    refine goal_guard rfl rfl rfl (fun h2 => by simp at h2) (fun _ => ?_)
    refine rn rfl ?_
    refine goal_cond rfl (fun h3 => ?_) (fun h3 => ?_)
    · refine rn rfl ?_
      refine goal_step (step_call [] rfl rfl rfl rfl rfl rfl (hS)) ?_
      rintro σ2 ⟨r, o', ⟨rfl, rfl⟩, hσ⟩
      obtain rfl := Option.some.inj hσ
      clear hσ
      refine rn rfl ?_
      refine rn rfl (fin_is [] rfl ⟨?_, rfl⟩)
      simp
    · have h3' : e1 = true := by simpa using h3
      refine rn rfl ?_
      refine goal_step (step_call [] rfl rfl rfl rfl rfl rfl (hLf)) ?_
      rintro σ2 ⟨r, o', ⟨rfl, rfl⟩, hσ⟩
      obtain rfl := Option.some.inj hσ
      clear hσ
      refine rn rfl ?_
      refine rn rfl ?_
      refine goal_step (step_call [] rfl rfl rfl rfl rfl rfl (hLg)) ?_
      rintro σ2 ⟨r, o', ⟨rfl, rfl⟩, hσ⟩
      obtain rfl := Option.some.inj hσ
      clear hσ
      refine rn rfl ?_
      refine rn rfl ?_
      refine goal_draw' [0, 2, 3, 4] 27 rfl ?_
      refine drn [0, 1, 2] (by kernel_rfl) (by kernel_rfl) rfl rfl ?_
      refine AH_guard (i := 3) rfl rfl rfl (fun h1 => ?_) (fun h1 => ?_) <;> (try simp only [gt_iff_lt, ge_iff_le, bne_iff_ne, ne_eq, bne_eq_false_iff_eq, beq_iff_eq, beq_eq_false_iff_ne, Bool.not_eq_true', Bool.not_eq_false', decide_eq_true_eq, decide_eq_false_iff_not, List.length_map] at h1)
      · refine drn [3, 4, 5, 6, 7, 8, 9, 10, 11, 12, 13, 14, 15, 16, 17, 18, 19, 20, 21, 22, 23, 24, 25, 26] (by kernel_rfl) (by kernel_rfl) rfl rfl ?_
        refine AH_end (by kernel_rfl) ?_
        refine rn rfl ?_
        exact rn rfl (fin_is [] rfl ⟨rfl, rfl⟩)
      · have h1' : ok1 = true := by simpa using h1
        refine drn [3, 4, 5, 6] (by kernel_rfl) (by kernel_rfl) rfl rfl ?_
        refine AH_guard (i := 7) rfl rfl rfl (fun h2 => ?_) (fun h2 => ?_) <;> (try simp only [gt_iff_lt, ge_iff_le, bne_iff_ne, ne_eq, bne_eq_false_iff_eq, beq_iff_eq, beq_eq_false_iff_ne, Bool.not_eq_true', Bool.not_eq_false', decide_eq_true_eq, decide_eq_false_iff_not, List.length_map] at h2)
        · refine drn [7, 8, 9, 10, 11, 12, 13, 14, 15, 16, 17, 18, 19, 20, 21, 22, 23, 24, 25, 26] (by kernel_rfl) (by kernel_rfl) rfl rfl ?_
          refine AH_end (by kernel_rfl) ?_
          refine rn rfl ?_
          exact rn rfl (fin_is [] rfl ⟨rfl, rfl⟩)
        · have h2' : ok2 = true := by simpa using h2
          obtain ⟨k1, k2, k3⟩ := key h3' h1' h2'
          refine drn [7, 9] (by kernel_rfl) (by kernel_rfl) rfl rfl ?_
          refine AH_one (i := 8) (by kernel_rfl) (step_call [] rfl rfl rfl rfl rfl rfl (hSz1)) (by simp) ?_
          rintro σ2 ⟨r, o', ⟨rfl, rfl⟩, hσ⟩
          obtain rfl := Option.some.inj hσ
          clear hσ
          refine AH_one (i := 10) (by kernel_rfl) (step_call [] rfl rfl rfl rfl rfl rfl (hSz)) (by simp) ?_
          rintro σ2 ⟨r, o', ⟨rfl, rfl⟩, hσ⟩
          obtain rfl := Option.some.inj hσ
          clear hσ
          refine drn [11, 12] (by kernel_rfl) (by kernel_rfl) rfl rfl ?_
          refine AH_guard (i := 13) rfl rfl rfl (fun h4 => ?_) (fun h4 => ?_) <;> (try simp only [gt_iff_lt, ge_iff_le, bne_iff_ne, ne_eq, bne_eq_false_iff_eq, beq_iff_eq, beq_eq_false_iff_ne, Bool.not_eq_true', Bool.not_eq_false', decide_eq_true_eq, decide_eq_false_iff_not, List.length_map] at h4)
          · refine drn [13, 15] (by kernel_rfl) (by kernel_rfl) rfl rfl ?_
            refine AH_one (i := 14) (by kernel_rfl) (step_call [] rfl rfl rfl rfl rfl rfl (hSz1)) (by simp) ?_
            rintro σ2 ⟨r, o', ⟨rfl, rfl⟩, hσ⟩
            obtain rfl := Option.some.inj hσ
            clear hσ
            refine AH_one (i := 16) (by kernel_rfl) (step_call [] rfl rfl rfl rfl rfl rfl (hSz2)) (by simp) ?_
            rintro σ2 ⟨r, o', ⟨rfl, rfl⟩, hσ⟩
            obtain rfl := Option.some.inj hσ
            clear hσ
            refine drn [17, 18, 19] (by kernel_rfl) (by kernel_rfl) rfl rfl ?_
            refine AH_guard (i := 20) rfl rfl rfl (fun h5 => ?_) (fun h5 => ?_) <;> (try simp only [gt_iff_lt, ge_iff_le, bne_iff_ne, ne_eq, bne_eq_false_iff_eq, beq_iff_eq, beq_eq_false_iff_ne, Bool.not_eq_true', Bool.not_eq_false', decide_eq_true_eq, decide_eq_false_iff_not, List.length_map] at h5)
            · refine drn [20, 21, 22] (by kernel_rfl) (by kernel_rfl) rfl rfl ?_
              refine AH_one (i := 23) (by kernel_rfl) (step_call [] rfl rfl rfl rfl rfl rfl (hE2)) (by simp) ?_
              rintro σ2 ⟨r, o', ⟨rfl, rfl⟩, hσ⟩
              obtain rfl := Option.some.inj hσ
              clear hσ
              refine drn [24, 25, 26] (by kernel_rfl) (by kernel_rfl) rfl rfl ?_
              refine AH_end (by kernel_rfl) ?_
              refine rn rfl ?_
              refine rn rfl (fin_is [] rfl ⟨?_, rfl⟩)
              rw [k1]
            · exfalso; simp at h5; omega
          · exfalso; simp at h4; omega

end Go.Proofs.YtbaglnfffgonlaaGreat
