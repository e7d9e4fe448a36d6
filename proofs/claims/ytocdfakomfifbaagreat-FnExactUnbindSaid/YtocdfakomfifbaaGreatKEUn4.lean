/- Part 4 of the proof: an abstract machine over the model; contracts of the functions that the law reaches. -/
import Derived.Test.YtocdfakomfifbaaGreatKEUn3
set_option linter.unusedVariables false
set_option linter.unusedSimpArgs false
namespace Go.Proofs.YtocdfakomfifbaaGreat
open Go
set_option maxRecDepth 100000
set_option maxHeartbeats 1000000

def fitQ (s : Sig) (f : Flat) : Bool := okSig s && okFlat f

structure LenF (f : Flat) : Prop where
  places : f.places.length ≤ 1048576
  named : f.named.length ≤ 1048576
  names : ∀ p ∈ f.named, p.name.length ≤ 9223372036854775807

structure LenS (s : Sig) : Prop where
  params : s.length ≤ 1048576
  names : ∀ p ∈ s, p.name.length ≤ 9223372036854775807

theorem fit_ct (s : Sig) (f : Flat) (hs : LenS s) (hf : LenF f) : ACalls pk 83 [.agg (eG s), .agg (eF f)] [] (fun r o => r = .one (.bool (fitQ s f)) ∧ o = []) := by
  have a1 := hs.params
  have a2 := hf.places
  have a3 := hf.named
  refine acalls_of_body Tryz.func83 rfl (by kernel_rfl) rfl ?_
  refine rn rfl ?_
  refine goal_step (step_call [] rfl rfl rfl rfl rfl rfl (ivalidSig_ct s (by omega) hs.names)) ?_
  rintro σ2 ⟨r, o', ⟨rfl, rfl⟩, hσ⟩
  obtain rfl := Option.some.inj hσ
  clear hσ
  refine rn rfl ?_
  refine goal_guard rfl rfl rfl (fun h => ?_) (fun h => ?_) <;> (try simp only [gt_iff_lt, ge_iff_le, bne_iff_ne, ne_eq, bne_eq_false_iff_eq, beq_iff_eq, beq_eq_false_iff_ne, Bool.not_eq_true', Bool.not_eq_false', decide_eq_true_eq, decide_eq_false_iff_not, List.length_map] at h)
  · refine rn rfl ?_
    refine goal_step (step_call [] rfl rfl rfl rfl rfl rfl (ivalidFlat_ct f (by omega) (by omega) hf.names)) ?_
    rintro σ2 ⟨r, o', ⟨rfl, rfl⟩, hσ⟩
    obtain rfl := Option.some.inj hσ
    clear hσ
    refine rn rfl ?_
    refine rn rfl (fin_is [] rfl ⟨?_, rfl⟩)
    simp [fitQ, h]
  · refine rn rfl (fin_is [] rfl ⟨?_, rfl⟩)
    simp [fitQ, h]

theorem fitQ_iff {s : Sig} {f : Flat} : fitQ s f = true ↔ OkS s ∧ OkF f := by
  rw [fitQ, Bool.and_eq_true, okSig_iff, okFlat_iff]

theorem OkF.len {f : Flat} (h : OkF f) : LenF f := ⟨by have := h.places; omega, by have := h.named; omega, fun p hp => by
  have := h.pairs p hp
  simp only [okPair, okName, inR, Bool.and_eq_true, decide_eq_true_eq] at this
  omega⟩

theorem missing_ct (s : Sig) (b : Bnds) (hs : s.length ≤ 1048576) (hb : b.length = s.length) : ACalls pk 123 [.agg (eG s), .agg (eBi b)] [] (fun r o => r = .one (.fs ((missingQ s b).map eB)) ∧ o = []) := by
  refine acalls_of_body Tryz.func123 rfl (by kernel_rfl) rfl ?_
  refine rn rfl ?_
  refine goal_loop_keep (fun m σ => ∃ (n : Int) (i k : Nat) (w3 : List Problem), n = i ∧ i ≤ s.length ∧ m = s.length - i ∧ w3 = ((s.zip b).take i).filterMap lackQ ∧ k = w3.length ∧
      σ = ⟨[(6, .one (.int .i64 n)), (5, .one (.os 2 0 k k)), (3, .one (.op 1 0 0)), (2, .one (.op 0 0 0))],
        [oV (.fs (s.map eQ)), oV (.fs (b.map eL)), ownB w3], []⟩) s.length
    [6, 5, 3, 2] [0, 1, 2] rfl ⟨_, 0, 0, [], rfl, by omega, by omega, by simp, rfl, rfl⟩ ?_
  rintro m σ ⟨n, i, k, w3, rfl, hi, rfl, hw3, rfl, rfl⟩
  have hw3l : w3.length ≤ i := by
    rw [hw3]
    have := List.length_filterMap_le lackQ ((s.zip b).take i)
    rw [List.length_take] at this; omega
  refine rn rfl ?_
  refine goal_cond rfl (fun h => ?_) (fun h => ?_) <;> (try simp only [gt_iff_lt, ge_iff_le, bne_iff_ne, ne_eq, bne_eq_false_iff_eq, beq_iff_eq, beq_eq_false_iff_ne, Bool.not_eq_true', Bool.not_eq_false', decide_eq_true_eq, decide_eq_false_iff_not, List.length_map] at h)
  · obtain ⟨p, hp⟩ := at_some (xs := s) (i := i) (by omega)
    obtain ⟨x, hx⟩ := at_some (xs := b) (i := i) (by omega)
    have hz : (s.zip b)[i]? = some (p, x) := by simp [List.getElem?_zip_eq_some, hp, hx]
    have hst := filterMap_take_succ (g := lackQ) hz
    have fin : lackQ (p, x) = none → w3 = ((s.zip b).take (i + 1)).filterMap lackQ := fun h0 => by rw [hst, h0, hw3]; simp
    refine rn rfl ?_
    refine goal_did rfl rfl (dA_index (eQ p) rfl rfl rfl rfl rfl rfl rfl (by omega) (by (try simp); omega) (map_at (by simpa using hp)) rfl) ?_
    refine rn rfl ?_
    refine goal_step (step_call [] rfl rfl rfl rfl rfl rfl (ssingle_ct p)) ?_
    rintro σ2 ⟨r, o', ⟨rfl, rfl⟩, hσ⟩
    obtain rfl := Option.some.inj hσ
    clear hσ
    refine rn rfl ?_
    refine goal_guard rfl rfl rfl (fun h3 => ?_) (fun h3 => ?_) <;> (try simp only [gt_iff_lt, ge_iff_le, bne_iff_ne, ne_eq, bne_eq_false_iff_eq, beq_iff_eq, beq_eq_false_iff_ne, Bool.not_eq_true', Bool.not_eq_false', decide_eq_true_eq, decide_eq_false_iff_not, List.length_map] at h3)
    · refine rn rfl ?_
      refine goal_guard rfl rfl rfl (fun h4 => ?_) (fun h4 => ?_) <;> (try simp only [gt_iff_lt, ge_iff_le, bne_iff_ne, ne_eq, bne_eq_false_iff_eq, beq_iff_eq, beq_eq_false_iff_ne, Bool.not_eq_true', Bool.not_eq_false', decide_eq_true_eq, decide_eq_false_iff_not, List.length_map] at h4)
      · refine rn rfl ?_
        refine goal_did rfl rfl (dA_index (eL x) rfl rfl rfl rfl rfl rfl rfl (by omega) (by (try simp); omega) (map_at (by simpa using hx)) rfl) ?_
        refine rn rfl ?_
        refine goal_cond rfl (fun h5 => ?_) (fun h5 => ?_) <;> (try simp only [gt_iff_lt, ge_iff_le, bne_iff_ne, ne_eq, bne_eq_false_iff_eq, beq_iff_eq, beq_eq_false_iff_ne, Bool.not_eq_true', Bool.not_eq_false', decide_eq_true_eq, decide_eq_false_iff_not, List.length_map] at h5)
        · refine rn rfl ?_
          refine goal_did rfl rfl (dA_append (old := (w3).map eB) (rows := ([⟨3, p.name⟩] : List Problem).map eB) (((w3) ++ ([⟨3, p.name⟩] : List Problem)).map eB) (w3.length + 1) true (Dst.own rfl rfl rfl rfl rfl (by first | (simp; done) | (simp; omega)) (whole (by first | (simp; done) | (simp; omega)))) (Src.os rfl rfl (Nat.le_refl 1) rfl) rfl rfl rfl rfl rfl rfl rfl rfl (rows_len eB_len _) (rows_len eB_len _) (by (try simp only [List.length_map, List.length_append, List.length_cons, List.length_nil, List.length_take, List.length_drop]); show _ * 24 ≤ _; omega) (by first | (simp; done) | (simp; omega)) (by simp) (by first | (simp; done) | (simp; omega)) (fun _ => noOwnR_map _ eB_noOwn _)) ?_
          refine rn rfl ?_
          refine round_keep (s.length - (i + 1)) [6, 5, 3, 2] [0, 1, 5] (by omega) rfl ⟨_, i + 1, w3.length + 1, w3 ++ [⟨3, p.name⟩], wrap64 (by omega) (by omega), by omega, rfl, ?_, by simp, rfl⟩
          rw [hst, hw3]; simp [lackQ, h3, h4, h5]
        · refine rn rfl ?_
          refine round_keep (s.length - (i + 1)) [6, 5, 3, 2] [0, 1, 2] (by omega) rfl ⟨_, i + 1, w3.length, w3, wrap64 (by omega) (by omega), by omega, rfl, fin (by simp [lackQ, h5]), rfl, rfl⟩
      · refine rn rfl ?_
        refine round_keep (s.length - (i + 1)) [6, 5, 3, 2] [0, 1, 2] (by omega) rfl ⟨_, i + 1, w3.length, w3, wrap64 (by omega) (by omega), by omega, rfl, fin (by simp [lackQ, h4]), rfl, rfl⟩
    · refine rn rfl ?_
      refine round_keep (s.length - (i + 1)) [6, 5, 3, 2] [0, 1, 2] (by omega) rfl ⟨_, i + 1, w3.length, w3, wrap64 (by omega) (by omega), by omega, rfl, fin (by simp [lackQ, h3]), rfl, rfl⟩
  · refine rn rfl ?_
    refine round_ext ?_
    refine rn rfl (fin_is [] rfl ⟨?_, rfl⟩)
    rw [takeAll eB _ _ rfl, hw3, show i = s.length by omega, List.take_of_length_le (by simp; omega)]; rfl

theorem problems_ct (s : Sig) (f : Flat) (hs : OkS s) (hf : LenF f) : ACalls pk 89 [.agg (eG s), .agg (eF f)] [] (fun r o => r = .one (.fs ((bindQ s f).2.map eB)) ∧ o = []) := by
  have hl := hs.len
  have a2 := hf.places
  have a3 := hf.named
  have hw := foldB_wr s f.named (phase1 s f.places, manyQ s f.places)
  have hm := manyQ_len s f.places
  have hq := missingQ_len s (boundQ s f).1
  have hw' : (boundQ s f).2.length ≤ (manyQ s f.places).length + f.named.length := hw
  refine acalls_of_body Tryz.func89 rfl (by kernel_rfl) rfl ?_
  refine rn rfl ?_
  refine goal_step (step_call [] rfl rfl rfl rfl rfl rfl (sbound_ct s f hs hf.places hf.named)) ?_
  rintro σ2 ⟨r, o', ⟨rfl, rfl⟩, hσ⟩
  obtain rfl := Option.some.inj hσ
  clear hσ
  refine rn rfl ?_
  refine goal_step (step_call [] rfl rfl rfl rfl rfl rfl (missing_ct s (boundQ s f).1 (by omega) (boundQ_len s f))) ?_
  rintro σ2 ⟨r, o', ⟨rfl, rfl⟩, hσ⟩
  obtain rfl := Option.some.inj hσ
  clear hσ
  refine rn rfl ?_
  refine goal_did rfl rfl (dA_append (old := ((boundQ s f).2).map eB) (rows := (missingQ s (boundQ s f).1 : List Problem).map eB) ((((boundQ s f).2) ++ (missingQ s (boundQ s f).1 : List Problem)).map eB) ((boundQ s f).2.length + (missingQ s (boundQ s f).1).length) true (Dst.own rfl rfl rfl rfl rfl (by first | (simp; done) | (simp; omega)) (whole (by first | (simp; done) | (simp; omega)))) (Src.fs rfl) rfl rfl rfl rfl rfl rfl rfl rfl (rows_len eB_len _) (rows_len eB_len _) (by (try simp only [List.length_map, List.length_append, List.length_cons, List.length_nil, List.length_take, List.length_drop]); show _ * 24 ≤ _; omega) (by first | (simp; done) | (simp; omega)) (by simp) (by first | (simp; done) | (simp; omega)) (fun _ => noOwnR_map _ eB_noOwn _)) ?_
  refine rn rfl ?_
  refine rn rfl (fin_is [] rfl ⟨?_, rfl⟩)
  rw [takeAll eB _ _ (by simp)]; rfl

def accQ (s : Sig) (f : Flat) : Bool := decide ((bindQ s f).2 = [])

theorem len_zero {α : Type} (xs : List α) : (((xs.length : Nat) : Int) == 0) = decide (xs = []) := by
  cases xs with
  | nil => rfl
  | cons x xs => simp; omega

theorem saccepts_ct (s : Sig) (f : Flat) (hs : OkS s) (hf : LenF f) : ACalls pk 59 [.agg (eG s), .agg (eF f)] [] (fun r o => r = .one (.bool (accQ s f)) ∧ o = []) := by
  refine acalls_of_body Tryz.func59 rfl (by kernel_rfl) rfl ?_
  refine rn rfl ?_
  refine goal_step (step_call [] rfl rfl rfl rfl rfl rfl (problems_ct s f hs hf)) ?_
  rintro σ2 ⟨r, o', ⟨rfl, rfl⟩, hσ⟩
  obtain rfl := Option.some.inj hσ
  clear hσ
  refine rn rfl ?_
  refine rn rfl (fin_is [] rfl ⟨?_, rfl⟩)
  rw [List.length_map, len_zero]; rfl

/-- What a call binds, and whether it does. -/
def BindQ (s : Sig) (f : Flat) : Bnds × Bool := if fitQ s f && accQ s f then ((boundQ s f).1, true) else ([], false)

def partQ (s : Sig) (f : Flat) : Bool := fitQ s f && decide ((boundQ s f).2 = [])

def overN (ps qs : List Pair) : List Pair := qs.foldl (fun ps p => putP ps p.name p.value) ps

def overQ (f g : Flat) : Flat := ⟨f.places ++ g.places, overN f.named g.named⟩

theorem overN_len : ∀ (qs ps : List Pair), (overN ps qs).length ≤ ps.length + qs.length
  | [], ps => by simp [overN]
  | q :: qs, ps => by
    have h1 := overN_len qs (putP ps q.name q.value)
    have h2 := putP_length ps q.name q.value
    simp only [overN, List.foldl_cons, List.length_cons] at h1 ⊢
    omega

theorem overN_mem : ∀ {qs ps : List Pair} {p : Pair}, p ∈ overN ps qs → (∃ q ∈ ps, p.name = q.name) ∨ ∃ q ∈ qs, p.name = q.name
  | [], ps, p, h => .inl ⟨p, h, rfl⟩
  | q :: qs, ps, p, h => by
    rcases overN_mem (qs := qs) (ps := putP ps q.name q.value) h with ⟨r, hr, hn⟩ | ⟨r, hr, hn⟩
    · rcases putP_mem hr with h1 | ⟨r', hr', h1⟩
      · exact .inr ⟨q, by simp, by rw [hn, h1]⟩
      · exact .inl ⟨r', hr', by rw [hn, h1]⟩
    · exact .inr ⟨r, by simp [hr], hn⟩

theorem LenF.over {f g : Flat} (hf : LenF f) (hg : LenF g) : (overQ f g).places.length ≤ 16777216 ∧ (overQ f g).named.length ≤ 16777216 ∧ ∀ p ∈ (overQ f g).named, p.name.length ≤ 9223372036854775807 := by
  refine ⟨by have := hf.places; have := hg.places; simp [overQ]; omega, by have h := overN_len g.named f.named; have := hf.named; have := hg.named; simp only [overQ]; omega, fun p hp => ?_⟩
  rcases overN_mem hp with ⟨q, hq, hn⟩ | ⟨q, hq, hn⟩
  · rw [hn]; exact hf.names q hq
  · rw [hn]; exact hg.names q hq

theorem gt_zero {α : Type} (xs : List α) : decide (((xs.length : Nat) : Int) > 0) = !decide (xs = []) := by
  cases xs with
  | nil => rfl
  | cons x xs => simp

/-- Slots of own memory. -/
def rL (b : Bnds) : T := .agg [.os 0 0 b.length b.length]

theorem iBind_ct (s : Sig) (f : Flat) (hs : LenS s) (hf : LenF f) : ACalls pk 52 [.agg (eG s), .agg (eF f)] [] (fun r o => r = .tup [rL (BindQ s f).1, .one (.bool (BindQ s f).2)] ∧ o = [ownL (BindQ s f).1]) := by
  refine acalls_of_body Tryz.func52 rfl (by kernel_rfl) rfl ?_
  refine rn rfl ?_
  refine goal_step (step_call [] rfl rfl rfl rfl rfl rfl (fit_ct s f hs hf)) ?_
  rintro σ2 ⟨r, o', ⟨rfl, rfl⟩, hσ⟩
  obtain rfl := Option.some.inj hσ
  clear hσ
  refine rn rfl ?_
  refine goal_cond rfl (fun h => ?_) (fun h => ?_) <;> (try simp only [gt_iff_lt, ge_iff_le, bne_iff_ne, ne_eq, bne_eq_false_iff_eq, beq_iff_eq, beq_eq_false_iff_ne, Bool.not_eq_true', Bool.not_eq_false', decide_eq_true_eq, decide_eq_false_iff_not, List.length_map] at h)
  · refine rn rfl ?_
    refine fin_weak (Weak.adoptO 2 0 3) (fin_is [3] rfl ⟨?_, ?_⟩)
    · simp [BindQ, h]; rfl
    · simp [BindQ, h]; rfl
  · have hfit := fitQ_iff.1 h
    refine rn rfl ?_
    refine goal_step (step_call [] rfl rfl rfl rfl rfl rfl (ibind_ct s f hfit.1 hf.places hf.named)) ?_
    rintro σ2 ⟨r, o', ⟨rfl, rfl⟩, hσ⟩
    obtain rfl := Option.some.inj hσ
    clear hσ
    refine rn rfl ?_
    rw [List.length_map, gt_zero]
    refine goal_cond rfl (fun h2 => ?_) (fun h2 => ?_) <;> simp only [Bool.not_eq_true', Bool.not_eq_false', decide_eq_true_eq, decide_eq_false_iff_not] at h2
    · refine rn rfl ?_
      refine fin_weak (Weak.adoptO 2 0 3) (fin_is [5] rfl ⟨?_, ?_⟩)
      · simp [BindQ, accQ, h2]; rfl
      · simp [BindQ, accQ, h2]; rfl
    · refine rn rfl ?_
      have hb : BindQ s f = ((boundQ s f).1, true) := by simp [BindQ, h, accQ, h2]
      refine fin_is [3] rfl ⟨?_, ?_⟩
      · rw [hb]; simp [rL, boundQ_len]
      · rw [hb]; rfl

theorem iBindD_ct (s : Sig) (f : Flat) (hs : LenS s) (hf : LenF f) : ACalls pk 52 [.agg (eG s), .agg (eF f)] [] (fun r o => r = .tup [.agg (eBi (BindQ s f).1), .one (.bool (BindQ s f).2)] ∧ o = []) :=
  (iBind_ct s f hs hf).told [] (by
    rintro r o ⟨rfl, rfl⟩
    refine ⟨_, _, rfl, ?_, rfl⟩
    rw [takeAll eL _ _ rfl]; rfl)

theorem byNameD_ct (xs : List Pair) (hl : xs.length ≤ 12) : ACalls pk 106 [.one (.fs (xs.map eP))] [] (fun r o => r = .one (.fs ((isortL ltN xs).map eP)) ∧ o = []) :=
  (byName_ct xs hl).told [] (by rintro r o ⟨rfl, rfl⟩; exact ⟨_, _, rfl, congrArg (fun x => T.one (C.fs x)) (takeAll eP _ _ (isortL_length _ _)), rfl⟩)

section
open Go Go.ChangeShapes
theorem agg_of_okWide {P : Program} {W : World} {r : Reach} {base : Nat} {t : TypeId} {v : Value} {fs : Array Field} (hu : P.underlying t = some (.struct fs)) (h : Value.okWide P W r base t v) : ∃ cs, v = .agg cs := by
  unfold Value.okWide at h
  rw [hu] at h
  obtain ⟨cs, h2, _⟩ := h
  exact ⟨cs, h2⟩
end

section
open Go Go.ChangeShapes
def PairOk (p : Pair) : Prop := p.name.length ≤ 9223372036854775807

theorem openPair : Opens pk.P 114 eP PairOk :=
  Opens.map (xo_struct (α := Str × Int × Unit) rfl rfl (fun _ => rfl) (opensF_cons (off' := 1) (xo_str rfl rfl) (fun _ => rfl) (by omega) (opensF_cons (off' := 2) (xo_int rfl rfl rfl) (fun _ => rfl) (by omega) opensF_nil)))
    (fun x => ⟨x.1, x.2.1⟩) (fun _ => rfl) (fun _ h => h.1)
end

section
open Go Go.ChangeShapes
structure FitsS (s : Sig) : Prop where
  len : s.length ≤ 9223372036854775807
  names : ∀ p ∈ s, p.name.length ≤ 9223372036854775807

def ParamOk (p : Param) : Prop := p.name.length ≤ 9223372036854775807

theorem openParam : Opens pk.P 87 eQ ParamOk :=
  Opens.map (xo_struct (α := Str × Int × Bool × Int × Unit) rfl rfl (fun _ => rfl) (opensF_cons (off' := 1) (xo_str rfl rfl) (fun _ => rfl) (by omega) (opensF_cons (off' := 2) (xo_int rfl rfl rfl) (fun _ => rfl) (by omega)
    (opensF_cons (off' := 3) (xo_bool rfl rfl) (fun _ => rfl) (by omega) (opensF_cons (off' := 4) (xo_int rfl rfl rfl) (fun _ => rfl) (by omega) opensF_nil)))))
    (fun x => ⟨x.1, x.2.1, x.2.2.1, x.2.2.2.1⟩) (fun _ => rfl) (fun _ h => h.1)

theorem openSig : Opens pk.P 24 eG FitsS :=
  Opens.map (xo_struct (α := List Param × Unit) rfl rfl (fun _ => rfl) (opensF_cons (off' := 1) (xo_slice rfl rfl rfl rfl (fun _ => rfl) openParam) (fun _ => rfl) (by omega) opensF_nil))
    (fun x => x.1) (fun _ => rfl) (fun _ h => ⟨h.1.1, h.1.2⟩)
end

theorem szParam_ct (p : Param) (k : Int) (hk : 0 ≤ k) (hk' : k ≤ 1048576) (hl : p.name.length ≤ 9223372036854775807) :
    ACalls pk 54 [.agg (eQ p), .one (.int .i64 k)] [] (fun r o => r = .one (.int .i64 (szLen p.name.length k)) ∧ o = []) := by
  refine acalls_of_body Tryz.func54 rfl (by kernel_rfl) rfl ?_
  refine rn rfl ?_
  have hw := wrap64 (n := k - p.name.length) (by omega) (by omega)
  refine goal_cond rfl (fun h => ?_) (fun h => ?_) <;> simp only [decide_eq_true_eq, decide_eq_false_iff_not, hw] at h
  · refine rn rfl (fin_is [] rfl ⟨?_, rfl⟩)
    simp only [szLen, h, if_true]
  · refine rn rfl (fin_is [] rfl ⟨?_, rfl⟩)
    simp only [szLen, h, if_false, hw]

def szAllQ : List Param → Int → Int
  | [], k => k
  | p :: ps, k => if szLen p.name.length k < 0 then -1 else szAllQ ps (szLen p.name.length k)

def szParamS (ps : List Param) (k : Int) : Int := if szLen ps.length k < 0 then -1 else szAllQ ps (szLen ps.length k)

theorem szParamS_ct (ps : List Param) (k : Int) (hk : 0 ≤ k) (hk' : k ≤ 1048576) (hl : ps.length ≤ 9223372036854775807) (hn : ∀ p ∈ ps, p.name.length ≤ 9223372036854775807) :
    ACalls pk 27 [.one (.fs (ps.map eQ)), .one (.int .i64 k)] [] (fun r o => r = .one (.int .i64 (szParamS ps k)) ∧ o = []) := by
  refine acalls_of_body Tryz.func27 rfl (by kernel_rfl) rfl ?_
  refine rn rfl ?_
  have hw := wrap64 (n := k - ps.length) (by omega) (by omega)
  refine goal_cond rfl (fun h => ?_) (fun h => ?_) <;> simp only [decide_eq_true_eq, decide_eq_false_iff_not, List.length_map, hw] at h
  · refine rn rfl (fin_is [] rfl ⟨?_, rfl⟩)
    simp [szParamS, szLen, h]
  · refine rn rfl ?_
    have hs : szLen ps.length k = k - ps.length := by simp only [szLen, h, if_false]
    refine goal_loop_keep (fun m σ => ∃ (n q : Int) (i : Nat), n = i ∧ i ≤ ps.length ∧ m = ps.length - i ∧ 0 ≤ q ∧ q ≤ 1048576 ∧ szParamS ps k = szAllQ (ps.drop i) q ∧
        σ = ⟨[(5, .one (.int .i64 n)), (1, .one (.int .i64 q)), (0, .one (.fs (ps.map eQ)))], [], []⟩) ps.length [5, 1, 0] [] rfl
      ⟨_, _, 0, rfl, by omega, by omega, ?_, ?_, ?_, rfl⟩ ?_
    · rw [List.length_map, hw]; omega
    · rw [List.length_map, hw]; omega
    · rw [List.length_map, hw, szParamS, if_neg (by omega), hs]; rfl
    rintro m σ ⟨n, q, i, rfl, hi, rfl, hq, hq', hidx, rfl⟩
    refine rn rfl ?_
    refine goal_cond rfl (fun h => ?_) (fun h => ?_) <;> simp only [decide_eq_true_eq, decide_eq_false_iff_not, List.length_map] at h
    · obtain ⟨p, hp⟩ := at_some (xs := ps) (i := i) (by omega)
      have hpm := hn p (List.mem_of_getElem? hp)
      refine rn rfl ?_
      refine goal_did rfl rfl (dA_index (eQ p) rfl rfl rfl rfl rfl rfl rfl (by omega) (by (try simp); omega) (map_at (by simpa using hp)) rfl) ?_
      refine rn rfl ?_
      refine goal_step (step_call [] rfl rfl rfl rfl rfl rfl (szParam_ct p q hq hq' hpm)) ?_
      rintro σ2 ⟨r, o', ⟨rfl, rfl⟩, hσ⟩
      obtain rfl := Option.some.inj hσ
      clear hσ
      refine rn rfl ?_
      refine rn rfl ?_
      refine goal_cond rfl (fun h2 => ?_) (fun h2 => ?_) <;> simp only [decide_eq_true_eq, decide_eq_false_iff_not] at h2
      · refine rn rfl ?_
        refine round_ret (fin_is [] rfl ⟨?_, rfl⟩)
        rw [hidx, drop_at hp]
        simp only [szAllQ, h2, if_true]
      · refine rn rfl ?_
        refine round_keep (ps.length - (i + 1)) [5, 1, 0] [] (by omega) rfl ⟨_, _, i + 1, ?_, by omega, rfl, by omega, ?_, ?_, rfl⟩
        · exact wrap64 (by omega) (by omega)
        · have := szLen_le p.name.length q hq; omega
        · rw [hidx, drop_at hp]
          simp only [szAllQ, h2, if_false]
    · refine rn rfl ?_
      refine round_ext ?_
      refine rn rfl (fin_is [] rfl ⟨?_, rfl⟩)
      rw [hidx, List.drop_eq_nil_of_le (by omega)]
      rfl

theorem szAllQ_le : ∀ (ps : List Param) (k : Int), 0 ≤ k → szAllQ ps k ≤ k ∧ (szAllQ ps k < 0 → szAllQ ps k = -1)
  | [], k, h => by simp only [szAllQ]; omega
  | p :: ps, k, h => by
    unfold szAllQ
    have h1 := szLen_le p.name.length k h
    split
    · omega
    · have := szAllQ_le ps (szLen p.name.length k) (by omega); omega

theorem szParamS_ok {s : Sig} {k : Int} (hk : 0 ≤ k) (h : ¬ szParamS s k < 0) : (s.length : Int) ≤ k ∧ szParamS s k ≤ k := by
  unfold szParamS at h ⊢
  split at h
  · omega
  · rename_i h1
    have e1 := szLen_ok h1
    have e2 := szLen_le s.length k hk
    have e3 := szAllQ_le s (szLen s.length k) (by omega)
    rw [if_neg h1]; omega

theorem szParamS_neg {s : Sig} {k : Int} (hk : 0 ≤ k) (h : szParamS s k < 0) : szParamS s k = -1 := by
  unfold szParamS at h ⊢
  split at h
  · rename_i h1; simp [h1]
  · rename_i h1
    have e3 := szAllQ_le s (szLen s.length k) (by omega)
    rw [if_neg h1]; exact e3.2 h

theorem szSig_ct (s : Sig) (k : Int) (hk : 0 ≤ k) (hk' : k ≤ 1048576) (hs : FitsS s) :
    ACalls pk 5 [.agg (eG s), .one (.int .i64 k)] [] (fun r o => r = .one (.int .i64 (szParamS s k)) ∧ o = []) := by
  refine acalls_of_body Tryz.func5 rfl (by kernel_rfl) rfl ?_
  refine rn rfl ?_
  refine goal_step (step_call [] rfl rfl rfl rfl rfl rfl (szParamS_ct s k hk hk' hs.len hs.names)) ?_
  rintro σ2 ⟨r, o', ⟨rfl, rfl⟩, hσ⟩
  obtain rfl := Option.some.inj hσ
  clear hσ
  refine rn rfl ?_
  refine rn rfl ?_
  refine goal_cond rfl (fun h => ?_) (fun h => ?_) <;> simp only [decide_eq_true_eq, decide_eq_false_iff_not] at h
  · refine rn rfl (fin_is [] rfl ⟨?_, rfl⟩)
    rw [szParamS_neg hk h]
  · exact rn rfl (fin_is [] rfl ⟨rfl, rfl⟩)

theorem toParam_ct (p : Param) : ACalls pk 63 [.agg (eQ p)] [] (fun r o => r = .agg (eQ p) ∧ o = []) := by
  refine acalls_of_body Tryz.func63 rfl (by kernel_rfl) rfl ?_
  refine rn rfl ?_
  exact rn rfl (fin_is [] rfl ⟨rfl, rfl⟩)

theorem toQS_ct (xs : List Param) (hl : xs.length ≤ 16777216) :
    ACalls pk 31 [.one (.fs (xs.map eQ))] [] (fun r o => r = .one (.os 0 0 xs.length xs.length) ∧ o = [ownQ xs]) := by
  refine acalls_of_body Tryz.func31 rfl (by kernel_rfl) rfl ?_
  refine rn rfl ?_
  refine goal_did rfl rfl (dA_make xs.length ((List.replicate xs.length zQ).map eQ) rfl rfl rfl (by simp) (by simp) rfl rfl rfl rfl rfl (by show 40 * xs.length ≤ _; omega) (by omega) (by rw [← rep_map]; rfl)) ?_
  refine rn rfl ?_
  refine goal_loop_keep (fun m σ => ∃ (n : Int) (i L : Nat) (ys : List Param), n = i ∧ L = xs.length ∧ i ≤ xs.length ∧ m = xs.length - i ∧ ys.length = xs.length ∧ ys.take i = xs.take i ∧
      σ = ⟨[(4, .one (.int .i64 n)), (3, .one (.os 0 0 L L)), (0, .one (.fs (xs.map eQ)))], [ownQ ys], []⟩) xs.length [4, 3, 0] [0] rfl
    ⟨_, 0, _, _, rfl, ?_, by omega, by omega, len_rep _ _, rfl, rfl⟩ ?_
  · simp
  rintro m σ ⟨n, i, L, ys, rfl, rfl, hi, rfl, hys, hpre, rfl⟩
  refine rn rfl ?_
  refine goal_cond rfl (fun h => ?_) (fun h => ?_) <;> (try simp only [gt_iff_lt, ge_iff_le, bne_iff_ne, ne_eq, bne_eq_false_iff_eq, beq_iff_eq, beq_eq_false_iff_ne, Bool.not_eq_true', Bool.not_eq_false', decide_eq_true_eq, decide_eq_false_iff_not, List.length_map] at h)
  · have hlt : i < xs.length := by omega
    obtain ⟨x, hx⟩ := at_some hlt
    obtain ⟨y, hy⟩ := at_some (xs := ys) (i := i) (by omega)
    refine rn rfl ?_
    refine goal_did rfl rfl (dA_index (eQ x) rfl rfl rfl rfl rfl rfl rfl (by omega) (by (try simp); omega) (map_at (by simpa using hx)) rfl) ?_
    refine rn rfl ?_
    refine goal_step (step_call [] rfl rfl rfl rfl rfl rfl (toParam_ct x)) ?_
    rintro σ2 ⟨r, o', ⟨rfl, rfl⟩, hσ⟩
    obtain rfl := Option.some.inj hσ
    clear hσ
    refine rn rfl ?_
    refine goal_did rfl rfl (dA_indexOwn rfl rfl rfl rfl rfl rfl rfl rfl rfl (by omega) (by omega)) ?_
    refine goal_did rfl rfl (dA_storeEl (eQ y) ((ys.set i x).map eQ) true rfl rfl rfl rfl rfl (map_at (by simpa using hy)) rfl rfl (by simp [eQ]) (by rw [map_set]; simp [patch, eQ]) (fun _ => noOwnR_map _ eQ_noOwn _)) ?_
    refine rn rfl ?_
    refine round_keep (xs.length - (i + 1)) [4, 3, 0] [0] (by omega) rfl ⟨_, i + 1, xs.length, ys.set i x, ?_, rfl, by omega, rfl, by simp [hys], take_set_step xs ys i x hx hys hpre, rfl⟩
    exact wrap64 (by omega) (by omega)
  · refine rn rfl ?_
    refine round_ext ?_
    refine rn rfl (fin_is [0] rfl ⟨?_, ?_⟩)
    · rfl
    · rw [show i = xs.length by omega, List.take_length, ← hys, List.take_length] at hpre
      rw [hpre]; rfl

def rG (s : Sig) : T := .agg [.os 0 0 s.length s.length]

def oG (s : Sig) : List (Option AObj) := [ownQ s]

theorem toSig_ct (s : Sig) (hs : s.length ≤ 16777216) : ACalls pk 8 [.agg (eG s)] [] (fun r o => r = rG s ∧ o = oG s) := by
  refine acalls_of_body Tryz.func8 rfl (by kernel_rfl) rfl ?_
  refine rn rfl ?_
  refine goal_step (step_call [] rfl rfl rfl rfl rfl rfl (toQS_ct s hs)) ?_
  rintro σ2 ⟨r, o', ⟨rfl, rfl⟩, hσ⟩
  obtain rfl := Option.some.inj hσ
  clear hσ
  refine rn rfl ?_
  exact rn rfl (fin_is [3] rfl ⟨rfl, rfl⟩)

theorem eqParam_ct (p q : Param) : ACalls pk 72 [.agg (eQ p), .agg (eQ q)] [] (fun r o => r = .one (.bool (decide (p = q))) ∧ o = []) := by
  obtain ⟨a, b, c, d⟩ := p
  obtain ⟨a', b', c', d'⟩ := q
  refine acalls_of_body Tryz.func72 rfl (by kernel_rfl) rfl ?_
  refine rn rfl ?_
  refine goal_cond rfl (fun h => ?_) (fun h => ?_)
  · simp at h
    refine rn rfl (fin_is [] rfl ⟨?_, rfl⟩)
    simp [h]
  · simp at h
    refine rn rfl ?_
    refine goal_cond rfl (fun h2 => ?_) (fun h2 => ?_) <;> simp only [bne_iff_ne, ne_eq, bne_eq_false_iff_eq] at h2
    · refine rn rfl (fin_is [] rfl ⟨?_, rfl⟩)
      simp [h2]
    · refine rn rfl ?_
      refine goal_cond rfl (fun h3 => ?_) (fun h3 => ?_)
      · refine rn rfl (fin_is [] rfl ⟨?_, rfl⟩)
        simp at h3; simp [h3]
      · refine rn rfl ?_
        refine goal_cond rfl (fun h4 => ?_) (fun h4 => ?_) <;> simp only [bne_iff_ne, ne_eq, bne_eq_false_iff_eq] at h4
        · refine rn rfl (fin_is [] rfl ⟨?_, rfl⟩)
          simp [h4]
        · refine rn rfl (fin_is [] rfl ⟨?_, rfl⟩)
          simp at h3; simp [h, h2, h3, h4]

theorem eqParamS_ct (xs ys : List Param) (hx : xs.length ≤ 9223372036854775807) :
    ACalls pk 37 [.one (.fs (xs.map eQ)), .one (.fs (ys.map eQ))] [] (fun r o => r = .one (.bool (decide (xs = ys))) ∧ o = []) := by
  refine acalls_of_body Tryz.func37 rfl (by kernel_rfl) rfl ?_
  refine rn rfl ?_
  refine goal_cond rfl (fun h => ?_) (fun h => ?_) <;> (try simp only [gt_iff_lt, ge_iff_le, bne_iff_ne, ne_eq, bne_eq_false_iff_eq, beq_iff_eq, beq_eq_false_iff_ne, Bool.not_eq_true', Bool.not_eq_false', decide_eq_true_eq, decide_eq_false_iff_not, List.length_map] at h)
  · refine rn rfl (fin_is [] rfl ⟨?_, rfl⟩)
    have : xs ≠ ys := fun h0 => h (by rw [h0])
    simp [this]
  · have hlen : xs.length = ys.length := by omega
    refine rn rfl ?_
    refine goal_loop_keep (fun m σ => ∃ (n : Int) (i : Nat), n = i ∧ i ≤ xs.length ∧ m = xs.length - i ∧ xs.take i = ys.take i ∧
        σ = ⟨[(5, .one (.int .i64 n)), (1, .one (.fs (ys.map eQ))), (0, .one (.fs (xs.map eQ)))], [], []⟩) xs.length [5, 1, 0] [] rfl
      ⟨_, 0, rfl, by omega, by omega, rfl, rfl⟩ ?_
    rintro m σ ⟨n, i, rfl, hi, rfl, hpre, rfl⟩
    refine rn rfl ?_
    refine goal_cond rfl (fun h => ?_) (fun h => ?_) <;> (try simp only [gt_iff_lt, ge_iff_le, bne_iff_ne, ne_eq, bne_eq_false_iff_eq, beq_iff_eq, beq_eq_false_iff_ne, Bool.not_eq_true', Bool.not_eq_false', decide_eq_true_eq, decide_eq_false_iff_not, List.length_map] at h)
    · obtain ⟨x, hxi⟩ := at_some (xs := xs) (i := i) (by omega)
      obtain ⟨y, hyi⟩ := at_some (xs := ys) (i := i) (by omega)
      refine rn rfl ?_
      refine goal_draw' [] 10 rfl ?_
      refine drn [0, 1, 4, 5] (by kernel_rfl) (by kernel_rfl) rfl rfl ?_
      refine AH_did 2 rfl (by kernel_rfl) (by kernel_rfl) (by kernel_rfl) rfl rfl (dA_index (eQ x) rfl rfl rfl rfl rfl rfl rfl (by omega) (by (try simp); omega) (map_at (by simpa using hxi)) rfl) ?_
      refine AH_did 6 rfl (by kernel_rfl) (by kernel_rfl) (by kernel_rfl) rfl rfl (dA_index (eQ y) rfl rfl rfl rfl rfl rfl rfl (by omega) (by (try simp); omega) (map_at (by simpa using hyi)) rfl) ?_
      refine drn [3, 7] (by kernel_rfl) (by kernel_rfl) rfl rfl ?_
      refine AH_one (i := 8) (by kernel_rfl) (step_call [] rfl rfl rfl rfl rfl rfl (eqParam_ct x y)) (by simp) ?_
      rintro σ2 ⟨r, o', ⟨rfl, rfl⟩, hσ⟩
      obtain rfl := Option.some.inj hσ
      clear hσ
      refine drn [9] (by kernel_rfl) (by kernel_rfl) rfl rfl ?_
      refine AH_end (by kernel_rfl) ?_
      refine rn rfl ?_
      have hstep := take_eq_step hpre hxi hyi
      refine goal_cond rfl (fun h2 => ?_) (fun h2 => ?_) <;> simp only [bne_iff_ne, ne_eq, bne_eq_false_iff_eq, Bool.not_eq_true', Bool.not_eq_false', decide_eq_true_eq, decide_eq_false_iff_not, beq_iff_eq, beq_eq_false_iff_ne] at h2
      · refine rn rfl ?_
        refine round_ret (fin_is [] rfl ⟨?_, rfl⟩)
        have : xs ≠ ys := fun h0 => h2 (hstep.1 (by rw [h0]))
        simp [this]
      · refine rn rfl ?_
        refine round_keep (xs.length - (i + 1)) [5, 1, 0] [] (by omega) rfl ⟨_, i + 1, ?_, by omega, rfl, hstep.2 h2, rfl⟩
        exact wrap64 (by omega) (by omega)
    · refine rn rfl ?_
      refine round_ext ?_
      refine rn rfl (fin_is [] rfl ⟨?_, rfl⟩)
      rw [show i = xs.length by omega, List.take_length, hlen, List.take_length] at hpre
      simp [hpre]

theorem eqSig_ct (s : Sig) (hs : s.length ≤ 16777216) : ACalls pk 12 [.agg (eG s), .agg (eG s)] [] (fun r o => r = .one (.bool true) ∧ o = []) := by
  refine acalls_of_body Tryz.func12 rfl (by kernel_rfl) rfl ?_
  refine rn rfl ?_
  refine goal_step (step_call [] rfl rfl rfl rfl rfl rfl (eqParamS_ct s s (by omega))) ?_
  rintro σ2 ⟨r, o', ⟨rfl, rfl⟩, hσ⟩
  obtain rfl := Option.some.inj hσ
  clear hσ
  refine rn rfl ?_
  refine goal_cond rfl (fun h2 => by simp at h2) (fun _ => ?_)
  exact rn rfl (fin_is [] rfl ⟨rfl, rfl⟩)

def seqQ1 (k : Int) : Param := ⟨markText k, k + 1, Int.tmod (k + 2) 3 == 0, k + 3⟩

def seqQ (k : Int) : Nat → List Param
  | 0 => []
  | n + 1 => seqQ1 k :: seqQ (k + 4) n

theorem seqQ_length : ∀ (n : Nat) (k : Int), (seqQ k n).length = n
  | 0, k => rfl
  | n + 1, k => by simp [seqQ, seqQ_length n]

theorem seqQ_at : ∀ (n : Nat) (k : Int) (i : Nat), i < n → (seqQ k n)[i]? = some (seqQ1 (k + 4 * i))
  | n + 1, k, 0, _ => by simp [seqQ]
  | n + 1, k, i + 1, h => by
    have e1 : k + 4 + 4 * (i : Int) = k + 4 * ((i + 1 : Nat) : Int) := by omega
    simp only [seqQ, List.getElem?_cons_succ, seqQ_at n (k + 4) i (by omega), e1]

theorem markParamS_ct (xs : List Param) (k : Int) (kc : Nat) (hl : xs.length ≤ 16777216) (hk : 0 ≤ k) (hk' : k ≤ 16777216) :
    ACalls pk 39 [.one (.os 0 0 xs.length kc), .one (.int .i64 k)] [ownQ xs] (fun r o => r = .one (.int .i64 (k + 4 * xs.length)) ∧ o = [ownQ (seqQ k xs.length)]) := by
  refine acalls_of_body Tryz.func39 rfl (by kernel_rfl) rfl ?_
  refine rn rfl ?_
  refine goal_loop_keep (fun m σ => ∃ (n q : Int) (i : Nat) (ys : List Param), n = i ∧ q = k + 4 * i ∧ i ≤ xs.length ∧ m = xs.length - i ∧ ys.length = xs.length ∧ ys.take i = (seqQ k xs.length).take i ∧
      σ = ⟨[(5, .one (.int .i64 n)), (1, .one (.int .i64 q)), (0, .one (.os 0 0 xs.length kc))], [ownQ ys], []⟩) xs.length [5, 1, 0] [] rfl
    ⟨_, _, 0, xs, rfl, by simp, by omega, by omega, rfl, rfl, rfl⟩ ?_
  rintro m σ ⟨n, q, i, ys, rfl, rfl, hi, rfl, hys, hpre, rfl⟩
  refine rn rfl ?_
  refine goal_cond rfl (fun h => ?_) (fun h => ?_) <;> (try simp only [gt_iff_lt, ge_iff_le, bne_iff_ne, ne_eq, bne_eq_false_iff_eq, beq_iff_eq, beq_eq_false_iff_ne, Bool.not_eq_true', Bool.not_eq_false', decide_eq_true_eq, decide_eq_false_iff_not, List.length_map] at h)
  · obtain ⟨⟨y1, y2, y3, y4⟩, hy⟩ := at_some (xs := ys) (i := i) (by omega)
    have hw1 : IntKind.i64.wrap (k + 4 * i + 1) = k + 4 * i + 1 := wrap64 (by omega) (by omega)
    have hw2 : IntKind.i64.wrap (k + 4 * i + 1 + 1) = k + 4 * i + 2 := by rw [wrap64 (by omega) (by omega)]; omega
    have hw3 : IntKind.i64.wrap (k + 4 * i + 2 + 1) = k + 4 * i + 3 := by rw [wrap64 (by omega) (by omega)]; omega
    have hw4 : IntKind.i64.wrap (k + 4 * i + 3 + 1) = k + 4 * i + 4 := by rw [wrap64 (by omega) (by omega)]; omega
    refine rn rfl ?_
    refine goal_step (step_call [] rfl rfl rfl rfl rfl rfl (markText_ct (k + 4 * i) (by omega))) ?_
    rintro σ2 ⟨r, o', ⟨rfl, rfl⟩, hσ⟩
    obtain rfl := Option.some.inj hσ
    clear hσ
    refine rn rfl ?_
    refine goal_did rfl rfl (dA_indexOwn rfl rfl rfl rfl rfl rfl rfl rfl rfl (by omega) (by omega)) ?_
    refine goal_did rfl rfl (dA_step rfl) ?_
    refine goal_did rfl rfl (dA_storeEl (eQ ⟨y1, y2, y3, y4⟩) ((ys.set i ⟨markText (k + 4 * i), y2, y3, y4⟩).map eQ) true rfl rfl rfl rfl rfl (map_at (by simpa using hy)) rfl rfl (by simp [eQ]) (by rw [map_set]; simp [patch, eQ]) (fun _ => noOwnR_map _ eQ_noOwn _)) ?_
    refine rn rfl ?_
    rw [hw1]
    refine goal_did rfl rfl (dA_indexOwn rfl rfl rfl rfl rfl rfl rfl rfl rfl (by omega) (by omega)) ?_
    refine goal_did rfl rfl (dA_step rfl) ?_
    refine goal_did rfl rfl (dA_storeEl (eQ ⟨markText (k + 4 * i), y2, y3, y4⟩) ((ys.set i ⟨markText (k + 4 * i), k + 4 * i + 1, y3, y4⟩).map eQ) true rfl rfl rfl rfl rfl (map_at (set_at (by simp) (by omega))) rfl rfl (by simp [eQ]) (by simp only [map_set, patch, eQ]; simp) (fun _ => noOwnR_map _ eQ_noOwn _)) ?_
    refine rn rfl ?_
    rw [hw2]
    refine goal_did rfl rfl (dA_indexOwn rfl rfl rfl rfl rfl rfl rfl rfl rfl (by omega) (by omega)) ?_
    refine goal_did rfl rfl (dA_step rfl) ?_
    refine goal_did rfl rfl (dA_storeEl (eQ ⟨markText (k + 4 * i), k + 4 * i + 1, y3, y4⟩) ((ys.set i ⟨markText (k + 4 * i), k + 4 * i + 1, Int.tmod (k + 4 * i + 2) 3 == 0, y4⟩).map eQ) true rfl rfl rfl rfl rfl (map_at (set_at (by simp) (by omega))) rfl rfl (by simp [eQ]) (by simp only [map_set, patch, eQ]; simp) (fun _ => noOwnR_map _ eQ_noOwn _)) ?_
    refine rn rfl ?_
    rw [hw3]
    refine goal_did rfl rfl (dA_indexOwn rfl rfl rfl rfl rfl rfl rfl rfl rfl (by omega) (by omega)) ?_
    refine goal_did rfl rfl (dA_step rfl) ?_
    refine goal_did rfl rfl (dA_storeEl (eQ ⟨markText (k + 4 * i), k + 4 * i + 1, Int.tmod (k + 4 * i + 2) 3 == 0, y4⟩) ((ys.set i (seqQ1 (k + 4 * i))).map eQ) true rfl rfl rfl rfl rfl (map_at (set_at (by simp) (by omega))) rfl rfl (by simp [eQ]) (by simp only [map_set, patch, eQ, seqQ1]; simp) (fun _ => noOwnR_map _ eQ_noOwn _)) ?_
    refine rn rfl ?_
    refine round_keep (xs.length - (i + 1)) [5, 1, 0] [] (by omega) rfl ⟨_, _, i + 1, ys.set i _, wrap64 (by omega) (by omega), ?_, by omega, rfl, by simp [hys], take_set_step _ ys i _ (seqQ_at _ _ _ (by omega)) (by rw [seqQ_length]; exact hys) hpre, rfl⟩
    rw [hw4]; omega
  · refine rn rfl ?_
    refine round_ext ?_
    refine rn rfl (fin_is [] rfl ⟨?_, ?_⟩)
    · rw [show i = xs.length by omega]
    · rw [show i = xs.length by omega] at hpre
      have h1 : ys = seqQ k xs.length := by
        have := hpre
        rwa [← hys, List.take_length, hys, List.take_of_length_le (by rw [seqQ_length]; exact Nat.le_refl _)] at this
      rw [← h1]; rfl

theorem markSig_ct (xs : List Param) (k : Int) (kc : Nat) (hl : xs.length ≤ 16777216) (hk : 0 ≤ k) (hk' : k ≤ 16777216) :
    ACalls pk 14 [.agg [.os 0 0 xs.length kc], .one (.int .i64 k)] [ownQ xs] (fun r o => r = .one (.int .i64 (k + 4 * xs.length)) ∧ o = [ownQ (seqQ k xs.length)]) := by
  refine acalls_of_body Tryz.func14 rfl (by kernel_rfl) rfl ?_
  refine rn rfl ?_
  refine goal_step (step_call [0] rfl rfl rfl rfl rfl rfl (markParamS_ct xs k kc hl hk hk')) ?_
  rintro σ2 ⟨r, o', ⟨rfl, rfl⟩, hσ⟩
  obtain rfl := Option.some.inj hσ
  clear hσ
  refine rn rfl ?_
  exact rn rfl (fin_is [] rfl ⟨rfl, rfl⟩)

theorem asFl (f : Flat) : T.agg [C.fs (List.take f.places.length (List.drop 0 (f.places.map eI))), C.fs (List.take f.named.length (List.drop 0 (f.named.map eP)))] = T.agg (eF f) := by
  rw [takeAll eI _ _ rfl, takeAll eP _ _ rfl]; rfl

theorem asG (s : Sig) : T.agg [C.fs (List.take s.length (List.drop 0 (s.map eQ)))] = T.agg (eG s) := by
  rw [takeAll eQ _ _ rfl]; rfl

theorem toSigD_ct (s : Sig) (h0 : s.length ≤ 16777216) : ACalls pk 8 [.agg (eG s)] [] (fun r o => r = .agg (eG s) ∧ o = []) :=
  (toSig_ct s h0).told [] (by rintro r o ⟨rfl, rfl⟩; exact ⟨_, _, rfl, asG s, rfl⟩)

structure SmallS (s : Sig) : Prop where
  len : s.length ≤ 8
  names : ∀ p ∈ s, p.name.length ≤ 7

theorem OkS.small {s : Sig} (h : OkS s) : SmallS s := ⟨h.len, fun p hp => by have := h.nameLen hp; omega⟩

/-- Given by its place. -/
def byPl (pl : List Int) (i : Nat) (p : Param) : Bool := placedQ p && decide (i < pl.length)

def giveQ (s : Sig) (pl : List Int) (qs : List Pair) (i : Nat) (p : Param) : Slot :=
  if p.kind = 4 then ⟨false, [], qs.filter fun q => takesQ s q.name == (i : Int)⟩
  else if namedQ p && !byPl pl i p then (match qs.find? (nameIs p.name) with
    | some q => ⟨true, [q.value], []⟩
    | none => zL)
  else place1 (placesQ s) pl i p

def wrongQ (s : Sig) (pl : List Int) (q : Pair) : Option Problem :=
  if takesQ s q.name < 0 then some ⟨1, q.name⟩ else
  match s[(takesQ s q.name).toNat]? with
  | some p => if p.kind = 4 then none else if byPl pl (takesQ s q.name).toNat p then some ⟨2, q.name⟩ else none
  | none => none

def closedQ (s : Sig) (pl : List Int) (qs : List Pair) : Bnds × List Problem := (s.mapIdx (giveQ s pl qs), manyQ s pl ++ qs.filterMap (wrongQ s pl))

theorem giveQ_nil {s : Sig} (pl : List Int) (i : Nat) (p : Param) : giveQ s pl [] i p = place1 (placesQ s) pl i p := by
  unfold giveQ
  by_cases h4 : p.kind = 4
  · rw [if_pos h4]
    have : placedQ p = false := by
      cases h : placedQ p with
      | false => rfl
      | true => rw [placed_kind] at h; omega
    unfold place1
    simp [this, h4, zL]
  · rw [if_neg h4]
    split
    · rename_i h
      simp only [Bool.and_eq_true, Bool.not_eq_true'] at h
      have hk := named_kind.1 h.1
      unfold place1
      unfold byPl at h
      rw [h.2]
      have : (p.kind == 2) = false := by simp; omega
      simp [this]
    · rfl

theorem closed_nil (s : Sig) (pl : List Int) : closedQ s pl [] = (phase1 s pl, manyQ s pl) := by
  simp only [closedQ, phase1, List.filterMap_nil, List.append_nil]
  congr 1
  apply List.ext_getElem?
  intro i
  rw [List.getElem?_mapIdx, List.getElem?_mapIdx]
  cases s[i]? with
  | none => rfl
  | some p => simp only [Option.map_some, giveQ_nil]

theorem takes_named {s : Sig} (hs : OkS s) {i : Nat} {p : Param} (hp : s[i]? = some p) (hn : namedQ p = true) : takesQ s p.name = (i : Int) := by
  have hq : ∀ j q, s[j]? = some q → q.name = p.name → j = i := fun j q hj hqn => by
    have hnd := hs.nodup
    rw [List.nodup_iff_pairwise_ne, List.pairwise_iff_getElem] at hnd
    have hi := lt_of_some hp
    have hjl := lt_of_some hj
    rw [List.getElem?_eq_getElem hi] at hp
    rw [List.getElem?_eq_getElem hjl] at hj
    simp only [Option.some.injEq] at hp hj
    rcases Nat.lt_trichotomy j i with h | h | h
    · exact absurd (by rw [List.getElem_map, List.getElem_map, hp, hj, hqn]) (hnd j i (by simpa using hjl) (by simpa using hi) h)
    · exact h
    · exact absurd (by rw [List.getElem_map, List.getElem_map, hp, hj, hqn]) (hnd i j (by simpa using hi) (by simpa using hjl) h)
  have hany : s.any (qIs p.name) = true := by rw [List.any_eq_true]; exact ⟨p, List.mem_of_getElem? hp, by simp [qIs]⟩
  obtain ⟨q, hf, hqi, hqn, hlt⟩ := idxI_find (idxI_ge (i := 0).2 hany)
  have hqn' : q.name = p.name := by simpa [qIs] using hqn
  have hix := hq _ q hqi hqn'
  have hpq : q = p := by rw [hix, hp] at hqi; exact (Option.some.inj hqi).symm
  have h0 := idxI_ge (i := 0).2 hany
  unfold takesQ
  rw [hf]
  simp only [hpq, hn, if_true]
  omega

theorem find_snoc {qs : List Pair} {q : Pair} {n : Str} : (qs ++ [q]).find? (nameIs n) = (match qs.find? (nameIs n) with
    | some x => some x
    | none => if q.name = n then some q else none) := by
  rw [List.find?_append]
  cases qs.find? (nameIs n) with
  | some x => rfl
  | none =>
    simp only [Option.none_or, List.find?_cons, List.find?_nil, nameIs]
    by_cases h : q.name = n
    · simp [h]
    · have : (q.name == n) = false := by simpa using h
      simp [h, this]

theorem find_none {qs : List Pair} {n : Str} (h : n ∉ namesOf qs) : qs.find? (nameIs n) = none := by
  rw [List.find?_eq_none]
  intro x hx hxn
  exact h (by simp only [nameIs, beq_iff_eq] at hxn; rw [← hxn]; exact List.mem_map_of_mem hx)

theorem closed_step {s : Sig} (hs : OkS s) {pl : List Int} {qs : List Pair} {q : Pair} (hq : q.name ∉ namesOf qs) : stepB s (closedQ s pl qs) q = closedQ s pl (qs ++ [q]) := by
  by_cases hneg : takesQ s q.name < 0
  · rw [stepB_neg hneg]
    simp only [closedQ, List.filterMap_append, List.filterMap_cons, List.filterMap_nil, wrongQ, hneg, if_true, List.append_assoc]
    congr 1
    apply List.ext_getElem?
    intro i
    simp only [List.getElem?_mapIdx]
    cases hp : s[i]? with
    | none => rfl
    | some p =>
      simp only [Option.map_some, Option.some.injEq, giveQ]
      split
      · have : (takesQ s q.name == (i : Int)) = false := by simp; omega
        simp [this]
      · split
        · rename_i h4 hn
          simp only [Bool.and_eq_true] at hn
          have ht := takes_named hs hp hn.1
          rw [find_snoc]
          have hne : q.name ≠ p.name := fun h0 => by rw [h0, ht] at hneg; omega
          rw [if_neg hne]
          cases qs.find? (nameIs p.name) <;> rfl
        · rfl
  · obtain ⟨p, hp, hlt, hk⟩ := takesQ_some hneg
    have hat : takesQ s q.name = ((takesQ s q.name).toNat : Nat) := by omega
    generalize hj : (takesQ s q.name).toNat = j at hp hat
    have hx : (closedQ s pl qs).1[j]? = some (giveQ s pl qs j p) := by simp [closedQ, hp]
    have hother : ∀ (i : Nat) (r : Param), s[i]? = some r → i ≠ j → giveQ s pl (qs ++ [q]) i r = giveQ s pl qs i r := fun i r hr hij => by
      simp only [giveQ]
      split
      · have : (takesQ s q.name == (i : Int)) = false := by rw [hat]; simp; omega
        simp [this]
      · split
        · rename_i h4 hn
          simp only [Bool.and_eq_true] at hn
          have ht := takes_named hs hr hn.1
          rw [find_snoc]
          have hne : q.name ≠ r.name := fun h0 => by rw [h0, ht] at hat; omega
          rw [if_neg hne]
          cases qs.find? (nameIs r.name) <;> rfl
        · rfl
    have hset : ∀ y : Slot, giveQ s pl (qs ++ [q]) j p = y → (closedQ s pl qs).1.set j y = (closedQ s pl (qs ++ [q])).1 := fun y hy => by
      apply List.ext_getElem?
      intro i
      simp only [closedQ, List.getElem?_set, List.getElem?_mapIdx, List.length_mapIdx]
      by_cases hij : j = i
      · subst hij; rw [if_pos rfl, if_pos (lt_of_some hp), hp]; simp [hy]
      · rw [if_neg hij]
        cases hr : s[i]? with
        | none => rfl
        | some r => simp [hother i r hr (fun h => hij h.symm)]
    have hwr : ∀ w : Option Problem, wrongQ s pl q = w → (closedQ s pl (qs ++ [q])).2 = (closedQ s pl qs).2 ++ w.toList := fun w hw => by
      simp only [closedQ, List.filterMap_append, List.append_assoc]
      congr 1
      congr 1
      cases w <;> simp [List.filterMap_cons, hw]
    by_cases h4 : p.kind = 4
    · rw [stepB_map hat hp hx h4]
      have hw : wrongQ s pl q = none := by simp [wrongQ, hneg, hj, hp, h4]
      have h1 := hwr none hw
      refine Prod.ext (hset _ ?_) (by rw [h1]; simp)
      simp [giveQ, h4, hat]
    · have hn : namedQ p = true ∧ p.name = q.name := by
        rcases hk with h | h
        · exact h
        · exact absurd h h4
      have hnf : qs.find? (nameIs p.name) = none := by rw [hn.2]; exact find_none hq
      by_cases hb : byPl pl j p = true
      · have hg : (giveQ s pl qs j p).given = true := by
          unfold byPl at hb
          simp only [giveQ, h4, if_false, hn.1, byPl, hb, Bool.not_true, Bool.and_false, Bool.false_eq_true, place1, if_true]
        rw [stepB_twice hat hp hx h4 hg]
        have hw : wrongQ s pl q = some ⟨2, q.name⟩ := by simp [wrongQ, hneg, hj, hp, h4, hb]
        have h1 := hwr _ hw
        refine Prod.ext ?_ (by rw [h1]; rfl)
        have h2 := hset (giveQ s pl qs j p) (by simp only [giveQ, h4, if_false, hn.1, hb, Bool.not_true, Bool.and_false, Bool.false_eq_true])
        rw [set_same hx] at h2
        exact h2
      · have hb' : byPl pl j p = false := by simpa using hb
        have hg : (giveQ s pl qs j p).given = false := by
          simp only [giveQ, h4, if_false, hn.1, hb', Bool.not_false, Bool.and_self, if_true, hnf, zL]
        rw [stepB_set hat hp hx h4 hg]
        have hw : wrongQ s pl q = none := by simp [wrongQ, hneg, hj, hp, h4, hb']
        have h1 := hwr none hw
        refine Prod.ext (hset _ ?_) (by rw [h1]; simp)
        rw [hn.2] at hnf
        simp only [giveQ, h4, if_false, hn.1, hb', Bool.not_false, Bool.and_self, if_true, find_snoc, hnf, hn.2]

theorem closed_fold {s : Sig} (hs : OkS s) {pl : List Int} : ∀ (rs qs : List Pair), (namesOf (qs ++ rs)).Nodup → rs.foldl (stepB s) (closedQ s pl qs) = closedQ s pl (qs ++ rs)
  | [], qs, _ => by simp
  | r :: rs, qs, h => by
    have hr : r.name ∉ namesOf qs := by
      intro h0
      simp only [namesOf, List.map_append, List.map_cons] at h h0
      exact (List.nodup_append.1 h).2.2 _ h0 _ (List.mem_cons_self ..) rfl
    rw [List.foldl_cons, closed_step hs hr, closed_fold hs rs (qs ++ [r]) (by simpa using h)]
    simp

/-- What a call gives. -/
theorem bound_closed {s : Sig} (hs : OkS s) {f : Flat} (hf : (namesOf f.named).Nodup) : boundQ s f = closedQ s f.places f.named := by
  rw [boundQ, ← closed_nil, closed_fold hs f.named [] (by simpa using hf)]
  simp

def atP (f : Flat) (q : Param) : Bool := q.kind == 1 && f.named.any (nameIs q.name)

def atQ (s : Sig) (f : Flat) : Int := idxI (atP f) s 0

def giveP (f : Flat) (q : Param) : Param := if namedQ q then (match f.named.find? (nameIs q.name) with
  | some r => ⟨q.name, q.kind, true, r.value⟩
  | none => q) else q

def kindP (b : Bool) (q : Param) : Param := if q.kind == 1 && b then ⟨q.name, 3, q.hasD, q.dflt⟩ else q

def skipP (at' : Int) (f : Flat) (i : Nat) (q : Param) : Bool := (placedQ q && decide (i < f.places.length)) || (q.kind == 2 && decide (0 ≤ at'))

def partParam (at' : Int) (f : Flat) (i : Nat) (q : Param) : Option Param :=
  if skipP at' f i q then none else some (giveP f (kindP (decide (0 ≤ at') && decide (at' ≤ i)) q))

def psL (at' : Int) (f : Flat) (s : Sig) : Sig := s.zipIdx.filterMap fun x => partParam at' f x.2 x.1

theorem psL_succ {at' : Int} {f : Flat} {s : Sig} {i : Nat} {q : Param} (hq : s[i]? = some q) : psL at' f (s.take (i + 1)) = psL at' f (s.take i) ++ (partParam at' f i q).toList := by
  have hl : (s.take i).length = i := by have := lt_of_some hq; simp; omega
  unfold psL
  rw [← take_snoc hq, List.zipIdx_append, List.filterMap_append, hl]
  simp [List.filterMap_cons]
  cases partParam at' f i q <;> rfl

theorem partParam_name {at' : Int} {f : Flat} {i : Nat} {q r : Param} (h : partParam at' f i q = some r) : r.name = q.name := by
  unfold partParam at h
  split at h
  · cases h
  · simp only [Option.some.injEq] at h
    rw [← h]
    unfold giveP kindP
    split <;> split <;> (try split) <;> rfl

theorem pair_at {f : Flat} {n : Str} (h : 0 ≤ pairIx f.named n) : ∃ r, f.named.find? (nameIs n) = some r ∧ f.named[(pairIx f.named n).toNat]? = some r ∧ pairIx f.named n < f.named.length := by
  obtain ⟨r, h1, h2, _, h3⟩ := idxI_find h
  exact ⟨r, h1, h2, h3⟩

theorem idxI_le {α : Type} {pred : α → Bool} : ∀ {xs : List α} {k i : Nat} {x : α}, xs[i]? = some x → pred x = true → 0 ≤ idxI pred xs k ∧ idxI pred xs k ≤ ((k + i : Nat) : Int)
  | y :: xs, k, 0, x, hx, hp => by
    simp at hx; subst hx
    simp [idxI, hp]
  | y :: xs, k, i + 1, x, hx, hp => by
    simp only [List.getElem?_cons_succ] at hx
    have := idxI_le (k := k + 1) hx hp
    unfold idxI
    split
    · omega
    · omega

theorem part_np {s : Sig} {f : Flat} (h : partQ s f = true) {i : Nat} {x : Param} (hx : s[i]? = some x) (hp : placedQ x = true) (hi : i < f.places.length) (hn : namedQ x = true) : f.named.any (nameIs x.name) = false := by
  simp only [partQ, Bool.and_eq_true, decide_eq_true_eq] at h
  obtain ⟨h1, h2⟩ := h
  obtain ⟨hs, hf⟩ := fitQ_iff.1 h1
  have hnd : (namesOf f.named).Nodup := by
    have := okFlat_iff.2 hf
    simp [okFlat] at this; exact this.1.1.1.2
  rw [bound_closed hs hnd] at h2
  simp only [closedQ, List.append_eq_nil_iff, List.filterMap_eq_nil_iff] at h2
  cases ha : f.named.any (nameIs x.name) with
  | false => rfl
  | true =>
    rw [List.any_eq_true] at ha
    obtain ⟨q, hq, hqn⟩ := ha
    simp only [nameIs, beq_iff_eq] at hqn
    have hw := h2.2 q hq
    have ht := takes_named hs hx hn
    rw [← hqn] at ht
    have hk := placed_kind.1 hp
    have hb : byPl f.places i x = true := by simp [byPl, hp, hi]
    unfold wrongQ at hw
    rw [ht] at hw
    simp only [Int.toNat_natCast, hx] at hw
    rw [if_neg (by omega), if_neg (by omega), if_pos hb] at hw
    cases hw

theorem np_at {s : Sig} {f : Flat} (h : partQ s f = true) {i : Nat} {x : Param} (hx : s[i]? = some x) (hp : placedQ x = true) (hi : i < f.places.length) : atP f x = false := by
  unfold atP
  cases hk : x.kind == 1 with
  | false => rfl
  | true =>
    rw [part_np h hx hp hi (by simp at hk; simp [namedQ, hk])]; rfl

def psQ (s : Sig) (f : Flat) : Sig := psL (atQ s f) f s

theorem acc_iff {s : Sig} {f : Flat} (hs : OkS s) (hf : OkF f) : accQ s f = true ↔
    (placesQ s < f.places.length → s.any (kIs 2) = true) ∧ (∀ q ∈ f.named, wrongQ s f.places q = none) ∧ missingQ s (s.mapIdx (giveQ s f.places f.named)) = [] := by
  have hb := bound_closed hs hf.nodup
  unfold accQ bindQ
  rw [hb]
  simp only [closedQ, decide_eq_true_eq, List.append_eq_nil_iff, List.filterMap_eq_nil_iff, and_assoc]
  have hm : manyQ s f.places = [] ↔ (placesQ s < f.places.length → s.any (kIs 2) = true) := by
    unfold manyQ
    split
    · rename_i h
      simp only [Bool.and_eq_true, decide_eq_true_eq, Bool.not_eq_true'] at h
      constructor
      · intro h0; cases h0
      · intro h0; rw [h0 h.1] at h; cases h.2
    · rename_i h
      simp only [true_iff]
      intro h0
      cases ha : s.any (kIs 2) with
      | true => rfl
      | false => exact absurd (by simp [h0, ha]) h
  rw [hm]

theorem give_given {s : Sig} {pl : List Int} {qs : List Pair} {i : Nat} {p : Param} (h : singleQ p = true) :
    (giveQ s pl qs i p).given = (byPl pl i p || (namedQ p && qs.any (nameIs p.name))) := by
  rw [single_kind] at h
  have hf : (qs.find? (nameIs p.name)).isSome = qs.any (nameIs p.name) := by
    cases ha : qs.any (nameIs p.name) with
    | true =>
      rw [List.find?_isSome]
      exact List.any_eq_true.1 ha
    | false =>
      cases hq : qs.find? (nameIs p.name) with
      | none => rfl
      | some q =>
        have h1 := List.mem_of_find?_eq_some hq
        have h2 := List.find?_some hq
        have : qs.any (nameIs p.name) = true := List.any_eq_true.2 ⟨q, h1, h2⟩
        rw [this] at ha; cases ha
  unfold giveQ
  rw [if_neg (by omega)]
  cases hb : byPl pl i p with
  | true =>
    simp only [Bool.not_true, Bool.and_false, Bool.true_or]
    unfold byPl at hb
    simp [place1, hb]
  | false =>
    cases hn : namedQ p with
    | true =>
      simp only [Bool.not_false, Bool.and_self, if_true, Bool.false_or, Bool.true_and]
      rw [← hf]
      cases qs.find? (nameIs p.name) <;> rfl
    | false =>
      simp only [Bool.false_and, Bool.false_or]
      unfold byPl at hb
      have h2 : (p.kind == 2) = false := by simp; omega
      simp [place1, hb, h2, zL]

/-- What is lacking, parameter by parameter. -/
theorem lack_iff {s : Sig} {pl : List Int} {qs : List Pair} : missingQ s (s.mapIdx (giveQ s pl qs)) = [] ↔
    ∀ (i : Nat) (p : Param), s[i]? = some p → singleQ p = true → p.hasD = true ∨ byPl pl i p = true ∨ (namedQ p = true ∧ qs.any (nameIs p.name) = true) := by
  unfold missingQ
  rw [List.filterMap_eq_nil_iff]
  constructor
  · intro h i p hp hsg
    have hz : (p, giveQ s pl qs i p) ∈ s.zip (s.mapIdx (giveQ s pl qs)) := List.mem_of_getElem? (i := i) (by
      rw [List.getElem?_zip_eq_some]; exact ⟨hp, by simp [List.getElem?_mapIdx, hp]⟩)
    have h1 := h _ hz
    unfold lackQ at h1
    simp only [give_given hsg, hsg, Bool.true_and] at h1
    split at h1
    · cases h1
    · rename_i h2
      cases hd : p.hasD with
      | true => exact .inl rfl
      | false =>
        right
        rw [hd] at h2
        simp only [Bool.not_false, Bool.true_and, Bool.not_eq_true', Bool.not_eq_false] at h2
        simpa using h2
  · intro h z hz
    obtain ⟨i, hi⟩ := List.getElem?_of_mem hz
    rw [List.getElem?_zip_eq_some] at hi
    obtain ⟨h1, h2⟩ := hi
    rw [List.getElem?_mapIdx, h1] at h2
    simp only [Option.map_some, Option.some.injEq] at h2
    unfold lackQ
    split
    · rename_i h3
      simp only [Bool.and_eq_true, Bool.not_eq_true'] at h3
      have h4 := h i z.1 h1 h3.1.1
      rw [← h2, give_given h3.1.1] at h3
      rcases h4 with h4 | h4 | ⟨h4, h5⟩
      · rw [h4] at h3; cases h3.1.2
      · rw [h4] at h3; cases h3.2
      · rw [h4, h5] at h3; simp at h3
    · rfl

/-- What is wrong with a name. -/
theorem wrong_iff {s : Sig} {pl : List Int} {q : Pair} : wrongQ s pl q = none ↔
    0 ≤ takesQ s q.name ∧ ∀ p, s[(takesQ s q.name).toNat]? = some p → p.kind ≠ 4 → byPl pl (takesQ s q.name).toNat p = false := by
  unfold wrongQ
  constructor
  · intro h
    split at h
    · cases h
    · rename_i h1
      refine ⟨by omega, fun p hp hk => ?_⟩
      rw [hp] at h
      simp only at h
      rw [if_neg hk] at h
      cases hb : byPl pl (takesQ s q.name).toNat p with
      | false => rfl
      | true => rw [if_pos hb] at h; cases h
  · rintro ⟨h1, h2⟩
    rw [if_neg (by omega)]
    cases hp : s[(takesQ s q.name).toNat]? with
    | none => rfl
    | some p =>
      simp only
      by_cases hk : p.kind = 4
      · rw [if_pos hk]
      · rw [if_neg hk, if_neg (by rw [h2 p hp hk]; simp)]

theorem place1_small (np : Nat) (pl : List Int) (i : Nat) (p : Param) (h : pl.length ≤ 8) : (place1 np pl i p).list.length ≤ 8 ∧ (place1 np pl i p).pairs.length ≤ 8 := by
  unfold place1
  split
  · simp
  · split
    · simp; omega
    · simp [zL]

theorem bind_small (s : Sig) (f : Flat) : (BindQ s f).1.length ≤ 8 ∧ ∀ x ∈ (BindQ s f).1, x.list.length ≤ 8 ∧ x.pairs.length ≤ 8 := by
  unfold BindQ
  split
  · rename_i h
    simp only [Bool.and_eq_true] at h
    obtain ⟨hs, hf⟩ := fitQ_iff.1 h.1
    have h1 := hf.places
    have h2 := hf.named
    rw [bound_closed hs hf.nodup]
    refine ⟨by simp only [closedQ, List.length_mapIdx]; exact hs.len, fun x hx => ?_⟩
    simp only [closedQ, List.mem_mapIdx] at hx
    obtain ⟨i, hi, rfl⟩ := hx
    unfold giveQ
    split
    · have := List.length_filter_le (fun q : Pair => takesQ s q.name == (i : Int)) f.named
      simp; omega
    · split
      · split <;> simp [zL]
      · exact place1_small _ _ _ _ h1
  · simp

theorem name_inj {s : Sig} (hs : OkS s) {i j : Nat} {p q : Param} (hp : s[i]? = some p) (hq : s[j]? = some q) (h : p.name = q.name) : i = j := by
  refine (List.getElem?_inj (l := s.map Param.name) (by have := lt_of_some hp; simpa using this) hs.nodup).1 ?_
  rw [List.getElem?_map, List.getElem?_map, hp, hq]
  simp [h]

theorem any_names {qs : List Pair} {n : Str} : qs.any (nameIs n) = true ↔ n ∈ namesOf qs := by
  simp [namesOf, nameIs]

/-- Where a name goes. -/
def goesQ (s : Sig) (n : Str) : Prop := (∃ (i : Nat) (p : Param), s[i]? = some p ∧ namedQ p = true ∧ p.name = n) ∨ ∃ p ∈ s, p.kind = 4

theorem takes_goes {s : Sig} (hs : OkS s) {n : Str} : 0 ≤ takesQ s n ↔ goesQ s n := by
  constructor
  · intro h
    obtain ⟨p, hp, _, hk⟩ := takesQ_some (show ¬ takesQ s n < 0 by omega)
    rcases hk with ⟨h1, h2⟩ | h1
    · exact .inl ⟨_, p, hp, h1, h2⟩
    · exact .inr ⟨p, List.mem_of_getElem? hp, h1⟩
  · intro h
    by_cases hA : ∃ (i : Nat) (p : Param), s[i]? = some p ∧ namedQ p = true ∧ p.name = n
    · obtain ⟨i, p, hp, hn, rfl⟩ := hA
      rw [takes_named hs hp hn]; omega
    · rcases h with h | ⟨p, hp, hk⟩
      · exact absurd h hA
      · have h4 : takesQ s n = idxI (kIs 4) s 0 := by
          cases hf : s.find? (qIs n) with
          | none => simp [takesQ, hf]
          | some q =>
            cases hn : namedQ q with
            | false => simp [takesQ, hf, hn]
            | true =>
              have h1 := List.mem_of_find?_eq_some hf
              have h2 := List.find?_some hf
              obtain ⟨i, hi⟩ := List.getElem?_of_mem h1
              exact absurd ⟨i, q, hi, hn, by simpa [qIs] using h2⟩ hA
        rw [h4]
        exact idxI_ge.2 (List.any_eq_true.2 ⟨p, hp, by simpa [kIs] using hk⟩)

theorem wrong_iff2 {s : Sig} (hs : OkS s) {pl : List Int} {q : Pair} : wrongQ s pl q = none ↔
    goesQ s q.name ∧ ∀ (i : Nat) (p : Param), s[i]? = some p → namedQ p = true → p.name = q.name → byPl pl i p = false := by
  rw [wrong_iff, takes_goes hs]
  constructor
  · rintro ⟨h1, h2⟩
    refine ⟨h1, fun i p hp hn he => ?_⟩
    have ht := takes_named hs hp hn
    rw [he] at ht
    have := h2 p (by rw [ht]; simpa using hp) (by have := named_kind.1 hn; omega)
    rw [ht] at this
    simpa using this
  · rintro ⟨h1, h2⟩
    refine ⟨h1, fun p hp hk => ?_⟩
    obtain ⟨p', hp', _, hk'⟩ := takesQ_some (show ¬ takesQ s q.name < 0 by have := (takes_goes hs).2 h1; omega)
    rw [hp] at hp'
    cases hp'
    rcases hk' with ⟨h3, h4⟩ | h3
    · exact h2 _ p hp h3 h4
    · exact absurd h3 hk

theorem find_isSome {f : Flat} {n : Str} : (f.named.find? (nameIs n)).isSome = f.named.any (nameIs n) := by
  cases ha : f.named.any (nameIs n) with
  | true => rw [List.find?_isSome]; exact List.any_eq_true.1 ha
  | false =>
    cases hq : f.named.find? (nameIs n) with
    | none => rfl
    | some q =>
      have : f.named.any (nameIs n) = true := List.any_eq_true.2 ⟨q, List.mem_of_find?_eq_some hq, List.find?_some hq⟩
      rw [this] at ha; cases ha

theorem kindP_facts (b : Bool) (q : Param) : (kindP b q).name = q.name ∧ (kindP b q).kind = (if q.kind = 1 ∧ b = true then 3 else q.kind) ∧ (kindP b q).hasD = q.hasD ∧ namedQ (kindP b q) = namedQ q := by
  unfold kindP namedQ
  by_cases h1 : q.kind = 1
  · cases b <;> simp [h1]
  · simp [h1]

theorem giveP_facts (f : Flat) (q : Param) : (giveP f q).name = q.name ∧ (giveP f q).kind = q.kind ∧ (giveP f q).hasD = (q.hasD || (namedQ q && f.named.any (nameIs q.name))) := by
  unfold giveP
  rw [← find_isSome]
  cases hn : namedQ q with
  | false => simp
  | true =>
    simp only [if_true]
    cases f.named.find? (nameIs q.name) <;> simp

/-- What becomes of a parameter. -/
structure KeptQ (k : Int) (f : Flat) (i : Nat) (p p' : Param) : Prop where
  name : p'.name = p.name
  kind : p'.kind = if p.kind = 1 ∧ 0 ≤ k ∧ k ≤ i then 3 else p.kind
  hasD : p'.hasD = (p.hasD || (namedQ p && f.named.any (nameIs p.name)))
  place : ¬ (placedQ p = true ∧ i < f.places.length)
  rest : ¬ (p.kind = 2 ∧ 0 ≤ k)

theorem partParam_facts {k : Int} {f : Flat} {i : Nat} {p p' : Param} (h : partParam k f i p = some p') : KeptQ k f i p p' := by
  have hn := partParam_name h
  unfold partParam at h
  split at h
  · cases h
  · rename_i hs
    simp only [Option.some.injEq] at h
    obtain ⟨a1, a2, a3, a4⟩ := kindP_facts (decide (0 ≤ k) && decide (k ≤ i)) p
    obtain ⟨b1, b2, b3⟩ := giveP_facts f (kindP (decide (0 ≤ k) && decide (k ≤ i)) p)
    rw [h] at b1 b2 b3
    refine ⟨hn, ?_, ?_, ?_, ?_⟩
    · rw [b2, a2]; simp
    · rw [b3, a3, a4, a1]
    · rintro ⟨h1, h2⟩; exact hs (by simp [skipP, h1, h2])
    · rintro ⟨h1, h2⟩; exact hs (by simp [skipP, h1, h2])

theorem partParam_keep {k : Int} {f : Flat} {i : Nat} {p : Param} (h1 : ¬ (placedQ p = true ∧ i < f.places.length)) (h2 : ¬ (p.kind = 2 ∧ 0 ≤ k)) : ∃ p', partParam k f i p = some p' := by
  unfold partParam
  rw [if_neg]
  · exact ⟨_, rfl⟩
  · unfold skipP
    simp only [Bool.or_eq_true, Bool.and_eq_true, decide_eq_true_eq, beq_iff_eq]
    rintro (h | h)
    · exact h1 h
    · exact h2 h

theorem psL_split {k : Int} {f : Flat} {s : Sig} (i : Nat) : ∃ r, psL k f s = psL k f (s.take i) ++ r := by
  refine ⟨((s.drop i).zipIdx (0 + (s.take i).length)).filterMap (fun x => partParam k f x.2 x.1), ?_⟩
  conv => lhs; rw [← List.take_append_drop i s]
  unfold psL
  rw [List.zipIdx_append, List.filterMap_append]

/-- The facts of a partial call's signature. -/
structure PsFacts (s : Sig) (pf : Flat) : Prop where
  sig : OkS s
  flat : OkF pf
  out : OkS (psQ s pf)
  part : partQ s pf = true

theorem PsFacts.first {s : Sig} {pf : Flat} (h : PsFacts s pf) (h0 : 0 ≤ atQ s pf) : ∃ (n : Nat) (y : Param), atQ s pf = n ∧ s[n]? = some y ∧ y.kind = 1 ∧ pf.named.any (nameIs y.name) = true ∧ pf.places.length ≤ n := by
  obtain ⟨y, _, hy, hyp, hlt⟩ := idxI_find h0
  have hk := hyp
  simp only [atP, Bool.and_eq_true, beq_iff_eq] at hk
  refine ⟨(atQ s pf).toNat, y, by omega, hy, hk.1, hk.2, ?_⟩
  refine Classical.byContradiction fun hc => ?_
  have := np_at h.part hy (placed_kind.2 (.inr hk.1)) (by unfold atQ at hc; omega)
  rw [hyp] at this; cases this

theorem PsFacts.from {s : Sig} {pf : Flat} (h : PsFacts s pf) {i : Nat} {p : Param} (hp : s[i]? = some p) (hk : p.kind = 1) (hn : pf.named.any (nameIs p.name) = true) : 0 ≤ atQ s pf ∧ atQ s pf ≤ i := by
  have := idxI_le (k := 0) (pred := atP pf) hp (by simp [atP, hk, hn])
  unfold atQ; omega

theorem PsFacts.kinds {s : Sig} {pf : Flat} (h : PsFacts s pf) {i : Nat} {p : Param} (hp : s[i]? = some p) (h0 : 0 ≤ atQ s pf) (h1 : atQ s pf ≤ i) (hk : placedQ p = true) : p.kind = 1 := by
  obtain ⟨n, y, hn, hy, hyk, _, _⟩ := h.first h0
  have := h.sig.sorted (i - n) n y p hy (by rw [show n + (i - n) = i by omega]; exact hp)
  rw [placed_kind] at hk; omega

theorem KeptQ.placed {s : Sig} {pf : Flat} (h : PsFacts s pf) {i : Nat} {p p' : Param} (hp : s[i]? = some p) (hk : KeptQ (atQ s pf) pf i p p') : placedQ p' = true ↔ placedQ p = true ∧ ¬ (0 ≤ atQ s pf ∧ atQ s pf ≤ i) := by
  have h1 := hk.kind
  constructor
  · intro h2
    rw [placed_kind] at h2
    split at h1
    · omega
    · rename_i h3
      have hpp : placedQ p = true := placed_kind.2 (by omega)
      refine ⟨hpp, fun h4 => h3 ⟨h.kinds hp h4.1 h4.2 hpp, h4⟩⟩
  · rintro ⟨h2, h3⟩
    rw [placed_kind] at h2 ⊢
    rw [if_neg (fun h4 => h3 h4.2)] at h1
    omega

theorem KeptQ.named {k : Int} {pf : Flat} {i : Nat} {p p' : Param} (hk : KeptQ k pf i p p') : namedQ p' = namedQ p := by
  have h1 := hk.kind
  have : namedQ p' = true ↔ namedQ p = true := by
    rw [named_kind, named_kind]
    split at h1 <;> omega
  cases h : namedQ p with
  | true => exact this.2 h
  | false =>
    cases h' : namedQ p' with
    | false => rfl
    | true => rw [this.1 h'] at h; cases h

theorem PsFacts.len {s : Sig} {pf : Flat} (h : PsFacts s pf) : ∀ (i : Nat), i ≤ placesQ s → (psL (atQ s pf) pf (s.take i)).length = i - pf.places.length
  | 0, _ => by simp [psL]
  | i + 1, hi => by
    have hP := placesQ_le s
    obtain ⟨p, hp⟩ := at_some (xs := s) (i := i) (by omega)
    have hpl := (h.sig.placed_iff hp).2 (by omega)
    rw [psL_succ hp, List.length_append, PsFacts.len h i (by omega)]
    by_cases hia : i < pf.places.length
    · have : partParam (atQ s pf) pf i p = none := by simp [partParam, skipP, hpl, hia]
      rw [this]; simp; omega
    · obtain ⟨p', hp'⟩ := partParam_keep (k := atQ s pf) (f := pf) (i := i) (p := p) (by omega) (by rw [placed_kind] at hpl; omega)
      rw [hp']; simp; omega

/-- Where a parameter goes. -/
theorem PsFacts.to {s : Sig} {pf : Flat} (h : PsFacts s pf) {i : Nat} {p : Param} (hp : s[i]? = some p) (h1 : ¬ (placedQ p = true ∧ i < pf.places.length)) (h2 : ¬ (p.kind = 2 ∧ 0 ≤ atQ s pf)) :
    ∃ (j : Nat) (p' : Param), (psQ s pf)[j]? = some p' ∧ KeptQ (atQ s pf) pf i p p' ∧ (placedQ p' = true → j + pf.places.length = i) := by
  obtain ⟨p', hp'⟩ := partParam_keep (f := pf) h1 h2
  have hk := partParam_facts hp'
  obtain ⟨r, hr⟩ := psL_split (k := atQ s pf) (f := pf) (s := s) (i + 1)
  rw [psL_succ hp, hp'] at hr
  refine ⟨(psL (atQ s pf) pf (s.take i)).length, p', ?_, hk, fun hpl => ?_⟩
  · unfold psQ
    rw [hr, List.append_assoc, List.getElem?_append_right (by omega)]
    simp
  · have hpp := ((hk.placed h hp).1 hpl).1
    have hi := (h.sig.placed_iff hp).1 hpp
    rw [h.len i (by omega)]
    have := hk.place
    have : ¬ i < pf.places.length := fun h0 => this ⟨hpp, h0⟩
    omega

/-- Where a parameter comes from. -/
theorem PsFacts.of {s : Sig} {pf : Flat} (h : PsFacts s pf) {j : Nat} {p' : Param} (hp : (psQ s pf)[j]? = some p') :
    ∃ (i : Nat) (p : Param), s[i]? = some p ∧ KeptQ (atQ s pf) pf i p p' ∧ (placedQ p' = true → j + pf.places.length = i) := by
  have hm := List.mem_of_getElem? hp
  unfold psQ psL at hm
  rw [List.mem_filterMap] at hm
  obtain ⟨⟨p, i⟩, hq, hr⟩ := hm
  rw [List.mem_zipIdx_iff_getElem?] at hq
  have hk := partParam_facts hr
  obtain ⟨j', p2, hj', hk', hpos⟩ := h.to hq hk.place hk.rest
  have hjj := name_inj h.out hp hj' (by rw [hk.name, hk'.name])
  subst hjj
  rw [hp] at hj'
  cases hj'
  exact ⟨i, p, hq, hk, hpos⟩

section

variable {s : Sig} {pf f : Flat}

end

def sameL (x y : Slot) : Bool := x.given == y.given && (decide (x.list = y.list) && decide (isortL ltN x.pairs = isortL ltN y.pairs))

def sameB (a b : Bnds) : Bool := decide (a.length = b.length) && (a.zip b).all (fun z => sameL z.1 z.2)

theorem sameB_iff {a b : Bnds} : sameB a b = true ↔ a.length = b.length ∧ ∀ (i : Nat) (x y : Slot), a[i]? = some x → b[i]? = some y → sameL x y = true := by
  unfold sameB
  rw [Bool.and_eq_true, decide_eq_true_eq, List.all_eq_true]
  refine and_congr_right fun _ => ?_
  constructor
  · intro h i x y hx hy
    exact h (x, y) (List.mem_of_getElem? (i := i) (List.getElem?_zip_eq_some.2 ⟨hx, hy⟩))
  · intro h z hz
    obtain ⟨i, hi⟩ := List.getElem?_of_mem hz
    rw [List.getElem?_zip_eq_some] at hi
    exact h i _ _ hi.1 hi.2

theorem sameL_self (x : Slot) : sameL x x = true := by simp [sameL]

theorem sameB_self (b : Bnds) : sameB b b = true := sameB_iff.2 ⟨rfl, fun i x y hx hy => by rw [hx] at hy; cases hy; exact sameL_self x⟩

structure SmallL (x : Slot) : Prop where
  list : x.list.length ≤ 1048576
  pairs : x.pairs.length ≤ 12

theorem sameC_ct (x y : Slot) (hx : SmallL x) (hy : SmallL y) : ACalls pk 103 [.agg (eL x), .agg (eL y)] [] (fun r o => r = .one (.bool (sameL x y)) ∧ o = []) := by
  have h1 := hx.list
  have h2 := hx.pairs
  have h3 := hy.pairs
  have g1 := isortL_length ltN x.pairs
  refine acalls_of_body Tryz.func103 rfl (by kernel_rfl) rfl ?_
  refine rn rfl ?_
  refine goal_draw' [0, 1] 22 rfl ?_
  refine drn [0, 1, 2, 3, 4, 5] (by kernel_rfl) (by kernel_rfl) rfl rfl ?_
  refine AH_guard (i := 6) rfl rfl rfl (fun h4 => ?_) (fun h4 => ?_) <;> (try simp only [gt_iff_lt, ge_iff_le, bne_iff_ne, ne_eq, bne_eq_false_iff_eq, beq_iff_eq, beq_eq_false_iff_ne, Bool.not_eq_true', Bool.not_eq_false', decide_eq_true_eq, decide_eq_false_iff_not, List.length_map] at h4)
  · refine drn [6, 7, 8, 9] (by kernel_rfl) (by kernel_rfl) rfl rfl ?_
    refine AH_one (i := 10) (by kernel_rfl) (step_call [] rfl rfl rfl rfl rfl rfl (libEqualI_ct x.list y.list (by omega))) (by simp) ?_
    rintro σ2 ⟨r, o', ⟨rfl, rfl⟩, hσ⟩
    obtain rfl := Option.some.inj hσ
    clear hσ
    refine drn [11, 12] (by kernel_rfl) (by kernel_rfl) rfl rfl ?_
    refine AH_guard (i := 13) rfl rfl rfl (fun h5 => ?_) (fun h5 => ?_) <;> (try simp only [gt_iff_lt, ge_iff_le, bne_iff_ne, ne_eq, bne_eq_false_iff_eq, beq_iff_eq, beq_eq_false_iff_ne, Bool.not_eq_true', Bool.not_eq_false', decide_eq_true_eq, decide_eq_false_iff_not, List.length_map] at h5)
    · refine drn [13, 14, 16, 17] (by kernel_rfl) (by kernel_rfl) rfl rfl ?_
      refine AH_one (i := 15) (by kernel_rfl) (step_call [] rfl rfl rfl rfl rfl rfl (byNameD_ct x.pairs (by omega))) (by simp) ?_
      rintro σ2 ⟨r, o', ⟨rfl, rfl⟩, hσ⟩
      obtain rfl := Option.some.inj hσ
      clear hσ
      refine AH_one (i := 18) (by kernel_rfl) (step_call [] rfl rfl rfl rfl rfl rfl (byNameD_ct y.pairs (by omega))) (by simp) ?_
      rintro σ2 ⟨r, o', ⟨rfl, rfl⟩, hσ⟩
      obtain rfl := Option.some.inj hσ
      clear hσ
      refine AH_one (i := 19) (by kernel_rfl) (step_call [] rfl rfl rfl rfl rfl rfl (libEqualP_ct (isortL ltN x.pairs) (isortL ltN y.pairs) (by omega))) (by simp) ?_
      rintro σ2 ⟨r, o', ⟨rfl, rfl⟩, hσ⟩
      obtain rfl := Option.some.inj hσ
      clear hσ
      refine drn [20, 21] (by kernel_rfl) (by kernel_rfl) rfl rfl ?_
      refine AH_end (by kernel_rfl) ?_
      refine rn rfl ?_
      refine rn rfl (fin_is [] rfl ⟨?_, rfl⟩)
      simp [sameL, h4, h5]
    · refine drn [13, 14, 15, 16, 17, 18, 19, 20, 21] (by kernel_rfl) (by kernel_rfl) rfl rfl ?_
      refine AH_end (by kernel_rfl) ?_
      refine rn rfl ?_
      refine rn rfl (fin_is [] rfl ⟨?_, rfl⟩)
      simp [sameL, h5]
  · refine drn [6, 7, 8, 9, 10, 11, 12, 13, 14, 15, 16, 17, 18, 19, 20, 21] (by kernel_rfl) (by kernel_rfl) rfl rfl ?_
    refine AH_end (by kernel_rfl) ?_
    refine rn rfl ?_
    refine rn rfl (fin_is [] rfl ⟨?_, rfl⟩)
    simp [sameL, h4]

theorem equalFunc_ct (a b : Bnds) (f : FuncId) (ha : a.length ≤ 1048576) (h : ∀ x ∈ a, ∀ y ∈ b, ACalls pk f [.agg (eL x), .agg (eL y)] [] (fun r o => r = .one (.bool (sameL x y)) ∧ o = [])) :
    ACalls pk 102 [.one (.fs (a.map eL)), .one (.fs (b.map eL)), .one (.fn f [])] [] (fun r o => r = .one (.bool (sameB a b)) ∧ o = []) := by
  refine acalls_of_body Tryz.func102 rfl (by kernel_rfl) rfl ?_
  refine rn rfl ?_
  refine goal_cond rfl (fun h0 => ?_) (fun h0 => ?_) <;> simp only [List.length_map, bne_iff_ne, ne_eq, bne_eq_false_iff_eq] at h0
  · refine rn rfl (fin_is [] rfl ⟨?_, rfl⟩)
    have : a.length ≠ b.length := by omega
    simp [sameB, this]
  · have hlen : a.length = b.length := by omega
    refine rn rfl ?_
    refine goal_loop_keep (fun m σ => ∃ (q L : Int) (i : Nat), q = i ∧ L = a.length ∧ i ≤ a.length ∧ m = a.length - i ∧ (∀ (j : Nat) (x y : Slot), a[j]? = some x → b[j]? = some y → j < i → sameL x y = true) ∧
        σ = ⟨[(17, .one (.int .i64 q)), (16, .one (.int .i64 L)), (15, .one (.fs (a.map eL))), (2, .one (.fn f [])), (1, .one (.fs (b.map eL)))], [], []⟩) a.length [17, 16, 15, 2, 1] [] rfl
      ⟨_, _, 0, rfl, by simp, by omega, by omega, fun j x y _ _ hj => by omega, rfl⟩ ?_
    rintro m σ ⟨q, L, i, rfl, rfl, hi, rfl, hall, rfl⟩
    refine rn rfl ?_
    refine goal_cond rfl (fun h1 => ?_) (fun h1 => ?_) <;> (try simp only [gt_iff_lt, ge_iff_le, bne_iff_ne, ne_eq, bne_eq_false_iff_eq, beq_iff_eq, beq_eq_false_iff_ne, Bool.not_eq_true', Bool.not_eq_false', decide_eq_true_eq, decide_eq_false_iff_not, List.length_map] at h1)
    · obtain ⟨x, hx⟩ := at_some (xs := a) (i := i) (by omega)
      obtain ⟨y, hy⟩ := at_some (xs := b) (i := i) (by omega)
      refine rn rfl ?_
      refine goal_did rfl rfl (dA_index (eL x) rfl rfl rfl rfl rfl rfl rfl (by omega) (by (try simp); omega) (map_at (by simpa using hx)) rfl) ?_
      refine rn rfl ?_
      refine goal_did rfl rfl (dA_index (eL y) rfl rfl rfl rfl rfl rfl rfl (by omega) (by (try simp); omega) (map_at (by simpa using hy)) rfl) ?_
      refine rn rfl ?_
      refine goal_step (step_call [] rfl rfl rfl rfl rfl rfl (h x (List.mem_of_getElem? hx) y (List.mem_of_getElem? hy))) ?_
      rintro σ2 ⟨r, o', ⟨rfl, rfl⟩, hσ⟩
      obtain rfl := Option.some.inj hσ
      clear hσ
      refine rn rfl ?_
      refine goal_cond rfl (fun h2 => ?_) (fun h2 => ?_) <;> simp only [Bool.not_eq_true', Bool.not_eq_false'] at h2
      · refine rn rfl (round_ret (fin_is [] rfl ⟨?_, rfl⟩))
        cases hs : sameB a b with
        | false => rfl
        | true => rw [(sameB_iff.1 hs).2 i x y hx hy] at h2; cases h2
      · refine rn rfl ?_
        refine round_keep (a.length - (i + 1)) [17, 16, 15, 2, 1] [] (by omega) rfl ⟨_, _, i + 1, wrap64 (by omega) (by omega), rfl, by omega, rfl, fun j x' y' hx' hy' hj => ?_, rfl⟩
        by_cases hji : j = i
        · subst hji
          rw [hx] at hx'; rw [hy] at hy'
          cases hx'; cases hy'
          exact h2
        · exact hall j x' y' hx' hy' (by omega)
    · refine rn rfl (round_ext ?_)
      refine rn rfl (fin_is [] rfl ⟨?_, rfl⟩)
      rw [sameB_iff.2 ⟨hlen, fun j x y hx hy => hall j x y hx hy (by have := lt_of_some hx; omega)⟩]

theorem isameB_ct (a b : Bnds) (ha : a.length ≤ 1048576) (h1 : ∀ x ∈ a, SmallL x) (h2 : ∀ x ∈ b, SmallL x) : ACalls pk 67 [.agg (eBi a), .agg (eBi b)] [] (fun r o => r = .one (.bool (sameB a b)) ∧ o = []) := by
  refine acalls_of_body Tryz.func67 rfl (by kernel_rfl) rfl ?_
  refine rn rfl ?_
  refine goal_step (step_call [] rfl rfl rfl rfl rfl rfl (equalFunc_ct a b _ ha (fun x hx y hy => sameC_ct x y (h1 x hx) (h2 y hy)))) ?_
  rintro σ2 ⟨r, o', ⟨rfl, rfl⟩, hσ⟩
  obtain rfl := Option.some.inj hσ
  clear hσ
  refine rn rfl ?_
  exact rn rfl (fin_is [] rfl ⟨rfl, rfl⟩)

theorem bound_small {s : Sig} {f : Flat} (hs : OkS s) (hf : OkF f) : (boundQ s f).1.length ≤ 8 ∧ ∀ x ∈ (boundQ s f).1, x.list.length ≤ 8 ∧ x.pairs.length ≤ 8 := by
  have h1 := hf.places
  have h2 := hf.named
  rw [bound_closed hs hf.nodup]
  refine ⟨by simp only [closedQ, List.length_mapIdx]; exact hs.len, fun x hx => ?_⟩
  simp only [closedQ, List.mem_mapIdx] at hx
  obtain ⟨i, hi, rfl⟩ := hx
  unfold giveQ
  split
  · have := List.length_filter_le (fun q : Pair => takesQ s q.name == (i : Int)) f.named
    simp; omega
  · split
    · split <;> simp [zL]
    · exact place1_small _ _ _ _ h1

theorem small_of {x : Slot} (h : x.list.length ≤ 8 ∧ x.pairs.length ≤ 8) : SmallL x := ⟨by omega, by omega⟩

theorem OkS.okName {s : Sig} (h : OkS s) {p : Param} (hp : p ∈ s) : okName p.name = true := by
  have := h.params p hp
  simp only [okQ, Bool.and_eq_true] at this
  exact this.1.1.1.1

theorem bind_ok {s : Sig} {f : Flat} (hs : OkS s) (hf : OkF f) : (BindQ s f).2 = accQ s f := by
  unfold BindQ
  rw [fitQ_iff.2 ⟨hs, hf⟩]
  simp only [Bool.true_and]
  split
  · rename_i h; exact h.symm
  · rename_i h; simpa using h

def hd0 (xs : List Int) : Int := xs.headD 0

def stU (st : Flat × Bool) (px : Param × Slot) : Flat × Bool :=
  if px.1.kind = 2 then (⟨st.1.places ++ px.2.list, st.1.named⟩, st.2)
  else if px.1.kind = 4 then (⟨st.1.places, st.1.named ++ px.2.pairs⟩, st.2)
  else if px.2.given = false then (st.1, st.2 && !placedQ px.1)
  else if placedQ px.1 && st.2 then (⟨st.1.places ++ [hd0 px.2.list], st.1.named⟩, st.2)
  else (⟨st.1.places, st.1.named ++ [⟨px.1.name, hd0 px.2.list⟩]⟩, st.2)

def unbQ (s : Sig) (b : Bnds) : Flat := ((s.zip b).foldl stU (zF, true)).1

structure OkB (s : Sig) (b : Bnds) : Prop where
  len : b.length = s.length
  few : s.length ≤ 8
  kinds : ∀ p ∈ s, 0 ≤ p.kind ∧ p.kind ≤ 4
  one : ∀ (i : Nat) (p : Param) (x : Slot), s[i]? = some p → b[i]? = some x → singleQ p = true → x.given = true → ∃ v, x.list = [v]
  size : ∀ x ∈ b, x.list.length ≤ 1048576 ∧ x.pairs.length ≤ 1048576

theorem stU_len {M : Nat} (hM : 1 ≤ M) (st : Flat × Bool) (p : Param) (x : Slot) (h : x.list.length ≤ M ∧ x.pairs.length ≤ M) : (stU st (p, x)).1.places.length ≤ st.1.places.length + M ∧ (stU st (p, x)).1.named.length ≤ st.1.named.length + M := by
  unfold stU
  simp only
  split
  · simp; omega
  · split
    · simp; omega
    · split
      · simp
      · split <;> simp <;> omega

theorem unb_lenM {M : Nat} (hM : 1 ≤ M) (b : Bnds) (hb : ∀ x ∈ b, x.list.length ≤ M ∧ x.pairs.length ≤ M) : ∀ (zs : List (Param × Slot)) (st : Flat × Bool), (∀ z ∈ zs, z.2 ∈ b) → (zs.foldl stU st).1.places.length ≤ st.1.places.length + M * zs.length ∧ (zs.foldl stU st).1.named.length ≤ st.1.named.length + M * zs.length
  | [], st, _ => by simp
  | z :: zs, st, h => by
    have h1 := unb_lenM hM b hb zs (stU st z) (fun y hy => h y (by simp [hy]))
    have h2 := stU_len hM st z.1 z.2 (hb _ (h z (by simp)))
    rw [List.foldl_cons]
    simp only [List.length_cons]
    have e : stU st z = stU st (z.1, z.2) := rfl
    rw [← e] at h2
    rw [Nat.mul_succ]
    omega

theorem unb_len (b : Bnds) (hb : ∀ x ∈ b, x.list.length ≤ 1048576 ∧ x.pairs.length ≤ 1048576) (zs : List (Param × Slot)) (st : Flat × Bool) (h : ∀ z ∈ zs, z.2 ∈ b) :
    (zs.foldl stU st).1.places.length ≤ st.1.places.length + 1048576 * zs.length ∧ (zs.foldl stU st).1.named.length ≤ st.1.named.length + 1048576 * zs.length := unb_lenM (by omega) b hb zs st h

def cntL (x : Slot) : Nat := x.list.length + x.pairs.length

def cntB (b : Bnds) : Nat := (b.map cntL).sum

theorem cntB_bound {M : Nat} : ∀ {b : Bnds}, (∀ x ∈ b, cntL x ≤ M) → cntB b ≤ M * b.length
  | [], _ => by simp [cntB]
  | x :: b, h => by
    have h1 := cntB_bound (b := b) (fun y hy => h y (by simp [hy]))
    have h2 := h x (by simp)
    simp only [cntB, List.map_cons, List.sum_cons, List.length_cons, Nat.mul_succ] at h1 ⊢
    omega

theorem cntB_mem : ∀ {b : Bnds} {x : Slot}, x ∈ b → cntL x ≤ cntB b
  | [], x, h => by simp at h
  | y :: b, x, h => by
    simp only [cntB, List.map_cons, List.sum_cons]
    rcases List.mem_cons.1 h with rfl | h
    · omega
    · have := cntB_mem h
      unfold cntB at this
      omega

theorem unb_cntZ : ∀ (zs : List (Param × Slot)) (st : Flat × Bool), (∀ z ∈ zs, (0 ≤ z.1.kind ∧ z.1.kind ≤ 4) ∧ (singleQ z.1 = true → z.2.given = true → 1 ≤ z.2.list.length)) →
    (zs.foldl stU st).1.places.length + (zs.foldl stU st).1.named.length ≤ st.1.places.length + st.1.named.length + cntB (zs.map Prod.snd)
  | [], st, _ => by simp
  | z :: zs, st, h => by
    have h1 := unb_cntZ zs (stU st z) (fun y hy => h y (by simp [hy]))
    obtain ⟨hk, ho⟩ := h z (by simp)
    rw [List.foldl_cons]
    have h2 : (stU st z).1.places.length + (stU st z).1.named.length ≤ st.1.places.length + st.1.named.length + cntL z.2 := by
      unfold stU cntL
      split
      · simp; omega
      · rename_i h2
        split
        · simp; omega
        · rename_i h4
          split
          · dsimp only; omega
          · rename_i hg
            have h3 := ho (by rw [single_kind]; omega) (by simpa using hg)
            split <;> simp <;> omega
    simp only [cntB, List.map_cons, List.sum_cons] at h1 ⊢
    omega

theorem unb_cnt {s : Sig} {b : Bnds} (h : OkB s b) : (unbQ s b).places.length + (unbQ s b).named.length ≤ cntB b := by
  have h1 := unb_cntZ (s.zip b) (zF, true) (fun z hz => ⟨h.kinds _ (List.of_mem_zip hz).1, fun hs hg => by
    obtain ⟨i, hi⟩ := List.getElem?_of_mem hz
    rw [List.getElem?_zip_eq_some] at hi
    obtain ⟨v, hv⟩ := h.one i _ _ hi.1 hi.2 hs hg
    rw [hv]; simp⟩)
  rw [List.map_snd_zip (by rw [h.len]; exact Nat.le_refl _)] at h1
  unfold unbQ
  simpa [zF] using h1

theorem kind_split {p : Param} (h : 0 ≤ p.kind ∧ p.kind ≤ 4) : placedQ p = true ∨ p.kind = 2 ∨ p.kind = 3 ∨ p.kind = 4 := by
  rw [placed_kind]; omega

theorem iunbind_ct (s : Sig) (b : Bnds) (h : OkB s b) : ACalls pk 34 [.agg (eG s), .agg (eBi b)] [] (fun r o => r = rF (unbQ s b) ∧ o = oF (unbQ s b)) := by
  have hlen := h.len
  have hfew := h.few
  have hzl : (s.zip b).length = s.length := by simp [hlen]
  refine acalls_of_body Tryz.func34 rfl (by kernel_rfl) rfl ?_
  refine rn rfl ?_
  refine goal_weakCod (Weak.adoptO 3 0 1) ?_
  refine goal_weakCod (Weak.adoptO 3 1 2) ?_
  refine goal_loop_keep (fun m σ => ∃ (q L : Int) (i l1 l2 : Nat) (ob : Bool) (F : Flat), q = i ∧ L = s.length ∧ i ≤ s.length ∧ m = s.length - i ∧ l1 = F.places.length ∧ l2 = F.named.length ∧ (F, ob) = ((s.zip b).take i).foldl stU (zF, true) ∧
      σ = ⟨[(13, .one (.int .i64 q)), (12, .one (.int .i64 L)), (11, .one (.fs (s.map eQ))), (6, .one (.bool ob)), (5, .one (.op 2 0 0)), (4, .one (.op 1 0 0)), (3, .one (.op 0 0 0))],
        [some ⟨1, [eBi b], false, false, true⟩, some ⟨2, [[.fs [], .fs []]], false, false, true⟩, some ⟨2, [[.os 3 0 l1 l1, .os 4 0 l2 l2]], false, false, true⟩, ownI F.places, ownP F.named], []⟩) s.length [13, 12, 11, 6, 5, 4, 3] [1, 2, 3, 4, 5] rfl
    ⟨_, _, 0, 0, 0, _, zF, rfl, ?_, by omega, by omega, rfl, rfl, rfl, rfl⟩ ?_
  · simp
  rintro m σ ⟨q, L, i, l1, l2, ob, F, rfl, rfl, hi, rfl, rfl, rfl, hF, rfl⟩
  have hln := unb_len b h.size ((s.zip b).take i) (zF, true) (fun z hz => by
    have := List.mem_of_mem_take hz
    exact (List.of_mem_zip this).2)
  rw [← hF] at hln
  simp only [List.length_take, hzl, zF, List.length_nil] at hln
  refine rn rfl ?_
  refine goal_cond rfl (fun hc => ?_) (fun hc => ?_) <;> (try simp only [gt_iff_lt, ge_iff_le, bne_iff_ne, ne_eq, bne_eq_false_iff_eq, beq_iff_eq, beq_eq_false_iff_ne, Bool.not_eq_true', Bool.not_eq_false', decide_eq_true_eq, decide_eq_false_iff_not, List.length_map] at hc)
  · obtain ⟨p, hp⟩ := at_some (xs := s) (i := i) (by omega)
    obtain ⟨x, hx⟩ := at_some (xs := b) (i := i) (by omega)
    have hsz := h.size x (List.mem_of_getElem? hx)
    have hz : (s.zip b)[i]? = some (p, x) := by rw [List.getElem?_zip_eq_some]; exact ⟨hp, hx⟩
    have hst : ((s.zip b).take (i + 1)).foldl stU (zF, true) = stU (F, ob) (p, x) := by rw [foldl_take_succ _ _ hz, ← hF]
    have hone := h.one i p x hp hx
    have hk := h.kinds p (List.mem_of_getElem? hp)
    refine rn rfl ?_
    refine goal_did rfl rfl (dA_index (eQ p) rfl rfl rfl rfl rfl rfl rfl (by omega) (by (try simp); omega) (map_at (by simpa using hp)) rfl) ?_
    refine rn rfl ?_
    refine goal_did rfl rfl (dA_index (eL x) rfl rfl rfl rfl rfl rfl rfl (by omega) (by (try simp); omega) (map_at (by simpa using hx)) rfl) ?_
    refine rn rfl ?_
    cases hpl : placedQ p with
    | true =>
      have hk2 : p.kind ≠ 2 ∧ p.kind ≠ 4 := by rw [placed_kind] at hpl; omega
      refine goal_step (step_call [] rfl rfl rfl rfl rfl rfl (iplaced_ct p)) ?_
      rintro σ2 ⟨r, o', ⟨rfl, rfl⟩, hσ⟩
      obtain rfl := Option.some.inj hσ
      clear hσ
      refine rn rfl ?_
      refine goal_guard rfl rfl rfl (fun _ => ?_) (fun h0 => by rw [hpl] at h0; cases h0)
      refine rn rfl ?_
      refine goal_guard rfl rfl rfl (fun ho => ?_) (fun ho => ?_) <;> (try simp only [gt_iff_lt, ge_iff_le, bne_iff_ne, ne_eq, bne_eq_false_iff_eq, beq_iff_eq, beq_eq_false_iff_ne, Bool.not_eq_true', Bool.not_eq_false', decide_eq_true_eq, decide_eq_false_iff_not, List.length_map] at ho)
      · subst ho
        refine rn rfl ?_
        refine goal_cond rfl (fun hg => ?_) (fun hg => ?_) <;> (try simp only [gt_iff_lt, ge_iff_le, bne_iff_ne, ne_eq, bne_eq_false_iff_eq, beq_iff_eq, beq_eq_false_iff_ne, Bool.not_eq_true', Bool.not_eq_false', decide_eq_true_eq, decide_eq_false_iff_not, List.length_map] at hg)
        · obtain ⟨v, hv⟩ := hone (by simp [singleQ, hpl]) hg
          refine rn rfl ?_
          refine goal_cond rfl (fun _ => ?_) (fun h0 => by rw [hg] at h0; cases h0)
          refine rn rfl ?_
          refine goal_did rfl rfl (dA_append (old := (F.places).map eI) (rows := (x.list : List Int).map eI) (((F.places) ++ (x.list : List Int)).map eI) (F.places.length + x.list.length) true (Dst.own rfl rfl rfl rfl rfl (by first | (simp; done) | (simp; omega)) (whole (by first | (simp; done) | (simp; omega)))) (Src.fs rfl) rfl rfl rfl rfl rfl rfl rfl rfl (rows_len eI_len _) (rows_len eI_len _) (by (try simp only [List.length_map, List.length_append, List.length_cons, List.length_nil, List.length_take, List.length_drop]); show _ * 8 ≤ _; omega) (by first | (simp; done) | (simp; omega)) (by simp) (by first | (simp; done) | (simp; omega)) (fun _ => noOwnR_map _ eI_noOwn _)) ?_
          refine rn rfl ?_
          refine round_keep (s.length - (i + 1)) [13, 12, 11, 6, 5, 4, 3] [0, 1, 2, 7, 4] (by omega) rfl ⟨_, _, i + 1, F.places.length + x.list.length, F.named.length, true, ⟨F.places ++ x.list, F.named⟩, wrap64 (by omega) (by omega), rfl, by omega, rfl, by simp, by simp, by rw [hst]; simp [stU, hk2.1, hk2.2, hpl, hg, hv, hd0], rfl⟩
        · refine rn rfl ?_
          refine goal_cond rfl (fun h0 => by simp at h0; omega) (fun _ => ?_)
          refine rn rfl ?_
          refine goal_step (step_call [] rfl rfl rfl rfl rfl rfl (iplaced_ct p)) ?_
          rintro σ2 ⟨r, o', ⟨rfl, rfl⟩, hσ⟩
          obtain rfl := Option.some.inj hσ
          clear hσ
          refine rn rfl ?_
          refine goal_guard rfl rfl rfl (fun _ => ?_) (fun h0 => by rw [hpl] at h0; cases h0)
          refine rn rfl ?_
          refine goal_cond rfl (fun _ => ?_) (fun h0 => by simp [hg] at h0)
          refine rn rfl ?_
          refine round_keep (s.length - (i + 1)) [13, 12, 11, 6, 5, 4, 3] [0, 1, 2, 3, 4] (by omega) rfl ⟨_, _, i + 1, F.places.length, F.named.length, false, F, wrap64 (by omega) (by omega), rfl, by omega, rfl, by simp, by simp, by rw [hst]; simp [stU, hk2.1, hk2.2, hpl, hg], rfl⟩
      · subst ho
        refine rn rfl ?_
        refine goal_cond rfl (fun h0 => by simp at h0; omega) (fun _ => ?_)
        refine rn rfl ?_
        refine goal_step (step_call [] rfl rfl rfl rfl rfl rfl (iplaced_ct p)) ?_
        rintro σ2 ⟨r, o', ⟨rfl, rfl⟩, hσ⟩
        obtain rfl := Option.some.inj hσ
        clear hσ
        refine rn rfl ?_
        refine goal_guard rfl rfl rfl (fun _ => ?_) (fun h0 => by rw [hpl] at h0; cases h0)
        refine rn rfl ?_
        refine goal_cond rfl (fun hg => ?_) (fun hg => ?_) <;> (try simp only [gt_iff_lt, ge_iff_le, bne_iff_ne, ne_eq, bne_eq_false_iff_eq, beq_iff_eq, beq_eq_false_iff_ne, Bool.not_eq_true', Bool.not_eq_false', decide_eq_true_eq, decide_eq_false_iff_not, List.length_map] at hg)
        · refine rn rfl ?_
          refine round_keep (s.length - (i + 1)) [13, 12, 11, 6, 5, 4, 3] [0, 1, 2, 3, 4] (by omega) rfl ⟨_, _, i + 1, F.places.length, F.named.length, false, F, wrap64 (by omega) (by omega), rfl, by omega, rfl, by simp, by simp, by rw [hst]; simp [stU, hk2.1, hk2.2, hpl, hg], rfl⟩
        · refine rn rfl ?_
          refine goal_step (step_call [] rfl rfl rfl rfl rfl rfl (isingle_ct p)) ?_
          rintro σ2 ⟨r, o', ⟨rfl, rfl⟩, hσ⟩
          obtain rfl := Option.some.inj hσ
          clear hσ
          refine rn rfl ?_
          refine goal_guard rfl rfl rfl (fun _ => ?_) (fun h0 => by simp [singleQ, hpl] at h0)
          refine rn rfl ?_
          refine goal_cond rfl (fun _ => ?_) (fun h0 => by rw [hg] at h0; cases h0)
          obtain ⟨v, hv⟩ := hone (by simp [singleQ, hpl]) hg
          refine rn rfl ?_
          refine goal_drawL [2, 5, 6] [12] 13 rfl ?_
          refine drnL [0, 1, 2, 3, 4, 5] (by kernel_rfl) (by kernel_rfl) rfl rfl ?_
          refine AHL_did 6 rfl (by kernel_rfl) (by kernel_rfl) (by kernel_rfl) (by kernel_rfl) rfl rfl (dA_index (eI v) rfl rfl rfl rfl rfl rfl rfl (by omega) (by simp [hv]) (by simp [hv]) rfl) ?_
          refine drnL [7, 8] (by kernel_rfl) (by kernel_rfl) rfl rfl ?_
          refine AHL_oneDid 9 rfl (by kernel_rfl) rfl rfl (dA_step rfl) (mdOk rfl) ?_
          refine AHL_oneDid 10 rfl (by kernel_rfl) rfl rfl (dA_append (old := (F.named).map eP) (rows := ([⟨p.name, v⟩] : List Pair).map eP) (((F.named) ++ ([⟨p.name, v⟩] : List Pair)).map eP) (F.named.length + 1) true (Dst.own rfl rfl rfl rfl rfl (by first | (simp; done) | (simp; omega)) (whole (by first | (simp; done) | (simp; omega)))) (Src.os rfl rfl (Nat.le_refl 1) rfl) rfl rfl rfl rfl rfl rfl rfl rfl (rows_len eP_len _) (rows_len eP_len _) (by (try simp only [List.length_map, List.length_append, List.length_cons, List.length_nil, List.length_take, List.length_drop]); show _ * 24 ≤ _; omega) (by first | (simp; done) | (simp; omega)) (by simp) (by first | (simp; done) | (simp; omega)) (fun _ => noOwnR_map _ eP_noOwn _)) (mdOk rfl) ?_
          refine drnL [11] (by kernel_rfl) (by kernel_rfl) rfl rfl ?_
          refine AHL_lateDid 12 rfl (by kernel_rfl) rfl rfl (dA_step rfl) ?_
          refine AH_end (by kernel_rfl) ?_
          refine rn rfl ?_
          refine round_keep (s.length - (i + 1)) [13, 12, 11, 6, 5, 4, 3] [0, 1, 2, 3, 8] (by omega) rfl ⟨_, _, i + 1, F.places.length, F.named.length + 1, false, ⟨F.places, F.named ++ [⟨p.name, v⟩]⟩, wrap64 (by omega) (by omega), rfl, by omega, rfl, by simp, by simp, by rw [hst]; simp [stU, hk2.1, hk2.2, hpl, hg, hv, hd0], rfl⟩
    | false =>
      refine goal_step (step_call [] rfl rfl rfl rfl rfl rfl (iplaced_ct p)) ?_
      rintro σ2 ⟨r, o', ⟨rfl, rfl⟩, hσ⟩
      obtain rfl := Option.some.inj hσ
      clear hσ
      refine rn rfl ?_
      refine goal_guard rfl rfl rfl (fun h0 => by rw [hpl] at h0; cases h0) (fun _ => ?_)
      refine rn rfl ?_
      refine goal_cond rfl (fun h2 => ?_) (fun h2 => ?_) <;> (try simp only [gt_iff_lt, ge_iff_le, bne_iff_ne, ne_eq, bne_eq_false_iff_eq, beq_iff_eq, beq_eq_false_iff_ne, Bool.not_eq_true', Bool.not_eq_false', decide_eq_true_eq, decide_eq_false_iff_not, List.length_map] at h2)
      · refine rn rfl ?_
        refine goal_did rfl rfl (dA_append (old := (F.places).map eI) (rows := (x.list : List Int).map eI) (((F.places) ++ (x.list : List Int)).map eI) (F.places.length + x.list.length) true (Dst.own rfl rfl rfl rfl rfl (by first | (simp; done) | (simp; omega)) (whole (by first | (simp; done) | (simp; omega)))) (Src.fs rfl) rfl rfl rfl rfl rfl rfl rfl rfl (rows_len eI_len _) (rows_len eI_len _) (by (try simp only [List.length_map, List.length_append, List.length_cons, List.length_nil, List.length_take, List.length_drop]); show _ * 8 ≤ _; omega) (by first | (simp; done) | (simp; omega)) (by simp) (by first | (simp; done) | (simp; omega)) (fun _ => noOwnR_map _ eI_noOwn _)) ?_
        refine rn rfl ?_
        refine round_keep (s.length - (i + 1)) [13, 12, 11, 6, 5, 4, 3] [0, 1, 2, 7, 4] (by omega) rfl ⟨_, _, i + 1, F.places.length + x.list.length, F.named.length, ob, ⟨F.places ++ x.list, F.named⟩, wrap64 (by omega) (by omega), rfl, by omega, rfl, by simp, by simp, by rw [hst]; simp [stU, h2], rfl⟩
      · refine rn rfl ?_
        refine goal_step (step_call [] rfl rfl rfl rfl rfl rfl (iplaced_ct p)) ?_
        rintro σ2 ⟨r, o', ⟨rfl, rfl⟩, hσ⟩
        obtain rfl := Option.some.inj hσ
        clear hσ
        refine rn rfl ?_
        refine goal_guard rfl rfl rfl (fun h0 => by rw [hpl] at h0; cases h0) (fun _ => ?_)
        refine rn rfl ?_
        refine goal_step (step_call [] rfl rfl rfl rfl rfl rfl (isingle_ct p)) ?_
        rintro σ2 ⟨r, o', ⟨rfl, rfl⟩, hσ⟩
        obtain rfl := Option.some.inj hσ
        clear hσ
        refine rn rfl ?_
        refine goal_guard rfl rfl rfl (fun h3 => ?_) (fun h3 => ?_) <;> (try simp only [gt_iff_lt, ge_iff_le, bne_iff_ne, ne_eq, bne_eq_false_iff_eq, beq_iff_eq, beq_eq_false_iff_ne, Bool.not_eq_true', Bool.not_eq_false', decide_eq_true_eq, decide_eq_false_iff_not, List.length_map] at h3)
        · have h4 : p.kind ≠ 4 := by rw [single_kind] at h3; omega
          refine rn rfl ?_
          refine goal_cond rfl (fun hg => ?_) (fun hg => ?_) <;> (try simp only [gt_iff_lt, ge_iff_le, bne_iff_ne, ne_eq, bne_eq_false_iff_eq, beq_iff_eq, beq_eq_false_iff_ne, Bool.not_eq_true', Bool.not_eq_false', decide_eq_true_eq, decide_eq_false_iff_not, List.length_map] at hg)
          · obtain ⟨v, hv⟩ := hone h3 hg
            refine rn rfl ?_
            refine goal_drawL [2, 5, 6] [12] 13 rfl ?_
            refine drnL [0, 1, 2, 3, 4, 5] (by kernel_rfl) (by kernel_rfl) rfl rfl ?_
            refine AHL_did 6 rfl (by kernel_rfl) (by kernel_rfl) (by kernel_rfl) (by kernel_rfl) rfl rfl (dA_index (eI v) rfl rfl rfl rfl rfl rfl rfl (by omega) (by simp [hv]) (by simp [hv]) rfl) ?_
            refine drnL [7, 8] (by kernel_rfl) (by kernel_rfl) rfl rfl ?_
            refine AHL_oneDid 9 rfl (by kernel_rfl) rfl rfl (dA_step rfl) (mdOk rfl) ?_
            refine AHL_oneDid 10 rfl (by kernel_rfl) rfl rfl (dA_append (old := (F.named).map eP) (rows := ([⟨p.name, v⟩] : List Pair).map eP) (((F.named) ++ ([⟨p.name, v⟩] : List Pair)).map eP) (F.named.length + 1) true (Dst.own rfl rfl rfl rfl rfl (by first | (simp; done) | (simp; omega)) (whole (by first | (simp; done) | (simp; omega)))) (Src.os rfl rfl (Nat.le_refl 1) rfl) rfl rfl rfl rfl rfl rfl rfl rfl (rows_len eP_len _) (rows_len eP_len _) (by (try simp only [List.length_map, List.length_append, List.length_cons, List.length_nil, List.length_take, List.length_drop]); show _ * 24 ≤ _; omega) (by first | (simp; done) | (simp; omega)) (by simp) (by first | (simp; done) | (simp; omega)) (fun _ => noOwnR_map _ eP_noOwn _)) (mdOk rfl) ?_
            refine drnL [11] (by kernel_rfl) (by kernel_rfl) rfl rfl ?_
            refine AHL_lateDid 12 rfl (by kernel_rfl) rfl rfl (dA_step rfl) ?_
            refine AH_end (by kernel_rfl) ?_
            refine rn rfl ?_
            refine round_keep (s.length - (i + 1)) [13, 12, 11, 6, 5, 4, 3] [0, 1, 2, 3, 8] (by omega) rfl ⟨_, _, i + 1, F.places.length, F.named.length + 1, ob, ⟨F.places, F.named ++ [⟨p.name, v⟩]⟩, wrap64 (by omega) (by omega), rfl, by omega, rfl, by simp, by simp, by rw [hst]; simp [stU, h2, h4, hpl, hg, hv, hd0], rfl⟩
          · refine rn rfl ?_
            refine goal_cond rfl (fun h0 => by simp at h0; omega) (fun _ => ?_)
            refine rn rfl ?_
            refine round_keep (s.length - (i + 1)) [13, 12, 11, 6, 5, 4, 3] [0, 1, 2, 3, 4] (by omega) rfl ⟨_, _, i + 1, F.places.length, F.named.length, ob, F, wrap64 (by omega) (by omega), rfl, by omega, rfl, by simp, by simp, by rw [hst]; simp [stU, h2, h4, hpl, hg], rfl⟩
        · have h4 : p.kind = 4 := by
            rcases kind_split hk with h0 | h0 | h0 | h0
            · rw [hpl] at h0; cases h0
            · exact absurd h0 h2
            · simp [singleQ, h0] at h3
            · exact h0
          refine rn rfl ?_
          refine goal_cond rfl (fun _ => ?_) (fun h0 => by simp at h0; omega)
          refine rn rfl ?_
          refine goal_did rfl rfl (dA_append (old := (F.named).map eP) (rows := (x.pairs : List Pair).map eP) (((F.named) ++ (x.pairs : List Pair)).map eP) (F.named.length + x.pairs.length) true (Dst.own rfl rfl rfl rfl rfl (by first | (simp; done) | (simp; omega)) (whole (by first | (simp; done) | (simp; omega)))) (Src.fs rfl) rfl rfl rfl rfl rfl rfl rfl rfl (rows_len eP_len _) (rows_len eP_len _) (by (try simp only [List.length_map, List.length_append, List.length_cons, List.length_nil, List.length_take, List.length_drop]); show _ * 24 ≤ _; omega) (by first | (simp; done) | (simp; omega)) (by simp) (by first | (simp; done) | (simp; omega)) (fun _ => noOwnR_map _ eP_noOwn _)) ?_
          refine rn rfl ?_
          refine round_keep (s.length - (i + 1)) [13, 12, 11, 6, 5, 4, 3] [0, 1, 2, 3, 7] (by omega) rfl ⟨_, _, i + 1, F.places.length, F.named.length + x.pairs.length, ob, ⟨F.places, F.named ++ x.pairs⟩, wrap64 (by omega) (by omega), rfl, by omega, rfl, by simp, by simp, by rw [hst]; simp [stU, h4], rfl⟩
  · refine rn rfl (round_ext ?_)
    have hfin : unbQ s b = F := by
      unfold unbQ
      rw [List.take_of_length_le (by omega)] at hF
      rw [← hF]
    rw [hfin]
    refine rn rfl ?_
    refine goal_step (step_callE [] rfl rfl rfl rfl rfl rfl (cons_eq (asFl F) rfl) (copyOf_ct F (by omega) (by omega))) ?_
    rintro σ2 ⟨r, o', ⟨rfl, rfl⟩, hσ⟩
    obtain rfl := Option.some.inj hσ
    clear hσ
    refine rn rfl ?_
    exact rn rfl (fin_is [5, 6] rfl ⟨rfl, rfl⟩)

def SS (xs : List Str) : Prop := xs.Pairwise (fun a b => ltS a b = true)

theorem SS.nodup {xs : List Str} (h : SS xs) : xs.Nodup := List.Pairwise.imp (fun hab he => by rw [he, ltS_irrefl] at hab; cases hab) h

theorem SS.ext {a b : List Str} (ha : SS a) (hb : SS b) (h : ∀ x, x ∈ a ↔ x ∈ b) : a = b := by
  refine List.Perm.eq_of_pairwise (le := fun x y => ltS x y = true) ?_ ha hb ((List.perm_ext_iff_of_nodup ha.nodup hb.nodup).2 h)
  intro x y _ _ h1 h2
  rw [ltS_asymm h1] at h2; cases h2

def rowsAt (A : List Slot) (k : Nat) : List (List C) := A.map eL ++ nilRows k

theorem rowsAt_nil {A : List Slot} {k i : Nat} (h : i = A.length) : (rowsAt A (k + 1))[i]? = some nilRow := by
  subst h
  simp [rowsAt, nilRows, List.replicate_succ]

theorem rowsAt_set {A : List Slot} {k i : Nat} (x : Slot) (h : i = A.length) : (rowsAt A (k + 1)).set i (eL x) = rowsAt (A ++ [x]) k := by
  subst h
  have h1 : ∀ (l r : List (List C)) (z : List C), (l ++ nilRow :: r).set l.length z = l ++ z :: r := by intro l r z; simp
  have h2 := h1 (A.map eL) (nilRows k) (eL x)
  rw [List.length_map] at h2
  unfold rowsAt
  have h3 : nilRows (k + 1) = nilRow :: nilRows k := by simp [nilRows, List.replicate_succ]
  rw [h3, h2]; simp

theorem rowsAt_noOwn (A : List Slot) (k : Nat) : noOwnR (rowsAt A k) = true := by
  rw [noOwnR_mem]
  intro r hr
  unfold rowsAt nilRows at hr
  rcases List.mem_append.1 hr with h | h
  · obtain ⟨x, _, rfl⟩ := List.mem_map.1 h
    exact eL_noOwn x
  · rw [(List.mem_replicate.1 h).2]; rfl

def oRowsC (rows : List (List C)) : Option AObj := some ⟨3, rows, true, false, false⟩

theorem bindQ_ok {s : Sig} {f : Flat} (h : (BindQ s f).2 = true) : OkS s ∧ OkF f ∧ accQ s f = true ∧ BindQ s f = ((boundQ s f).1, true) := by
  unfold BindQ at h ⊢
  split at h
  · rename_i h1
    have h2 := h1
    simp only [Bool.and_eq_true] at h2
    obtain ⟨hs, hf⟩ := fitQ_iff.1 h2.1
    exact ⟨hs, hf, h2.2, by rw [if_pos h1]⟩
  · cases h

theorem iunbindD_ct (s : Sig) (b : Bnds) (h : OkB s b) : ACalls pk 34 [.agg (eG s), .agg (eBi b)] [] (fun r o => r = .agg (eF (unbQ s b)) ∧ o = []) :=
  (iunbind_ct s b h).told [] (by rintro r o ⟨rfl, rfl⟩; exact ⟨_, _, rfl, asFl _, rfl⟩)

theorem sunbound_ct (s : Sig) (b : Bnds) (h : OkB s b) : ACalls pk 30 [.agg (eG s), .agg (eBi b)] [] (fun r o => r = .agg (eF (unbQ s b)) ∧ o = []) := by
  have hlen := h.len
  have hfew := h.few
  have hzl : (s.zip b).length = s.length := by simp [hlen]
  refine acalls_of_body Tryz.func30 rfl (by kernel_rfl) rfl ?_
  refine rn rfl ?_
  refine goal_loop_keep (fun m σ => ∃ (q : Int) (i l1 l2 : Nat) (ob : Bool) (F : Flat), q = i ∧ i ≤ s.length ∧ m = s.length - i ∧ l1 = F.places.length ∧ l2 = F.named.length ∧ (F, ob) = ((s.zip b).take i).foldl stU (zF, true) ∧
      σ = ⟨[(7, .one (.int .i64 q)), (6, .one (.bool ob)), (5, .one (.op 3 0 0)), (4, .one (.op 2 0 0)), (3, .one (.op 1 0 0)), (2, .one (.op 0 0 0))],
        [some ⟨1, [eG s], false, false, true⟩, some ⟨1, [eBi b], false, false, true⟩, some ⟨2, [[.fs [], .fs []]], false, false, true⟩, some ⟨2, [[.os 4 0 l1 l1, .os 5 0 l2 l2]], false, false, true⟩, ownI F.places, ownP F.named], []⟩) s.length [7, 6, 5, 4, 3, 2] [0, 1, 2, 5, 3, 4] rfl
    ⟨_, 0, 0, 0, _, zF, rfl, by omega, by omega, rfl, rfl, rfl, rfl⟩ ?_
  rintro m σ ⟨q, i, l1, l2, ob, F, rfl, hi, rfl, rfl, rfl, hF, rfl⟩
  have hln := unb_len b h.size ((s.zip b).take i) (zF, true) (fun z hz => by
    have := List.mem_of_mem_take hz
    exact (List.of_mem_zip this).2)
  rw [← hF] at hln
  simp only [List.length_take, hzl, zF, List.length_nil] at hln
  refine rn rfl ?_
  refine goal_cond rfl (fun hc => ?_) (fun hc => ?_) <;> (try simp only [gt_iff_lt, ge_iff_le, bne_iff_ne, ne_eq, bne_eq_false_iff_eq, beq_iff_eq, beq_eq_false_iff_ne, Bool.not_eq_true', Bool.not_eq_false', decide_eq_true_eq, decide_eq_false_iff_not, List.length_map] at hc)
  · obtain ⟨p, hp⟩ := at_some (xs := s) (i := i) (by omega)
    obtain ⟨x, hx⟩ := at_some (xs := b) (i := i) (by omega)
    have hsz := h.size x (List.mem_of_getElem? hx)
    have hz : (s.zip b)[i]? = some (p, x) := by rw [List.getElem?_zip_eq_some]; exact ⟨hp, hx⟩
    have hst : ((s.zip b).take (i + 1)).foldl stU (zF, true) = stU (F, ob) (p, x) := by rw [foldl_take_succ _ _ hz, ← hF]
    have hone := h.one i p x hp hx
    have hk := h.kinds p (List.mem_of_getElem? hp)
    refine rn rfl ?_
    refine goal_did rfl rfl (dA_index (eQ p) rfl rfl rfl rfl rfl rfl rfl (by omega) (by (try simp); omega) (map_at (by simpa using hp)) rfl) ?_
    refine rn rfl ?_
    refine goal_did rfl rfl (dA_index (eL x) rfl rfl rfl rfl rfl rfl rfl (by omega) (by (try simp); omega) (map_at (by simpa using hx)) rfl) ?_
    refine rn rfl ?_
    refine goal_cond rfl (fun h2 => ?_) (fun h2 => ?_) <;> (try simp only [gt_iff_lt, ge_iff_le, bne_iff_ne, ne_eq, bne_eq_false_iff_eq, beq_iff_eq, beq_eq_false_iff_ne, Bool.not_eq_true', Bool.not_eq_false', decide_eq_true_eq, decide_eq_false_iff_not, List.length_map] at h2)
    · refine rn rfl ?_
      refine goal_did rfl rfl (dA_append (old := (F.places).map eI) (rows := (x.list : List Int).map eI) (((F.places) ++ (x.list : List Int)).map eI) (F.places.length + x.list.length) true (Dst.own rfl rfl rfl rfl rfl (by first | (simp; done) | (simp; omega)) (whole (by first | (simp; done) | (simp; omega)))) (Src.fs rfl) rfl rfl rfl rfl rfl rfl rfl rfl (rows_len eI_len _) (rows_len eI_len _) (by (try simp only [List.length_map, List.length_append, List.length_cons, List.length_nil, List.length_take, List.length_drop]); show _ * 8 ≤ _; omega) (by first | (simp; done) | (simp; omega)) (by simp) (by first | (simp; done) | (simp; omega)) (fun _ => noOwnR_map _ eI_noOwn _)) ?_
      refine rn rfl ?_
      refine round_keep (s.length - (i + 1)) [7, 6, 5, 4, 3, 2] [0, 1, 2, 3, 8, 5] (by omega) rfl ⟨_, i + 1, F.places.length + x.list.length, F.named.length, ob, ⟨F.places ++ x.list, F.named⟩, wrap64 (by omega) (by omega), by omega, rfl, by simp, by simp, by rw [hst]; simp [stU, h2], rfl⟩
    · refine rn rfl ?_
      refine goal_cond rfl (fun h4 => ?_) (fun h4 => ?_) <;> (try simp only [gt_iff_lt, ge_iff_le, bne_iff_ne, ne_eq, bne_eq_false_iff_eq, beq_iff_eq, beq_eq_false_iff_ne, Bool.not_eq_true', Bool.not_eq_false', decide_eq_true_eq, decide_eq_false_iff_not, List.length_map] at h4)
      · refine rn rfl ?_
        refine goal_did rfl rfl (dA_append (old := (F.named).map eP) (rows := (x.pairs : List Pair).map eP) (((F.named) ++ (x.pairs : List Pair)).map eP) (F.named.length + x.pairs.length) true (Dst.own rfl rfl rfl rfl rfl (by first | (simp; done) | (simp; omega)) (whole (by first | (simp; done) | (simp; omega)))) (Src.fs rfl) rfl rfl rfl rfl rfl rfl rfl rfl (rows_len eP_len _) (rows_len eP_len _) (by (try simp only [List.length_map, List.length_append, List.length_cons, List.length_nil, List.length_take, List.length_drop]); show _ * 24 ≤ _; omega) (by first | (simp; done) | (simp; omega)) (by simp) (by first | (simp; done) | (simp; omega)) (fun _ => noOwnR_map _ eP_noOwn _)) ?_
        refine rn rfl ?_
        refine round_keep (s.length - (i + 1)) [7, 6, 5, 4, 3, 2] [0, 1, 2, 3, 4, 8] (by omega) rfl ⟨_, i + 1, F.places.length, F.named.length + x.pairs.length, ob, ⟨F.places, F.named ++ x.pairs⟩, wrap64 (by omega) (by omega), by omega, rfl, by simp, by simp, by rw [hst]; simp [stU, h4], rfl⟩
      · have hsg : singleQ p = true := by rw [single_kind]; omega
        refine rn rfl ?_
        refine goal_cond rfl (fun hg => ?_) (fun hg => ?_) <;> (try simp only [gt_iff_lt, ge_iff_le, bne_iff_ne, ne_eq, bne_eq_false_iff_eq, beq_iff_eq, beq_eq_false_iff_ne, Bool.not_eq_true', Bool.not_eq_false', decide_eq_true_eq, decide_eq_false_iff_not, List.length_map] at hg)
        · refine rn rfl ?_
          refine goal_guard rfl rfl rfl (fun ho => ?_) (fun ho => ?_) <;> (try simp only [gt_iff_lt, ge_iff_le, bne_iff_ne, ne_eq, bne_eq_false_iff_eq, beq_iff_eq, beq_eq_false_iff_ne, Bool.not_eq_true', Bool.not_eq_false', decide_eq_true_eq, decide_eq_false_iff_not, List.length_map] at ho)
          · refine rn rfl ?_
            refine goal_step (step_call [] rfl rfl rfl rfl rfl rfl (splaced_ct p)) ?_
            rintro σ2 ⟨r, o', ⟨rfl, rfl⟩, hσ⟩
            obtain rfl := Option.some.inj hσ
            clear hσ
            refine rn rfl ?_
            refine round_keep (s.length - (i + 1)) [7, 6, 5, 4, 3, 2] [0, 1, 2, 3, 4, 5] (by omega) rfl ⟨_, i + 1, F.places.length, F.named.length, !placedQ p, F, wrap64 (by omega) (by omega), by omega, rfl, by simp, by simp, by rw [hst]; simp [stU, h2, h4, hg, ho], rfl⟩
          · refine rn rfl ?_
            refine round_keep (s.length - (i + 1)) [7, 6, 5, 4, 3, 2] [0, 1, 2, 3, 4, 5] (by omega) rfl ⟨_, i + 1, F.places.length, F.named.length, false, F, wrap64 (by omega) (by omega), by omega, rfl, by simp, by simp, by rw [hst]; simp [stU, h2, h4, hg, ho], rfl⟩
        · obtain ⟨v, hv⟩ := hone hsg (by simpa using hg)
          have hg' : x.given = true := by simpa using hg
          refine rn rfl ?_
          refine goal_step (step_call [] rfl rfl rfl rfl rfl rfl (splaced_ct p)) ?_
          rintro σ2 ⟨r, o', ⟨rfl, rfl⟩, hσ⟩
          obtain rfl := Option.some.inj hσ
          clear hσ
          refine rn rfl ?_
          refine goal_guard rfl rfl rfl (fun hpl => ?_) (fun hpl => ?_) <;> (try simp only [gt_iff_lt, ge_iff_le, bne_iff_ne, ne_eq, bne_eq_false_iff_eq, beq_iff_eq, beq_eq_false_iff_ne, Bool.not_eq_true', Bool.not_eq_false', decide_eq_true_eq, decide_eq_false_iff_not, List.length_map] at hpl)
          · refine rn rfl ?_
            refine goal_cond rfl (fun ho => ?_) (fun ho => ?_) <;> (try simp only [gt_iff_lt, ge_iff_le, bne_iff_ne, ne_eq, bne_eq_false_iff_eq, beq_iff_eq, beq_eq_false_iff_ne, Bool.not_eq_true', Bool.not_eq_false', decide_eq_true_eq, decide_eq_false_iff_not, List.length_map] at ho)
            · refine rn rfl ?_
              refine goal_drawL [3, 7] [9] 10 rfl ?_
              refine drnL [0, 1, 2, 3] (by kernel_rfl) (by kernel_rfl) rfl rfl ?_
              refine AHL_did 4 rfl (by kernel_rfl) (by kernel_rfl) (by kernel_rfl) (by kernel_rfl) rfl rfl (dA_index (eI v) rfl rfl rfl rfl rfl rfl rfl (by omega) (by simp [hv]) (by simp [hv]) rfl) ?_
              refine drnL [5] (by kernel_rfl) (by kernel_rfl) rfl rfl ?_
              refine AHL_oneDid 6 rfl (by kernel_rfl) rfl rfl (dA_step rfl) (mdOk rfl) ?_
              refine AHL_oneDid 7 rfl (by kernel_rfl) rfl rfl (dA_append (old := (F.places).map eI) (rows := ([v] : List Int).map eI) (((F.places) ++ ([v] : List Int)).map eI) (F.places.length + 1) true (Dst.own rfl rfl rfl rfl rfl (by first | (simp; done) | (simp; omega)) (whole (by first | (simp; done) | (simp; omega)))) (Src.os rfl rfl (Nat.le_refl 1) rfl) rfl rfl rfl rfl rfl rfl rfl rfl (rows_len eI_len _) (rows_len eI_len _) (by (try simp only [List.length_map, List.length_append, List.length_cons, List.length_nil, List.length_take, List.length_drop]); show _ * 8 ≤ _; omega) (by first | (simp; done) | (simp; omega)) (by simp) (by first | (simp; done) | (simp; omega)) (fun _ => noOwnR_map _ eI_noOwn _)) (mdOk rfl) ?_
              refine drnL [8] (by kernel_rfl) (by kernel_rfl) rfl rfl ?_
              refine AHL_lateDid 9 rfl (by kernel_rfl) rfl rfl (dA_step rfl) ?_
              refine AH_end (by kernel_rfl) ?_
              refine rn rfl ?_
              refine round_keep (s.length - (i + 1)) [7, 6, 5, 4, 3, 2] [0, 1, 2, 3, 9, 5] (by omega) rfl ⟨_, i + 1, F.places.length + 1, F.named.length, ob, ⟨F.places ++ [v], F.named⟩, wrap64 (by omega) (by omega), by omega, rfl, by simp, by simp, by rw [hst]; simp [stU, h2, h4, hg', hpl, ho, hv, hd0], rfl⟩
            · refine rn rfl ?_
              refine goal_drawL [3, 6, 7] [12] 13 rfl ?_
              refine drnL [0, 1, 2, 3, 4, 5] (by kernel_rfl) (by kernel_rfl) rfl rfl ?_
              refine AHL_did 6 rfl (by kernel_rfl) (by kernel_rfl) (by kernel_rfl) (by kernel_rfl) rfl rfl (dA_index (eI v) rfl rfl rfl rfl rfl rfl rfl (by omega) (by simp [hv]) (by simp [hv]) rfl) ?_
              refine drnL [7, 8] (by kernel_rfl) (by kernel_rfl) rfl rfl ?_
              refine AHL_oneDid 9 rfl (by kernel_rfl) rfl rfl (dA_step rfl) (mdOk rfl) ?_
              refine AHL_oneDid 10 rfl (by kernel_rfl) rfl rfl (dA_append (old := (F.named).map eP) (rows := ([⟨p.name, v⟩] : List Pair).map eP) (((F.named) ++ ([⟨p.name, v⟩] : List Pair)).map eP) (F.named.length + 1) true (Dst.own rfl rfl rfl rfl rfl (by first | (simp; done) | (simp; omega)) (whole (by first | (simp; done) | (simp; omega)))) (Src.os rfl rfl (Nat.le_refl 1) rfl) rfl rfl rfl rfl rfl rfl rfl rfl (rows_len eP_len _) (rows_len eP_len _) (by (try simp only [List.length_map, List.length_append, List.length_cons, List.length_nil, List.length_take, List.length_drop]); show _ * 24 ≤ _; omega) (by first | (simp; done) | (simp; omega)) (by simp) (by first | (simp; done) | (simp; omega)) (fun _ => noOwnR_map _ eP_noOwn _)) (mdOk rfl) ?_
              refine drnL [11] (by kernel_rfl) (by kernel_rfl) rfl rfl ?_
              refine AHL_lateDid 12 rfl (by kernel_rfl) rfl rfl (dA_step rfl) ?_
              refine AH_end (by kernel_rfl) ?_
              refine rn rfl ?_
              refine round_keep (s.length - (i + 1)) [7, 6, 5, 4, 3, 2] [0, 1, 2, 3, 4, 9] (by omega) rfl ⟨_, i + 1, F.places.length, F.named.length + 1, ob, ⟨F.places, F.named ++ [⟨p.name, v⟩]⟩, wrap64 (by omega) (by omega), by omega, rfl, by simp, by simp, by rw [hst]; simp [stU, h2, h4, hg', hpl, ho, hv, hd0], rfl⟩
          · refine rn rfl ?_
            refine goal_drawL [3, 6, 7] [12] 13 rfl ?_
            refine drnL [0, 1, 2, 3, 4, 5] (by kernel_rfl) (by kernel_rfl) rfl rfl ?_
            refine AHL_did 6 rfl (by kernel_rfl) (by kernel_rfl) (by kernel_rfl) (by kernel_rfl) rfl rfl (dA_index (eI v) rfl rfl rfl rfl rfl rfl rfl (by omega) (by simp [hv]) (by simp [hv]) rfl) ?_
            refine drnL [7, 8] (by kernel_rfl) (by kernel_rfl) rfl rfl ?_
            refine AHL_oneDid 9 rfl (by kernel_rfl) rfl rfl (dA_step rfl) (mdOk rfl) ?_
            refine AHL_oneDid 10 rfl (by kernel_rfl) rfl rfl (dA_append (old := (F.named).map eP) (rows := ([⟨p.name, v⟩] : List Pair).map eP) (((F.named) ++ ([⟨p.name, v⟩] : List Pair)).map eP) (F.named.length + 1) true (Dst.own rfl rfl rfl rfl rfl (by first | (simp; done) | (simp; omega)) (whole (by first | (simp; done) | (simp; omega)))) (Src.os rfl rfl (Nat.le_refl 1) rfl) rfl rfl rfl rfl rfl rfl rfl rfl (rows_len eP_len _) (rows_len eP_len _) (by (try simp only [List.length_map, List.length_append, List.length_cons, List.length_nil, List.length_take, List.length_drop]); show _ * 24 ≤ _; omega) (by first | (simp; done) | (simp; omega)) (by simp) (by first | (simp; done) | (simp; omega)) (fun _ => noOwnR_map _ eP_noOwn _)) (mdOk rfl) ?_
            refine drnL [11] (by kernel_rfl) (by kernel_rfl) rfl rfl ?_
            refine AHL_lateDid 12 rfl (by kernel_rfl) rfl rfl (dA_step rfl) ?_
            refine AH_end (by kernel_rfl) ?_
            refine rn rfl ?_
            refine round_keep (s.length - (i + 1)) [7, 6, 5, 4, 3, 2] [0, 1, 2, 3, 4, 9] (by omega) rfl ⟨_, i + 1, F.places.length, F.named.length + 1, ob, ⟨F.places, F.named ++ [⟨p.name, v⟩]⟩, wrap64 (by omega) (by omega), by omega, rfl, by simp, by simp, by rw [hst]; simp [stU, h2, h4, hg', hpl, hv, hd0], rfl⟩
  · refine rn rfl (round_ext ?_)
    have hfin : unbQ s b = F := by
      unfold unbQ
      rw [List.take_of_length_le (by omega)] at hF
      rw [← hF]
    rw [hfin]
    refine rn rfl (fin_is [] rfl ⟨?_, rfl⟩)
    exact asFl F

theorem give_one {s : Sig} {pl : List Int} {qs : List Pair} {i : Nat} {p : Param} (h : singleQ p = true) : ((giveQ s pl qs i p).given = true → ∃ v, (giveQ s pl qs i p).list = [v]) ∧ ((giveQ s pl qs i p).given = false → (giveQ s pl qs i p).list = []) ∧
    (p.kind = 0 → (giveQ s pl qs i p).given = decide (i < pl.length)) := by
  rw [single_kind] at h
  unfold giveQ
  rw [if_neg (by omega)]
  split
  · rename_i hn
    simp only [Bool.and_eq_true] at hn
    have hk := named_kind.1 hn.1
    split
    · exact ⟨fun _ => ⟨_, rfl⟩, (fun h0 => by cases h0), (fun h0 => by omega)⟩
    · exact ⟨(fun h0 => by cases h0), (fun _ => rfl), (fun h0 => by omega)⟩
  · unfold place1
    by_cases hb : (placedQ p && decide (i < pl.length)) = true
    · rw [if_pos hb]
      simp only [Bool.and_eq_true] at hb
      exact ⟨fun _ => ⟨_, rfl⟩, (fun h0 => by cases h0), fun _ => hb.2.symm⟩
    · rw [if_neg hb]
      have h2 : (p.kind == 2) = false := by simp; omega
      simp only [h2]
      refine ⟨(fun h0 => by cases h0), (fun _ => rfl), fun h0 => ?_⟩
      have hp : placedQ p = true := placed_kind.2 (.inl h0)
      rw [hp] at hb
      show false = _
      simpa using hb

theorem give_size {s : Sig} {pl : List Int} {qs : List Pair} {i : Nat} {p : Param} (h1 : pl.length ≤ 8) (h2 : qs.length ≤ 8) : (giveQ s pl qs i p).list.length ≤ 1048576 ∧ (giveQ s pl qs i p).pairs.length ≤ 1048576 := by
  have hf := List.length_filter_le (fun q : Pair => takesQ s q.name == (i : Int)) qs
  unfold giveQ
  split
  · simp; omega
  · split
    · split
      · simp
      · simp [zL]
    · unfold place1
      split
      · simp
      · split
        · simp; omega
        · simp [zL]

theorem bound_at {s : Sig} {f : Flat} (hs : OkS s) (hf : OkF f) {i : Nat} {p : Param} {x : Slot} (hp : s[i]? = some p) (hx : (boundQ s f).1[i]? = some x) : x = giveQ s f.places f.named i p := by
  rw [bound_closed hs hf.nodup] at hx
  simp only [closedQ, List.getElem?_mapIdx, hp, Option.map_some, Option.some.injEq] at hx
  exact hx.symm

theorem bound_okB {s : Sig} {f : Flat} (hs : OkS s) (hf : OkF f) : OkB s (boundQ s f).1 := by
  refine ⟨boundQ_len s f, hs.len, fun p hp => hs.kindRange hp, fun i p x hp hx hsg hg => ?_, fun x hx => ?_⟩
  · have := bound_at hs hf hp hx
    subst this
    exact (give_one hsg).1 hg
  · obtain ⟨i, hi⟩ := List.getElem?_of_mem hx
    obtain ⟨p, hp⟩ := at_some (xs := s) (i := i) (by have := lt_of_some hi; rw [boundQ_len] at this; exact this)
    rw [bound_at hs hf hp hi]
    exact give_size hf.places hf.named

/-- What a call that is accepted gives to one parameter. -/
structure Given (s : Sig) (f : Flat) (b : Bnds) : Prop where
  sig : OkS s
  flat : OkF f
  acc : accQ s f = true
  eq : b = (boundQ s f).1

section

variable {s : Sig} {f : Flat} {b : Bnds}

theorem Given.len (h : Given s f b) : b.length = s.length := by rw [h.eq, boundQ_len]

theorem Given.at (h : Given s f b) {i : Nat} {p : Param} {x : Slot} (hp : s[i]? = some p) (hx : b[i]? = some x) : x = giveQ s f.places f.named i p := by
  rw [h.eq] at hx
  exact bound_at h.sig h.flat hp hx

theorem Given.get (h : Given s f b) {i : Nat} {p : Param} (hp : s[i]? = some p) : b[i]? = some (giveQ s f.places f.named i p) := by
  obtain ⟨x, hx⟩ := at_some (xs := b) (i := i) (by rw [h.len]; exact lt_of_some hp)
  rw [hx, h.at hp hx]

/-- A parameter that is found by its place alone has got a value only by its place; then all ahead of it have. -/
theorem Given.before (h : Given s f b) {i j : Nat} {p q : Param} (hp : s[i]? = some p) (hq : s[j]? = some q) (hk : p.kind = 0) (hji : j < i) (hg : (giveQ s f.places f.named i p).given = true) : (giveQ s f.places f.named j q).given = true := by
  have h1 := (give_one (s := s) (pl := f.places) (qs := f.named) (i := i) (single_kind.2 (.inl hk))).2.2 hk
  rw [hg] at h1
  have hlt : i < f.places.length := by simpa using h1.symm
  have hP := (h.sig.placed_iff hp).1 (placed_kind.2 (.inl hk))
  have hpl := (h.sig.placed_iff hq).2 (by omega)
  have hs : singleQ q = true := by rw [single_kind]; rw [placed_kind] at hpl; omega
  rw [give_given hs]
  have : byPl f.places j q = true := by simp [byPl, hpl]; omega
  rw [this]; rfl

/-- The walk of 'unbind', prefix by prefix. -/
structure UnbAt (s : Sig) (b : Bnds) (i : Nat) (F : Flat) (op : Bool) (V R : List Int) (X Y : List Pair) : Prop where
  places : F.places = V ++ R
  named : F.named = X ++ Y
  vlen : V.length ≤ min i (placesQ s)
  vals : ∀ (j : Nat) (x : Slot), j < V.length → b[j]? = some x → x.given = true ∧ V[j]? = some (hd0 x.list)
  opn : op = true → V.length = min i (placesQ s)
  shut : op = false → V.length < placesQ s ∧ V.length < i ∧ ∀ x, b[V.length]? = some x → x.given = false
  rest : ∀ (j : Nat) (p : Param) (x : Slot), j < i → s[j]? = some p → b[j]? = some x → p.kind = 2 → R = x.list
  rest0 : (∀ (j : Nat) (p : Param), j < i → s[j]? = some p → p.kind ≠ 2) → R = []
  map : ∀ (j : Nat) (p : Param) (x : Slot), j < i → s[j]? = some p → b[j]? = some x → p.kind = 4 → Y = x.pairs
  map0 : (∀ (j : Nat) (p : Param), j < i → s[j]? = some p → p.kind ≠ 4) → Y = []
  mem : ∀ q : Pair, q ∈ X ↔ ∃ (j : Nat) (p : Param) (x : Slot), j < i ∧ s[j]? = some p ∧ b[j]? = some x ∧ x.given = true ∧ (p.kind = 3 ∨ (p.kind = 1 ∧ V.length < j)) ∧ q = ⟨p.name, hd0 x.list⟩
  nodup : (namesOf X).Nodup

theorem Given.unbAt (h : Given s f b) : ∀ i, i ≤ s.length → ∃ F op V R X Y, ((s.zip b).take i).foldl stU (zF, true) = (F, op) ∧ UnbAt s b i F op V R X Y
  | 0, _ => ⟨zF, true, [], [], [], [], by simp, ⟨rfl, rfl, by simp, fun j x hj => by simp at hj, fun _ => by simp, (fun h0 => by cases h0), fun j p x hj => by omega, fun _ => rfl, fun j p x hj => by omega, fun _ => rfl, fun q => by
      constructor
      · intro h0; simp at h0
      · rintro ⟨j, p, x, hj, _⟩; omega, by simp [namesOf]⟩⟩
  | i + 1, hi => by
    obtain ⟨F, op, V, R, X, Y, hfold, I⟩ := Given.unbAt h i (by omega)
    obtain ⟨p, hp⟩ := at_some (xs := s) (i := i) (by omega)
    have hx := h.get hp
    generalize hxe : giveQ s f.places f.named i p = x at hx
    have hz : (s.zip b)[i]? = some (p, x) := List.getElem?_zip_eq_some.2 ⟨hp, hx⟩
    have hst : ((s.zip b).take (i + 1)).foldl stU (zF, true) = stU (F, op) (p, x) := by rw [foldl_take_succ _ _ hz, hfold]
    rw [hst]
    have hP := h.sig.placed_iff hp
    have hkr := h.sig.kindRange (List.mem_of_getElem? hp)
    have upto : ∀ (j : Nat) (q : Param), j < i + 1 → s[j]? = some q → j < i ∨ (j = i ∧ q = p) := fun j q hj hq => by
      by_cases hji : j = i
      · subst hji; rw [hp] at hq; cases hq; exact .inr ⟨rfl, rfl⟩
      · exact .inl (by omega)
    have xat : ∀ (j : Nat) (y : Slot), j = i → b[j]? = some y → y = x := fun j y hj hy => by subst hj; rw [hx] at hy; cases hy; rfl
    have before : ∀ (j : Nat) (q : Param), j < i → s[j]? = some q → q.kind ≤ p.kind := fun j q hj hq => h.sig.sorted (i - j) j q p hq (by rw [show j + (i - j) = i by omega]; exact hp)
    have notin : ∀ q ∈ X, q.name ≠ p.name := fun q hq he => by
      obtain ⟨j, r, y, hj, hr, _, _, _, rfl⟩ := (I.mem q).1 hq
      have := name_inj h.sig hr hp he
      omega
    have memStay : (x.given = true → ¬ (p.kind = 3 ∨ (p.kind = 1 ∧ V.length < i))) → ∀ (V' : List Int), V.length ≤ V'.length → (∀ j q, j < i → s[j]? = some q → q.kind = 1 → V.length < j → V'.length < j) → ∀ q : Pair, q ∈ X ↔ ∃ (j : Nat) (p : Param) (x : Slot), j < i + 1 ∧ s[j]? = some p ∧ b[j]? = some x ∧ x.given = true ∧ (p.kind = 3 ∨ (p.kind = 1 ∧ V'.length < j)) ∧ q = ⟨p.name, hd0 x.list⟩ := fun hno V' hV hV' q => by
      rw [I.mem q]
      constructor
      · rintro ⟨j, r, y, hj, hr, hy, hg, hk, rfl⟩
        refine ⟨j, r, y, by omega, hr, hy, hg, ?_, rfl⟩
        rcases hk with hk | ⟨hk, hl⟩
        · exact .inl hk
        · exact .inr ⟨hk, hV' j r hj hr hk hl⟩
      · rintro ⟨j, r, y, hj, hr, hy, hg, hk, rfl⟩
        rcases upto j r hj hr with hji | ⟨rfl, rfl⟩
        · refine ⟨j, r, y, hji, hr, hy, hg, ?_, rfl⟩
          rcases hk with hk | ⟨hk, hl⟩
          · exact .inl hk
          · exact .inr ⟨hk, by omega⟩
        · exfalso
          have := xat j y rfl hy
          subst this
          refine hno hg ?_
          rcases hk with hk | ⟨hk, hl⟩
          · exact .inl hk
          · exact .inr ⟨hk, by omega⟩
    by_cases hk2 : p.kind = 2
    · have hR : R = [] := I.rest0 fun j q hj hq hk => by
        have := h.sig.one hq hp (by omega) (by simp [singleQ, placedQ, hk2]); omega
      have hnp : ¬ i < placesQ s := fun h0 => by have := hP.2 h0; rw [placed_kind] at this; omega
      have hs' : stU (F, op) (p, x) = (⟨F.places ++ x.list, F.named⟩, op) := by simp [stU, hk2]
      rw [hs']
      refine ⟨_, op, V, x.list, X, Y, rfl, ⟨by rw [I.places, hR, List.append_nil], I.named, by have := I.vlen; omega, I.vals, fun h0 => by rw [I.opn h0]; omega, fun h0 => ?_, fun j q y hj hq hy hk => ?_, fun h0 => absurd hk2 (h0 i p (by omega) hp), fun j q y hj hq hy hk => ?_, fun h0 => I.map0 fun j q hj hq => h0 j q (by omega) hq, memStay (fun _ h0 => by omega) V (Nat.le_refl _) (fun j q _ _ _ hl => hl), I.nodup⟩⟩
      · obtain ⟨a1, a2, a3⟩ := I.shut h0
        exact ⟨a1, by omega, a3⟩
      · rcases upto j q hj hq with hji | ⟨rfl, rfl⟩
        · have := h.sig.one hq hp (by omega) (by simp [singleQ, placedQ, hk2]); omega
        · rw [xat j y rfl hy]
      · rcases upto j q hj hq with hji | ⟨rfl, rfl⟩
        · exact I.map j q y hji hq hy hk
        · omega
    by_cases hk4 : p.kind = 4
    · have hY : Y = [] := I.map0 fun j q hj hq hk => by
        have := h.sig.one hq hp (by omega) (by simp [singleQ, placedQ, hk4]); omega
      have hnp : ¬ i < placesQ s := fun h0 => by have := hP.2 h0; rw [placed_kind] at this; omega
      have hs' : stU (F, op) (p, x) = (⟨F.places, F.named ++ x.pairs⟩, op) := by simp [stU, hk4]
      rw [hs']
      refine ⟨_, op, V, R, X, x.pairs, rfl, ⟨I.places, by rw [I.named, hY, List.append_nil], by have := I.vlen; omega, I.vals, fun h0 => by rw [I.opn h0]; omega, fun h0 => ?_, fun j q y hj hq hy hk => ?_, fun h0 => I.rest0 fun j q hj hq => h0 j q (by omega) hq, fun j q y hj hq hy hk => ?_, fun h0 => absurd hk4 (h0 i p (by omega) hp), memStay (fun _ h0 => by omega) V (Nat.le_refl _) (fun j q _ _ _ hl => hl), I.nodup⟩⟩
      · obtain ⟨a1, a2, a3⟩ := I.shut h0
        exact ⟨a1, by omega, a3⟩
      · rcases upto j q hj hq with hji | ⟨rfl, rfl⟩
        · exact I.rest j q y hji hq hy hk
        · omega
      · rcases upto j q hj hq with hji | ⟨rfl, rfl⟩
        · have := h.sig.one hq hp (by omega) (by simp [singleQ, placedQ, hk4]); omega
        · rw [xat j y rfl hy]
    have restStay : ∀ (j : Nat) (q : Param) (y : Slot), j < i + 1 → s[j]? = some q → b[j]? = some y → q.kind = 2 → R = y.list := fun j q y hj hq hy hk => by
      rcases upto j q hj hq with hji | ⟨rfl, rfl⟩
      · exact I.rest j q y hji hq hy hk
      · exact absurd hk hk2
    have rest0Stay : (∀ (j : Nat) (q : Param), j < i + 1 → s[j]? = some q → q.kind ≠ 2) → R = [] := fun h0 => I.rest0 fun j q hj hq => h0 j q (by omega) hq
    have mapStay : ∀ (j : Nat) (q : Param) (y : Slot), j < i + 1 → s[j]? = some q → b[j]? = some y → q.kind = 4 → Y = y.pairs := fun j q y hj hq hy hk => by
      rcases upto j q hj hq with hji | ⟨rfl, rfl⟩
      · exact I.map j q y hji hq hy hk
      · exact absurd hk hk4
    have map0Stay : (∀ (j : Nat) (q : Param), j < i + 1 → s[j]? = some q → q.kind ≠ 4) → Y = [] := fun h0 => I.map0 fun j q hj hq => h0 j q (by omega) hq
    have hsg : singleQ p = true := single_kind.2 (by omega)
    cases hg : x.given with
    | false =>
      have hs' : stU (F, op) (p, x) = (F, op && !placedQ p) := by simp [stU, hk2, hk4, hg]
      rw [hs']
      refine ⟨_, _, V, R, X, Y, rfl, ⟨I.places, I.named, by have := I.vlen; omega, I.vals, fun h0 => ?_, fun h0 => ?_, restStay, rest0Stay, mapStay, map0Stay, memStay (fun h0 => by rw [hg] at h0; cases h0) V (Nat.le_refl _) (fun j q _ _ _ hl => hl), I.nodup⟩⟩
      · simp only [Bool.and_eq_true, Bool.not_eq_true'] at h0
        have hnp : ¬ i < placesQ s := fun h1 => by rw [hP.2 h1] at h0; cases h0.2
        rw [I.opn h0.1]; omega
      · cases ho : op with
        | false =>
          obtain ⟨a1, a2, a3⟩ := I.shut ho
          exact ⟨a1, by omega, a3⟩
        | true =>
          rw [ho] at h0
          simp only [Bool.true_and, Bool.not_eq_false'] at h0
          have hip := hP.1 h0
          have hv := I.opn ho
          have hv' : V.length = i := by omega
          refine ⟨by omega, by omega, fun y hy => ?_⟩
          rw [hv'] at hy
          rw [xat i y rfl hy]; exact hg
    | true =>
      by_cases hpo : (placedQ p && op) = true
      · have hs' : stU (F, op) (p, x) = (⟨F.places ++ [hd0 x.list], F.named⟩, op) := by simp [stU, hk2, hk4, hg, hpo]
        rw [hs']
        simp only [Bool.and_eq_true] at hpo
        have hip := hP.1 hpo.1
        have hv := I.opn hpo.2
        have hv' : V.length = i := by omega
        have hR : R = [] := I.rest0 fun j q hj hq hk => by
          have := before j q hj hq
          have h9 := hpo.1
          rw [placed_kind] at h9; omega
        refine ⟨_, op, V ++ [hd0 x.list], R, X, Y, rfl, ⟨by rw [I.places, hR]; simp, I.named, by simp; omega, fun j y hj hy => ?_, fun _ => by simp; omega, fun h0 => (by rw [hpo.2] at h0; cases h0), restStay, rest0Stay, mapStay, map0Stay, ?_, I.nodup⟩⟩
        · simp only [List.length_append, List.length_cons, List.length_nil] at hj
          by_cases hjv : j < V.length
          · obtain ⟨a1, a2⟩ := I.vals j y hjv hy
            exact ⟨a1, by rw [List.getElem?_append_left hjv]; exact a2⟩
          · have hji : j = i := by omega
            have := xat j y hji hy
            subst this
            exact ⟨hg, by rw [List.getElem?_append_right (by omega)]; simp [hji, hv']⟩
        · refine memStay (fun _ h0 => ?_) (V ++ [hd0 x.list]) (by simp) (fun j q hj _ _ hl => by omega)
          have h9 := hpo.1
          rw [placed_kind] at h9
          omega
      · have hs' : stU (F, op) (p, x) = (⟨F.places, F.named ++ [⟨p.name, hd0 x.list⟩]⟩, op) := by simp [stU, hk2, hk4, hg, hpo]
        rw [hs']
        have hY : Y = [] := I.map0 fun j q hj hq hk => by
          have := before j q hj hq; omega
        have hkk : p.kind = 3 ∨ (p.kind = 1 ∧ V.length < i) := by
          by_cases hk3 : p.kind = 3
          · exact .inl hk3
          · have hpl : placedQ p = true := by rw [placed_kind]; rw [single_kind] at hsg; omega
            have ho : op = false := by
              cases ho : op with
              | false => rfl
              | true => rw [hpl, ho] at hpo; exact absurd rfl hpo
            obtain ⟨a1, a2, a3⟩ := I.shut ho
            refine .inr ⟨?_, a2⟩
            refine Classical.byContradiction fun hk1 => ?_
            have hk0 : p.kind = 0 := by rw [placed_kind] at hpl; omega
            obtain ⟨q, hq⟩ := at_some (xs := s) (i := V.length) (by omega)
            have hgq := h.before hp hq hk0 a2 (by rw [hxe]; exact hg)
            have := a3 _ (h.get hq)
            rw [hgq] at this; cases this
        refine ⟨_, op, V, R, X ++ [⟨p.name, hd0 x.list⟩], Y, rfl, ⟨I.places, by rw [I.named, hY]; simp, by have := I.vlen; omega, I.vals, fun h0 => ?_, fun h0 => ?_, restStay, rest0Stay, mapStay, map0Stay, fun q => ?_, ?_⟩⟩
        · have hnp : ¬ i < placesQ s := fun h1 => by rw [hP.2 h1, h0] at hpo; exact hpo rfl
          rw [I.opn h0]; omega
        · obtain ⟨a1, a2, a3⟩ := I.shut h0
          exact ⟨a1, by omega, a3⟩
        · rw [List.mem_append, List.mem_singleton, I.mem q]
          constructor
          · rintro (⟨j, r, y, hj, hr, hy, hgy, hk, rfl⟩ | rfl)
            · exact ⟨j, r, y, by omega, hr, hy, hgy, hk, rfl⟩
            · exact ⟨i, p, x, by omega, hp, hx, hg, hkk, rfl⟩
          · rintro ⟨j, r, y, hj, hr, hy, hgy, hk, rfl⟩
            rcases upto j r hj hr with hji | ⟨rfl, rfl⟩
            · exact .inl ⟨j, r, y, hji, hr, hy, hgy, hk, rfl⟩
            · right; rw [xat j y rfl hy]
        · unfold namesOf
          rw [List.map_append, List.map_cons, List.map_nil]
          refine List.nodup_append.2 ⟨I.nodup, by simp, fun a ha c hc => ?_⟩
          simp only [List.mem_singleton] at hc
          obtain ⟨q, hq, rfl⟩ := List.mem_map.1 ha
          rw [hc]
          exact notin q hq

end

theorem find_uniq {qs : List Pair} {q : Pair} (hnd : (namesOf qs).Nodup) (hq : q ∈ qs) : qs.find? (nameIs q.name) = some q := by
  cases h : qs.find? (nameIs q.name) with
  | none =>
    rw [List.find?_eq_none] at h
    exact absurd (by simp [nameIs]) (h q hq)
  | some r =>
    have h1 := List.mem_of_find?_eq_some h
    have h2 := List.find?_some h
    simp only [nameIs, beq_iff_eq] at h2
    obtain ⟨i, hi⟩ := List.getElem?_of_mem h1
    obtain ⟨j, hj⟩ := List.getElem?_of_mem hq
    have hij : i = j := by
      refine (List.getElem?_inj (l := namesOf qs) (by have := lt_of_some hi; simpa [namesOf] using this) hnd).1 ?_
      unfold namesOf
      rw [List.getElem?_map, List.getElem?_map, hi, hj]
      simp [h2]
    subst hij
    rw [hi] at hj
    exact hj

section

variable {s : Sig} {f g : Flat}

end

theorem sub_length {α : Type} [DecidableEq α] : ∀ (xs ys : List α), xs.Nodup → (∀ x ∈ xs, x ∈ ys) → xs.length ≤ ys.length
  | [], ys, _, _ => by simp
  | x :: xs, ys, hd, hm => by
    rw [List.nodup_cons] at hd
    have h1 := sub_length xs (ys.erase x) hd.2 fun y hy => by
      have hne : y ≠ x := fun h0 => hd.1 (h0 ▸ hy)
      exact (List.mem_erase_of_ne hne).2 (hm y (by simp [hy]))
    have h2 := List.length_erase_of_mem (hm x (by simp))
    have h3 : 0 < ys.length := List.length_pos_of_mem (hm x (by simp))
    simp only [List.length_cons]
    omega

theorem give_rest {s : Sig} {pl : List Int} {qs : List Pair} {i : Nat} {p : Param} (hk : p.kind = 2) : giveQ s pl qs i p = ⟨false, pl.drop (placesQ s), []⟩ := by
  unfold giveQ
  rw [if_neg (by omega)]
  have h1 : namedQ p = false := by simp [namedQ, hk]
  have h2 : placedQ p = false := by simp [placedQ, hk]
  rw [h1]
  simp [place1, h2, hk]

theorem give_single {s : Sig} {pl : List Int} {qs : List Pair} {i : Nat} {p : Param} (h : singleQ p = true) : giveQ s pl qs i p =
    if byPl pl i p then ⟨true, [pl.getD i 0], []⟩ else if namedQ p then (match qs.find? (nameIs p.name) with
      | some q => ⟨true, [q.value], []⟩
      | none => zL) else zL := by
  rw [single_kind] at h
  unfold giveQ
  rw [if_neg (by omega)]
  cases hb : byPl pl i p with
  | true =>
    have hb' := hb
    unfold byPl at hb'
    simp [place1, hb']
  | false =>
    cases hn : namedQ p with
    | true =>
      cases qs.find? (nameIs p.name) <;> simp
    | false =>
      have hb' := hb
      unfold byPl at hb'
      have h2 : (p.kind == 2) = false := by simp; omega
      simp [place1, hb', h2]

theorem give_shape {s : Sig} {pl : List Int} {qs : List Pair} {i : Nat} {p : Param} (h : singleQ p = true) :
    ((giveQ s pl qs i p).given = true → giveQ s pl qs i p = ⟨true, [hd0 (giveQ s pl qs i p).list], []⟩) ∧ ((giveQ s pl qs i p).given = false → giveQ s pl qs i p = zL) := by
  rw [give_single h]
  split
  · simp [hd0]
  · split
    · split
      · simp [hd0]
      · simp [zL]
    · simp [zL]

theorem give_vals {s : Sig} {f : Flat} (hf : OkF f) {i : Nat} {p : Param} : ∀ v ∈ (giveQ s f.places f.named i p).list, okVal v = true := by
  intro v hv
  unfold giveQ at hv
  split at hv
  · simp at hv
  · split at hv
    · split at hv
      · rename_i q hq
        simp only [List.mem_singleton] at hv
        subst hv
        have := hf.pairs q (List.mem_of_find?_eq_some hq)
        simp only [okPair, Bool.and_eq_true] at this
        exact this.2
      · simp [zL] at hv
    · unfold place1 at hv
      split at hv
      · rename_i h1
        simp only [Bool.and_eq_true, decide_eq_true_eq] at h1
        simp only [List.mem_singleton] at hv
        subst hv
        rw [List.getD_eq_getElem?_getD, List.getElem?_eq_getElem h1.2]
        exact hf.vals _ (List.getElem_mem h1.2)
      · split at hv
        · exact hf.vals v (List.mem_of_mem_drop hv)
        · simp [zL] at hv

section

variable {s : Sig} {f : Flat} {b : Bnds}

theorem Given.unb (h : Given s f b) : ∃ op V R X Y, UnbAt s b s.length (unbQ s b) op V R X Y := by
  obtain ⟨F, op, V, R, X, Y, hfold, I⟩ := h.unbAt s.length (Nat.le_refl _)
  refine ⟨op, V, R, X, Y, ?_⟩
  have : unbQ s b = F := by
    unfold unbQ
    rw [List.take_of_length_le (by simp [h.len])] at hfold
    rw [hfold]
  rw [this]; exact I

theorem Given.gap (h : Given s f b) {op : Bool} {V R : List Int} {X Y : List Pair} {F : Flat} (I : UnbAt s b s.length F op V R X Y) (hlt : V.length < placesQ s) :
    f.places.length ≤ V.length ∧ R = [] ∧ ∀ x, b[V.length]? = some x → x.given = false := by
  have hPl := placesQ_le s
  have ho : op = false := by
    cases ho : op with
    | false => rfl
    | true => have := I.opn ho; omega
  obtain ⟨a1, a2, a3⟩ := I.shut ho
  obtain ⟨q, hq⟩ := at_some (xs := s) (i := V.length) (by omega)
  have hpl := (h.sig.placed_iff hq).2 hlt
  have hg := a3 _ (h.get hq)
  rw [give_given (by rw [single_kind]; rw [placed_kind] at hpl; omega)] at hg
  simp only [Bool.or_eq_false_iff] at hg
  have hle : f.places.length ≤ V.length := by
    have := hg.1
    unfold byPl at this
    rw [hpl] at this
    simpa using this
  refine ⟨hle, ?_, a3⟩
  by_cases h2 : ∃ (j : Nat) (p : Param), s[j]? = some p ∧ p.kind = 2
  · obtain ⟨j, p, hp, hk⟩ := h2
    rw [I.rest j p _ (lt_of_some hp) hp (h.get hp) hk, give_rest hk]
    exact List.drop_eq_nil_of_le (by omega)
  · exact I.rest0 fun j p _ hp hk => h2 ⟨j, p, hp, hk⟩

theorem Given.mapOf (h : Given s f b) {op : Bool} {V R : List Int} {X Y : List Pair} {F : Flat} (I : UnbAt s b s.length F op V R X Y) {q : Pair} (hq : q ∈ Y) :
    ∃ (j : Nat) (p : Param), s[j]? = some p ∧ p.kind = 4 ∧ takesQ s q.name = (j : Int) ∧ q ∈ f.named := by
  by_cases h4 : ∃ (j : Nat) (p : Param), s[j]? = some p ∧ p.kind = 4
  · obtain ⟨j, p, hp, hk⟩ := h4
    have hY := I.map j p _ (lt_of_some hp) hp (h.get hp) hk
    unfold giveQ at hY
    rw [if_pos hk] at hY
    simp only at hY
    rw [hY, List.mem_filter] at hq
    exact ⟨j, p, hp, hk, by simpa using hq.2, hq.1⟩
  · have := I.map0 fun j p _ hp hk => h4 ⟨j, p, hp, hk⟩
    rw [this] at hq; cases hq

theorem Given.again (h : Given s f b) : Given s (unbQ s b) b := by
  obtain ⟨op, V, R, X, Y, I⟩ := h.unb
  have hPl := placesQ_le s
  have hsl := h.sig.len
  have hfp := h.flat.places
  have hfn := h.flat.named
  have hV : V.length ≤ placesQ s := by have := I.vlen; omega
  have gap := fun hlt => h.gap I hlt
  have xmem : ∀ q ∈ X, ∃ (j : Nat) (p : Param), s[j]? = some p ∧ namedQ p = true ∧ q.name = p.name ∧ (giveQ s f.places f.named j p).given = true ∧ (p.kind = 3 ∨ (p.kind = 1 ∧ V.length < j)) ∧ q.value = hd0 (giveQ s f.places f.named j p).list := fun q hq => by
    obtain ⟨j, p, x, _, hp, hx, hg, hk, rfl⟩ := (I.mem q).1 hq
    have := h.at hp hx
    subst this
    exact ⟨j, p, hp, named_kind.2 (by omega), rfl, hg, hk, rfl⟩
  have hRsub : ∀ v ∈ R, okVal v = true := fun v hv => by
    by_cases h2 : ∃ (j : Nat) (p : Param), s[j]? = some p ∧ p.kind = 2
    · obtain ⟨j, p, hp, hk⟩ := h2
      rw [I.rest j p _ (lt_of_some hp) hp (h.get hp) hk] at hv
      exact give_vals h.flat v hv
    · rw [I.rest0 fun j p _ hp hk => h2 ⟨j, p, hp, hk⟩] at hv; cases hv
  have hRlen : V.length + R.length ≤ 8 := by
    by_cases h2 : ∃ (j : Nat) (p : Param), s[j]? = some p ∧ p.kind = 2
    · obtain ⟨j, p, hp, hk⟩ := h2
      have hR := I.rest j p _ (lt_of_some hp) hp (h.get hp) hk
      rw [give_rest hk] at hR
      have : R.length = f.places.length - placesQ s := by rw [hR]; simp
      omega
    · rw [I.rest0 fun j p _ hp hk => h2 ⟨j, p, hp, hk⟩]; simp; omega
  have hdis : ∀ q ∈ X, ∀ r ∈ Y, q.name ≠ r.name := fun q hq r hr he => by
    obtain ⟨j, p, hp, hn, hqn, _⟩ := xmem q hq
    obtain ⟨k, p', hp', hk', ht, _⟩ := h.mapOf I hr
    have := takes_named h.sig hp hn
    rw [← hqn, he, ht] at this
    have hjk : k = j := by omega
    subst hjk
    rw [hp] at hp'; cases hp'
    rw [named_kind] at hn; omega
  have hYnd : (namesOf Y).Nodup := by
    by_cases h4 : ∃ (j : Nat) (p : Param), s[j]? = some p ∧ p.kind = 4
    · obtain ⟨j, p, hp, hk⟩ := h4
      have hY := I.map j p _ (lt_of_some hp) hp (h.get hp) hk
      unfold giveQ at hY
      rw [if_pos hk] at hY
      simp only at hY
      rw [hY]
      exact h.flat.nodup.sublist (List.filter_sublist.map _)
    · rw [I.map0 fun j p _ hp hk => h4 ⟨j, p, hp, hk⟩]; simp [namesOf]
  have hnd : (namesOf (X ++ Y)).Nodup := by
    unfold namesOf
    rw [List.map_append]
    refine List.nodup_append.2 ⟨I.nodup, hYnd, fun a ha c hc he => ?_⟩
    obtain ⟨q, hq, rfl⟩ := List.mem_map.1 ha
    obtain ⟨r, hr, rfl⟩ := List.mem_map.1 hc
    exact hdis q hq r hr he
  have xnamed : ∀ q ∈ X, q.name ∈ namesOf f.named := fun q hq => by
    obtain ⟨j, p, hp, hn, hqn, hg, hk, _⟩ := xmem q hq
    rw [give_given (single_kind.2 (by omega))] at hg
    simp only [Bool.or_eq_true, Bool.and_eq_true] at hg
    rcases hg with hg | hg
    · exfalso
      simp only [byPl, Bool.and_eq_true, decide_eq_true_eq] at hg
      have hjP := (h.sig.placed_iff hp).1 hg.1
      rcases hk with hk | ⟨hk, hl⟩
      · have := hg.1; rw [placed_kind] at this; omega
      · have := (gap (by omega)).1; omega
    · rw [hqn]; exact any_names.1 hg.2
  have hU : OkF (unbQ s b) := by
    refine ⟨fun q hq => ?_, by rw [I.named]; exact hnd, fun v hv => ?_, by rw [I.places, List.length_append]; exact hRlen, ?_⟩
    · rw [I.named] at hq
      rcases List.mem_append.1 hq with hq | hq
      · obtain ⟨j, p, hp, hn, hqn, hg, hk, hv⟩ := xmem q hq
        have h1 := h.sig.okName (List.mem_of_getElem? hp)
        have h2 := (give_shape (s := s) (pl := f.places) (qs := f.named) (i := j) (p := p) (single_kind.2 (by omega))).1 hg
        have h3 := give_vals (s := s) h.flat (i := j) (p := p) (hd0 (giveQ s f.places f.named j p).list) (by rw [h2]; simp [hd0])
        simp [okPair, hqn, h1, hv, h3]
      · obtain ⟨_, _, _, _, _, hm⟩ := h.mapOf I hq
        exact h.flat.pairs q hm
    · rw [I.places] at hv
      rcases List.mem_append.1 hv with hv | hv
      · obtain ⟨j, hj⟩ := List.getElem?_of_mem hv
        have hjl := lt_of_some hj
        obtain ⟨p, hp⟩ := at_some (xs := s) (i := j) (by omega)
        obtain ⟨a1, a2⟩ := I.vals j _ hjl (h.get hp)
        have hpl := (h.sig.placed_iff hp).2 (by omega)
        have hsg : singleQ p = true := by rw [single_kind]; rw [placed_kind] at hpl; omega
        have h2 := (give_shape (s := s) (pl := f.places) (qs := f.named) (i := j) (p := p) hsg).1 a1
        rw [hj] at a2
        cases a2
        exact give_vals (s := s) h.flat (i := j) (p := p) _ (by rw [h2]; simp [hd0])
      · exact hRsub v hv
    · rw [I.named]
      have := sub_length (namesOf (X ++ Y)) (namesOf f.named) hnd fun n hn => by
        unfold namesOf at hn
        rw [List.map_append] at hn
        rcases List.mem_append.1 hn with hn | hn
        · obtain ⟨q, hq, rfl⟩ := List.mem_map.1 hn
          exact xnamed q hq
        · obtain ⟨q, hq, rfl⟩ := List.mem_map.1 hn
          obtain ⟨_, _, _, _, _, hm⟩ := h.mapOf I hq
          exact List.mem_map_of_mem hm
      simp only [namesOf, List.length_map] at this
      omega
  have hplU : ∀ (i : Nat) (p : Param), s[i]? = some p → placedQ p = true → (i < (unbQ s b).places.length ↔ i < V.length) := fun i p hp hpl => by
    have hiP := (h.sig.placed_iff hp).1 hpl
    rw [I.places, List.length_append]
    constructor
    · intro hi
      refine Classical.byContradiction fun hc => ?_
      have := (gap (by omega)).2.1
      rw [this] at hi
      simp at hi; omega
    · omega
  have hB : ∀ (i : Nat) (p : Param), s[i]? = some p → giveQ s (unbQ s b).places (unbQ s b).named i p = giveQ s f.places f.named i p := fun i p hp => by
    have hkr := h.sig.kindRange (List.mem_of_getElem? hp)
    by_cases hk4 : p.kind = 4
    · have hY := I.map i p _ (lt_of_some hp) hp (h.get hp) hk4
      have e1 : ∀ qs pl, giveQ s pl qs i p = ⟨false, [], qs.filter fun q => takesQ s q.name == (i : Int)⟩ := fun qs pl => by unfold giveQ; rw [if_pos hk4]
      rw [e1] at hY
      simp only at hY
      rw [e1, e1, I.named, List.filter_append]
      have hX : X.filter (fun q => takesQ s q.name == (i : Int)) = [] := by
        rw [List.filter_eq_nil_iff]
        intro q hq ht
        obtain ⟨j, r, hr, hn, hqn, _⟩ := xmem q hq
        have := takes_named h.sig hr hn
        rw [← hqn] at this
        simp only [beq_iff_eq] at ht
        have hij : i = j := by omega
        subst hij
        rw [hp] at hr; cases hr
        rw [named_kind] at hn; omega
      rw [hX, List.nil_append, hY, List.filter_filter]
      simp
    by_cases hk2 : p.kind = 2
    · have hR := I.rest i p _ (lt_of_some hp) hp (h.get hp) hk2
      rw [give_rest hk2] at hR
      simp only at hR
      rw [give_rest hk2, give_rest hk2, I.places, ← hR]
      congr 1
      by_cases hlt : V.length < placesQ s
      · rw [(gap hlt).2.1, List.append_nil]; exact List.drop_eq_nil_of_le (by omega)
      · rw [show placesQ s = V.length by omega, List.drop_left]
    have hsg : singleQ p = true := single_kind.2 (by omega)
    have hsh := give_shape (s := s) (pl := f.places) (qs := f.named) (i := i) (p := p) hsg
    have hget := h.get hp
    generalize giveQ s f.places f.named i p = g at hsh hget ⊢
    rw [give_single hsg]
    by_cases hb : byPl (unbQ s b).places i p = true
    · rw [if_pos hb]
      simp only [byPl, Bool.and_eq_true, decide_eq_true_eq] at hb
      have hiV := (hplU i p hp hb.1).1 hb.2
      obtain ⟨a1, a2⟩ := I.vals i g hiV hget
      rw [hsh.1 a1]
      have : (unbQ s b).places.getD i 0 = hd0 g.list := by
        rw [List.getD_eq_getElem?_getD, I.places, List.getElem?_append_left hiV, a2]; rfl
      rw [this]
    · rw [if_neg hb]
      have hnV : placedQ p = true → V.length ≤ i := fun hpl => Nat.le_of_not_lt fun h0 => hb (by
        simp only [byPl, Bool.and_eq_true, decide_eq_true_eq]; exact ⟨hpl, (hplU i p hp hpl).2 h0⟩)
      have hgap : placedQ p = true → g.given = true → V.length < i := fun hpl hg => by
        have h1 := hnV hpl
        have hiP := (h.sig.placed_iff hp).1 hpl
        have h2 := (gap (by omega)).2.2
        refine Classical.byContradiction fun hc => ?_
        have : i = V.length := by omega
        have := h2 g (by rw [← this]; exact hget)
        rw [hg] at this; cases this
      cases hg : g.given with
      | true =>
        have hk : p.kind = 3 ∨ (p.kind = 1 ∧ V.length < i) := by
          by_cases hk3 : p.kind = 3
          · exact .inl hk3
          · have hpl : placedQ p = true := by rw [placed_kind]; rw [single_kind] at hsg; omega
            have hVi := hgap hpl hg
            refine .inr ⟨?_, hVi⟩
            refine Classical.byContradiction fun hk1 => ?_
            have hk0 : p.kind = 0 := by rw [placed_kind] at hpl; omega
            have hiP := (h.sig.placed_iff hp).1 hpl
            obtain ⟨q, hq⟩ := at_some (xs := s) (i := V.length) (by omega)
            have hgi : (giveQ s f.places f.named i p).given = true := by rw [← h.at hp hget]; exact hg
            have hgq := h.before hp hq hk0 hVi hgi
            have := (gap (by omega)).2.2 _ (h.get hq)
            rw [hgq] at this; cases this
        have hn : namedQ p = true := named_kind.2 (by omega)
        rw [if_pos hn]
        have hm : (⟨p.name, hd0 g.list⟩ : Pair) ∈ X := (I.mem _).2 ⟨i, p, g, lt_of_some hp, hp, hget, hg, hk, rfl⟩
        have hf := find_uniq (qs := (unbQ s b).named) (q := ⟨p.name, hd0 g.list⟩) hU.nodup (by rw [I.named]; exact List.mem_append_left _ hm)
        simp only at hf
        rw [hf]
        exact (hsh.1 hg).symm
      | false =>
        rw [hsh.2 hg]
        split
        · rename_i hn
          have : (unbQ s b).named.find? (nameIs p.name) = none := by
            rw [List.find?_eq_none]
            intro q hq hqn
            simp only [nameIs, beq_iff_eq] at hqn
            rw [I.named] at hq
            rcases List.mem_append.1 hq with hq | hq
            · obtain ⟨j, r, x, _, hr, hx, hgx, _, rfl⟩ := (I.mem q).1 hq
              have hji := name_inj h.sig hr hp hqn
              subst hji
              rw [hget] at hx; cases hx
              rw [hg] at hgx; cases hgx
            · obtain ⟨j, r, hr, hk, ht, _⟩ := h.mapOf I hq
              have := takes_named h.sig hp hn
              rw [← hqn, ht] at this
              have hji : j = i := by omega
              subst hji
              rw [hp] at hr; cases hr
              exact hk4 hk
          rw [this]
        · rfl
  have hacc : accQ s (unbQ s b) = true := by
    have hf3 := ((acc_iff h.sig h.flat).1 h.acc).2.2
    refine (acc_iff h.sig hU).2 ⟨fun hlt => ?_, fun q hq => ?_, ?_⟩
    · by_cases h2 : ∃ (j : Nat) (p : Param), s[j]? = some p ∧ p.kind = 2
      · obtain ⟨j, p, hp, hk⟩ := h2
        exact List.any_eq_true.2 ⟨p, List.mem_of_getElem? hp, by simp [kIs, hk]⟩
      · have hR := I.rest0 fun j p _ hp hk => h2 ⟨j, p, hp, hk⟩
        rw [I.places, hR] at hlt
        simp at hlt; omega
    · rw [wrong_iff2 h.sig]
      rw [I.named] at hq
      rcases List.mem_append.1 hq with hq | hq
      · obtain ⟨j, p, hp, hn, hqn, hg, hk, hv⟩ := xmem q hq
        refine ⟨.inl ⟨j, p, hp, hn, hqn.symm⟩, fun i r hr hrn hre => ?_⟩
        have hij := name_inj h.sig hr hp (by rw [hre, hqn])
        subst hij
        rw [hp] at hr; cases hr
        unfold byPl
        cases hpl : placedQ p with
        | false => rfl
        | true =>
          simp only [Bool.true_and, decide_eq_false_iff_not]
          rw [hplU i p hp hpl]
          rcases hk with hk | ⟨hk, hl⟩
          · rw [placed_kind] at hpl; omega
          · omega
      · obtain ⟨j, r, hr, hk, ht, _⟩ := h.mapOf I hq
        refine ⟨.inr ⟨r, List.mem_of_getElem? hr, hk⟩, fun i p hp hn he => ?_⟩
        have := takes_named h.sig hp hn
        rw [he, ht] at this
        have hji : j = i := by omega
        subst hji
        rw [hp] at hr; cases hr
        rw [named_kind] at hn; omega
    · have : s.mapIdx (giveQ s (unbQ s b).places (unbQ s b).named) = s.mapIdx (giveQ s f.places f.named) := by
        apply List.ext_getElem?
        intro i
        rw [List.getElem?_mapIdx, List.getElem?_mapIdx]
        cases hp : s[i]? with
        | none => rfl
        | some p => simp only [Option.map_some, hB i p hp]
      rw [this]; exact hf3
  refine ⟨h.sig, hU, hacc, ?_⟩
  rw [bound_closed h.sig hU.nodup]
  apply List.ext_getElem?
  intro i
  simp only [closedQ, List.getElem?_mapIdx]
  cases hp : s[i]? with
  | none =>
    have : s.length ≤ i := by rw [List.getElem?_eq_none_iff] at hp; exact hp
    rw [List.getElem?_eq_none (by rw [h.len]; exact this)]; rfl
  | some p => simp only [Option.map_some, hB i p hp, h.get hp]

end

theorem indexP2_ct (xs : List Pair) (hb : xs.length ≤ 9223372036854775807) (pred : Pair → Bool) (f : FuncId) (cs ds : List C)
    (hcl : ∀ p, ACalls pk f [.agg (eP p), .one (.fp cs), .one (.fp ds)] [] (fun r o => r = .one (.bool (pred p)) ∧ o = [])) :
    ACalls pk 128 [.one (.fs (xs.map eP)), .one (.fn f [.fp cs, .fp ds])] [] (fun r o => r = .one (.int .i64 (idxI pred xs 0)) ∧ o = []) := by
  refine acalls_of_body Tryz.func128 rfl (by kernel_rfl) rfl ?_
  refine rn rfl ?_
  refine goal_loop_keep (fun m σ => ∃ (n L : Int) (i : Nat), n = i ∧ L = xs.length ∧ i ≤ xs.length ∧ m = xs.length - i ∧ idxI pred xs 0 = idxI pred (xs.drop i) i ∧
      σ = ⟨[(8, .one (.int .i64 n)), (7, .one (.int .i64 L)), (1, .one (.fn f [.fp cs, .fp ds])), (0, .one (.fs (xs.map eP)))], [], []⟩) xs.length [8, 7, 1, 0] [] rfl
    ⟨_, _, 0, rfl, by simp, by omega, by omega, by simp, rfl⟩ ?_
  rintro m σ ⟨n, L, i, rfl, rfl, hi, rfl, hidx, rfl⟩
  refine rn rfl ?_
  refine goal_cond rfl (fun h => ?_) (fun h => ?_) <;> (try simp only [gt_iff_lt, ge_iff_le, bne_iff_ne, ne_eq, bne_eq_false_iff_eq, beq_iff_eq, beq_eq_false_iff_ne, Bool.not_eq_true', Bool.not_eq_false', decide_eq_true_eq, decide_eq_false_iff_not, List.length_map] at h)
  · obtain ⟨p, hp⟩ := at_some (xs := xs) (i := i) (by omega)
    refine rn rfl ?_
    refine goal_did rfl rfl (dA_index (eP p) rfl rfl rfl rfl rfl rfl rfl (by omega) (by (try simp); omega) (map_at (by simpa using hp)) rfl) ?_
    refine rn rfl ?_
    refine goal_step (step_call [] rfl rfl rfl rfl rfl rfl (hcl p)) ?_
    rintro σ2 ⟨r, o', ⟨rfl, rfl⟩, hσ⟩
    obtain rfl := Option.some.inj hσ
    clear hσ
    refine rn rfl ?_
    refine goal_cond rfl (fun h2 => ?_) (fun h2 => ?_)
    · refine rn rfl (round_ret (fin_is [] rfl ⟨?_, rfl⟩))
      rw [hidx, drop_at hp]; simp [idxI, h2]
    · refine rn rfl ?_
      refine round_keep (xs.length - (i + 1)) [8, 7, 1, 0] [] (by omega) rfl ⟨_, _, i + 1, wrap64 (by omega) (by omega), rfl, by omega, rfl, ?_, rfl⟩
      rw [hidx, drop_at hp]; simp [idxI, h2]
  · refine rn rfl (round_ext ?_)
    refine rn rfl (fin_is [] rfl ⟨?_, rfl⟩)
    rw [hidx, List.drop_eq_nil_of_le (by omega)]; rfl

theorem containsP2_ct (xs : List Pair) (hb : xs.length ≤ 9223372036854775807) (pred : Pair → Bool) (f : FuncId) (cs ds : List C)
    (hcl : ∀ p, ACalls pk f [.agg (eP p), .one (.fp cs), .one (.fp ds)] [] (fun r o => r = .one (.bool (pred p)) ∧ o = [])) :
    ACalls pk 99 [.one (.fs (xs.map eP)), .one (.fn f [.fp cs, .fp ds])] [] (fun r o => r = .one (.bool (xs.any pred)) ∧ o = []) := by
  refine acalls_of_body Tryz.func99 rfl (by kernel_rfl) rfl ?_
  refine rn rfl ?_
  refine goal_step (step_call [] rfl rfl rfl rfl rfl rfl (indexP2_ct xs hb pred f cs ds hcl)) ?_
  rintro σ2 ⟨r, o', ⟨rfl, rfl⟩, hσ⟩
  obtain rfl := Option.some.inj hσ
  clear hσ
  refine rn rfl ?_
  refine rn rfl (fin_is [] rfl ⟨?_, rfl⟩)
  congr 1; congr 1
  have := idxI_ge (pred := pred) (xs := xs) (i := 0)
  cases h : xs.any pred with
  | true => simp [this.2 h]
  | false => rw [idxI_none.2 h]; rfl

def slotOk (s : Sig) (i : Nat) (p : Param) (x : Slot) : Bool :=
  if p.kind = 2 then !x.given && decide (x.pairs = [])
  else if p.kind = 4 then !x.given && decide (x.list = []) && !x.pairs.any (fun q => takesQ s q.name != (i : Int))
  else if x.given then decide (x.list.length = 1) && decide (x.pairs = [])
  else p.hasD && decide (x.list = []) && decide (x.pairs = [])

def slotAt (s : Sig) (b : Bnds) (i : Nat) : Bool := match s[i]?, b[i]? with
  | some p, some x => slotOk s i p x
  | _, _ => true

def VBi (s : Sig) (b : Bnds) : Bool := okSig s && (decide (b.length = s.length) && ((List.range b.length).all (slotAt s b) && ((BindQ s (unbQ s b)).2 && sameB (BindQ s (unbQ s b)).1 b)))

theorem nil_zero {α : Type} (xs : List α) : (((xs.length : Nat) : Int) == 0) = decide (xs = []) := by
  cases xs with
  | nil => rfl
  | cons x xs =>
    have : ¬ (((x :: xs).length : Nat) : Int) = 0 := by simp only [List.length_cons]; omega
    rw [beq_eq_false_iff_ne.2 this]; simp

theorem slotC_ct (s : Sig) (i : Nat) (q : Pair) (hl : s.length ≤ 1048576) : ACalls pk 100 [.agg (eP q), .one (.fp [.fs (s.map eQ)]), .one (.fp [.int .i64 i])] [] (fun r o => r = .one (.bool (takesQ s q.name != (i : Int))) ∧ o = []) := by
  refine acalls_of_body Tryz.func100 rfl (by kernel_rfl) rfl ?_
  refine rn rfl ?_
  refine goal_draw' [0] 7 rfl ?_
  refine drn [0, 1, 2, 4] (by kernel_rfl) (by kernel_rfl) rfl rfl ?_
  refine AH_one (i := 3) (by kernel_rfl) (step_call [] rfl rfl rfl rfl rfl rfl (itakes_ct s q.name (by omega))) (by simp) ?_
  rintro σ2 ⟨r, o', ⟨rfl, rfl⟩, hσ⟩
  obtain rfl := Option.some.inj hσ
  clear hσ
  refine drn [5, 6] (by kernel_rfl) (by kernel_rfl) rfl rfl ?_
  refine AH_end (by kernel_rfl) ?_
  refine rn rfl ?_
  exact rn rfl (fin_is [] rfl ⟨rfl, rfl⟩)

theorem slotValid_ct (s : Sig) (i : Nat) (p : Param) (x : Slot) (hp : s[i]? = some p) (hl : s.length ≤ 1048576) (hkr : 0 ≤ p.kind ∧ p.kind ≤ 4) (h1 : x.list.length ≤ 1048576) (h2 : x.pairs.length ≤ 1048576) :
    ACalls pk 66 [.agg (eG s), .one (.int .i64 i), .agg (eL x)] [] (fun r o => r = .one (.bool (slotOk s i p x)) ∧ o = []) := by
  have hil := lt_of_some hp
  refine acalls_of_body Tryz.func66 rfl (by kernel_rfl) rfl ?_
  refine rn rfl ?_
  refine goal_did rfl rfl (dA_index (eQ p) rfl rfl rfl rfl rfl rfl rfl (by omega) (by (try simp); omega) (map_at (by simpa using hp)) rfl) ?_
  refine rn rfl ?_
  refine goal_cond rfl (fun hk2 => ?_) (fun hk2 => ?_) <;> (try simp only [gt_iff_lt, ge_iff_le, bne_iff_ne, ne_eq, bne_eq_false_iff_eq, beq_iff_eq, beq_eq_false_iff_ne, Bool.not_eq_true', Bool.not_eq_false', decide_eq_true_eq, decide_eq_false_iff_not, List.length_map] at hk2)
  · refine rn rfl ?_
    refine goal_guard rfl rfl rfl (fun hg => ?_) (fun hg => ?_) <;> (try simp only [gt_iff_lt, ge_iff_le, bne_iff_ne, ne_eq, bne_eq_false_iff_eq, beq_iff_eq, beq_eq_false_iff_ne, Bool.not_eq_true', Bool.not_eq_false', decide_eq_true_eq, decide_eq_false_iff_not, List.length_map] at hg)
    · refine rn rfl ?_
      refine rn rfl (fin_is [] rfl ⟨?_, rfl⟩)
      simp [slotOk, hk2, hg, nil_zero]
    · refine rn rfl (fin_is [] rfl ⟨?_, rfl⟩)
      simp [slotOk, hk2, hg]
  · refine rn rfl ?_
    refine goal_cond rfl (fun hk4 => ?_) (fun hk4 => ?_) <;> (try simp only [gt_iff_lt, ge_iff_le, bne_iff_ne, ne_eq, bne_eq_false_iff_eq, beq_iff_eq, beq_eq_false_iff_ne, Bool.not_eq_true', Bool.not_eq_false', decide_eq_true_eq, decide_eq_false_iff_not, List.length_map] at hk4)
    · refine rn rfl ?_
      refine goal_guard rfl rfl rfl (fun hg => ?_) (fun hg => ?_) <;> (try simp only [gt_iff_lt, ge_iff_le, bne_iff_ne, ne_eq, bne_eq_false_iff_eq, beq_iff_eq, beq_eq_false_iff_ne, Bool.not_eq_true', Bool.not_eq_false', decide_eq_true_eq, decide_eq_false_iff_not, List.length_map] at hg)
      · refine rn rfl ?_
        refine goal_guard rfl rfl rfl (fun hl0 => ?_) (fun hl0 => ?_) <;> (try simp only [gt_iff_lt, ge_iff_le, bne_iff_ne, ne_eq, bne_eq_false_iff_eq, beq_iff_eq, beq_eq_false_iff_ne, Bool.not_eq_true', Bool.not_eq_false', decide_eq_true_eq, decide_eq_false_iff_not, List.length_map] at hl0)
        · have hl1 : x.list = [] := by cases hx : x.list with
            | nil => rfl
            | cons a l => rw [hx] at hl0; simp at hl0; omega
          refine rn rfl ?_
          refine goal_step (step_call [] rfl rfl rfl rfl rfl rfl (containsP2_ct x.pairs (by omega) (fun q => takesQ s q.name != (i : Int)) _ [.fs (s.map eQ)] [.int .i64 i] (fun q => slotC_ct s i q hl))) ?_
          rintro σ2 ⟨r, o', ⟨rfl, rfl⟩, hσ⟩
          obtain rfl := Option.some.inj hσ
          clear hσ
          refine rn rfl ?_
          refine rn rfl (fin_is [] rfl ⟨?_, rfl⟩)
          simp [slotOk, hk2, hk4, hg, hl1]
        · have hl1 : x.list ≠ [] := fun h0 => by rw [h0] at hl0; simp at hl0
          refine rn rfl (fin_is [] rfl ⟨?_, rfl⟩)
          simp [slotOk, hk2, hk4, hg, hl1]
      · refine rn rfl (fin_is [] rfl ⟨?_, rfl⟩)
        simp [slotOk, hk2, hk4, hg]
    · refine rn rfl ?_
      refine goal_cond rfl (fun hg => ?_) (fun hg => ?_) <;> (try simp only [gt_iff_lt, ge_iff_le, bne_iff_ne, ne_eq, bne_eq_false_iff_eq, beq_iff_eq, beq_eq_false_iff_ne, Bool.not_eq_true', Bool.not_eq_false', decide_eq_true_eq, decide_eq_false_iff_not, List.length_map] at hg)
      · refine rn rfl ?_
        refine goal_guard rfl rfl rfl (fun hl0 => ?_) (fun hl0 => ?_) <;> (try simp only [gt_iff_lt, ge_iff_le, bne_iff_ne, ne_eq, bne_eq_false_iff_eq, beq_iff_eq, beq_eq_false_iff_ne, Bool.not_eq_true', Bool.not_eq_false', decide_eq_true_eq, decide_eq_false_iff_not, List.length_map] at hl0)
        · have hl1 : x.list.length = 1   := by omega
          refine rn rfl (fin_is [] rfl ⟨?_, rfl⟩)
          simp [slotOk, hk2, hk4, hg, hl1, nil_zero]
        · have hl1 : x.list.length ≠ 1   := by omega
          refine rn rfl (fin_is [] rfl ⟨?_, rfl⟩)
          simp [slotOk, hk2, hk4, hg, hl1]
      · refine rn rfl ?_
        refine goal_guard rfl rfl rfl (fun hd => ?_) (fun hd => ?_) <;> (try simp only [gt_iff_lt, ge_iff_le, bne_iff_ne, ne_eq, bne_eq_false_iff_eq, beq_iff_eq, beq_eq_false_iff_ne, Bool.not_eq_true', Bool.not_eq_false', decide_eq_true_eq, decide_eq_false_iff_not, List.length_map] at hd)
        · refine rn rfl ?_
          refine goal_guard rfl rfl rfl (fun hl0 => ?_) (fun hl0 => ?_) <;> (try simp only [gt_iff_lt, ge_iff_le, bne_iff_ne, ne_eq, bne_eq_false_iff_eq, beq_iff_eq, beq_eq_false_iff_ne, Bool.not_eq_true', Bool.not_eq_false', decide_eq_true_eq, decide_eq_false_iff_not, List.length_map] at hl0)
          · have hl1 : x.list = [] := by cases hx : x.list with
              | nil => rfl
              | cons a l => rw [hx] at hl0; simp at hl0; omega
            refine rn rfl (fin_is [] rfl ⟨?_, rfl⟩)
            simp [slotOk, hk2, hk4, hg, hd, hl1, nil_zero]
          · have hl1 : x.list ≠ [] := fun h0 => by rw [h0] at hl0; simp at hl0
            refine rn rfl (fin_is [] rfl ⟨?_, rfl⟩)
            simp [slotOk, hk2, hk4, hg, hd, hl1]
        · refine rn rfl (fin_is [] rfl ⟨?_, rfl⟩)
          simp [slotOk, hk2, hk4, hg, hd]

structure SmallB (b : Bnds) : Prop where
  len : b.length ≤ 1048576
  size : ∀ x ∈ b, x.list.length ≤ 1048576 ∧ x.pairs.length ≤ 1048576
  names : ∀ x ∈ b, ∀ q ∈ x.pairs, q.name.length ≤ 9223372036854775807
  tot : cntB b ≤ 1048576

theorem slots_okB {s : Sig} {b : Bnds} (hs : OkS s) (hb : SmallB b) (hlen : b.length = s.length) (hall : ∀ j, j < b.length → slotAt s b j = true) : OkB s b := by
  refine ⟨hlen, hs.len, fun p hp => hs.kindRange hp, fun i p x hp hx hsg hg => ?_, fun x hx => hb.size x hx⟩
  have := hall i (lt_of_some hx)
  unfold slotAt slotOk at this
  rw [hp, hx] at this
  rw [single_kind] at hsg
  simp only at this
  rw [if_neg (by omega), if_neg (by omega), if_pos hg] at this
  simp only [Bool.and_eq_true, decide_eq_true_eq] at this
  exact List.length_eq_one_iff.1 this.1

theorem unb_names {s : Sig} {b : Bnds} (hs : ∀ p ∈ s, p.name.length ≤ 9223372036854775807) (hb : ∀ x ∈ b, ∀ q ∈ x.pairs, q.name.length ≤ 9223372036854775807) : ∀ q ∈ (unbQ s b).named, q.name.length ≤ 9223372036854775807 := by
  have key : ∀ (zs : List (Param × Slot)) (st : Flat × Bool), (∀ z ∈ zs, z.1 ∈ s ∧ z.2 ∈ b) → (∀ q ∈ st.1.named, q.name.length ≤ 9223372036854775807) → ∀ q ∈ (zs.foldl stU st).1.named, q.name.length ≤ 9223372036854775807 := by
    intro zs
    induction zs with
    | nil => intro st _ h; exact h
    | cons z zs ih =>
      intro st hz h
      rw [List.foldl_cons]
      refine ih _ (fun y hy => hz y (by simp [hy])) fun q hq => ?_
      obtain ⟨hz1, hz2⟩ := hz z (by simp)
      unfold stU at hq
      split at hq
      · exact h q hq
      · split at hq
        · simp only [List.mem_append] at hq
          rcases hq with hq | hq
          · exact h q hq
          · exact hb _ hz2 q hq
        · split at hq
          · exact h q hq
          · split at hq
            · exact h q hq
            · simp only [List.mem_append, List.mem_singleton] at hq
              rcases hq with hq | rfl
              · exact h q hq
              · exact hs _ hz1
  exact key (s.zip b) (zF, true) (fun z hz => List.of_mem_zip hz) (by simp [zF])

theorem unb_grow : ∀ (zs : List (Param × Slot)) (st : Flat × Bool), ∃ B, (zs.foldl stU st).1.named = st.1.named ++ B
  | [], st => ⟨[], by simp⟩
  | z :: zs, st => by
    obtain ⟨B, hB⟩ := unb_grow zs (stU st z)
    have : ∃ A, (stU st z).1.named = st.1.named ++ A := by
      unfold stU
      split
      · exact ⟨[], by simp⟩
      · split
        · exact ⟨_, rfl⟩
        · split
          · exact ⟨[], by simp⟩
          · split
            · exact ⟨[], by simp⟩
            · exact ⟨_, rfl⟩
    obtain ⟨A, hA⟩ := this
    exact ⟨A ++ B, by rw [List.foldl_cons, hB, hA, List.append_assoc]⟩

theorem unb_at0 {s : Sig} {b : Bnds} {i : Nat} {p : Param} {x : Slot} (hp : s[i]? = some p) (hx : b[i]? = some x) (hk : p.kind = 4) : ∃ A B, (unbQ s b).named = A ++ x.pairs ++ B := by
  have hz : (s.zip b)[i]? = some (p, x) := List.getElem?_zip_eq_some.2 ⟨hp, hx⟩
  have hsplit : s.zip b = (s.zip b).take i ++ (p, x) :: (s.zip b).drop (i + 1) := by
    conv => lhs; rw [← List.take_append_drop i (s.zip b), drop_at hz]
  unfold unbQ
  rw [hsplit, List.foldl_append, List.foldl_cons]
  obtain ⟨B, hB⟩ := unb_grow ((s.zip b).drop (i + 1)) (stU (((s.zip b).take i).foldl stU (zF, true)) (p, x))
  refine ⟨(((s.zip b).take i).foldl stU (zF, true)).1.named, B, ?_⟩
  rw [hB]
  have h2 : ¬ p.kind = 2 := by omega
  simp [stU, h2, hk]

theorem unb_lenF {s : Sig} {b : Bnds} (hs : LenS s) (hb : SmallB b) (hok : OkB s b) : LenF (unbQ s b) := by
  have h1 := unb_cnt hok
  have h2 := hb.tot
  exact ⟨by omega, by omega, unb_names hs.names hb.names⟩

theorem slot_pairs {s : Sig} {b : Bnds} (hs : OkS s) (hlen : b.length = s.length) (hall : ∀ j, j < b.length → slotAt s b j = true) (hn : (unbQ s b).named.length ≤ 8) : ∀ x ∈ b, x.pairs.length ≤ 12 := by
  intro x hx
  obtain ⟨i, hi⟩ := List.getElem?_of_mem hx
  obtain ⟨p, hp⟩ := at_some (xs := s) (i := i) (by rw [← hlen]; exact lt_of_some hi)
  by_cases hk : p.kind = 4
  · obtain ⟨A, B, hAB⟩ := unb_at0 hp hi hk
    rw [hAB] at hn
    simp only [List.length_append] at hn
    omega
  · have := hall i (lt_of_some hi)
    unfold slotAt slotOk at this
    rw [hp, hi] at this
    simp only at this
    rw [if_neg hk] at this
    have h0 : x.pairs = [] := by
      split at this
      · simp only [Bool.and_eq_true, decide_eq_true_eq] at this; exact this.2
      · split at this
        · simp only [Bool.and_eq_true, decide_eq_true_eq] at this; exact this.2
        · simp only [Bool.and_eq_true, decide_eq_true_eq] at this; exact this.2
    rw [h0]; simp

theorem ivalidBinding_ct (s : Sig) (b : Bnds) (hs : LenS s) (hb : SmallB b) : ACalls pk 33 [.agg (eG s), .agg (eBi b)] [] (fun r o => r = .one (.bool (VBi s b)) ∧ o = []) := by
  have hls := hs
  obtain ⟨s1, s2⟩ := hs
  have hbl := hb.len
  refine acalls_of_body Tryz.func33 rfl (by kernel_rfl) rfl ?_
  refine rn rfl ?_
  refine goal_step (step_call [] rfl rfl rfl rfl rfl rfl (ivalidSig_ct s (by omega) s2)) ?_
  rintro σ2 ⟨r, o', ⟨rfl, rfl⟩, hσ⟩
  obtain rfl := Option.some.inj hσ
  clear hσ
  refine rn rfl ?_
  refine goal_guard rfl rfl rfl (fun h1 => ?_) (fun h1 => ?_) <;> (try simp only [gt_iff_lt, ge_iff_le, bne_iff_ne, ne_eq, bne_eq_false_iff_eq, beq_iff_eq, beq_eq_false_iff_ne, Bool.not_eq_true', Bool.not_eq_false', decide_eq_true_eq, decide_eq_false_iff_not, List.length_map] at h1)
  · refine rn rfl (fin_is [] rfl ⟨?_, rfl⟩)
    simp [VBi, h1]
  have hok := okSig_iff.1 h1
  refine rn rfl ?_
  refine goal_cond rfl (fun h2 => ?_) (fun h2 => ?_) <;> simp only [List.length_map, bne_iff_ne, ne_eq, bne_eq_false_iff_eq] at h2
  · refine rn rfl (fin_is [] rfl ⟨?_, rfl⟩)
    have : b.length ≠ s.length := by omega
    simp [VBi, this]
  have hlen : b.length = s.length := by omega
  refine rn rfl ?_
  refine goal_loop_keep (fun m σ => ∃ (q L : Int) (i : Nat), q = i ∧ L = b.length ∧ i ≤ b.length ∧ m = b.length - i ∧ (∀ j, j < i → slotAt s b j = true) ∧
      σ = ⟨[(24, .one (.int .i64 q)), (23, .one (.int .i64 L)), (22, .one (.fs (b.map eL))), (3, .one (.op 1 0 0)), (2, .one (.op 0 0 0))],
        [some ⟨1, [eG s], false, false, true⟩, some ⟨1, [eBi b], false, false, true⟩], []⟩) b.length [24, 23, 22, 3, 2] [0, 1] rfl
    ⟨_, _, 0, rfl, by simp, by omega, by omega, fun j hj => by omega, rfl⟩ ?_
  rintro m σ ⟨q, L, i, rfl, rfl, hi, rfl, hall, rfl⟩
  refine rn rfl ?_
  refine goal_cond rfl (fun h3 => ?_) (fun h3 => ?_) <;> (try simp only [gt_iff_lt, ge_iff_le, bne_iff_ne, ne_eq, bne_eq_false_iff_eq, beq_iff_eq, beq_eq_false_iff_ne, Bool.not_eq_true', Bool.not_eq_false', decide_eq_true_eq, decide_eq_false_iff_not, List.length_map] at h3)
  · obtain ⟨x, hx⟩ := at_some (xs := b) (i := i) (by omega)
    obtain ⟨p, hp⟩ := at_some (xs := s) (i := i) (by omega)
    obtain ⟨l1, l2⟩ := hb.size x (List.mem_of_getElem? hx)
    refine rn rfl ?_
    refine goal_did rfl rfl (dA_index (eL x) rfl rfl rfl rfl rfl rfl rfl (by omega) (by (try simp); omega) (map_at (by simpa using hx)) rfl) ?_
    refine rn rfl ?_
    refine goal_step (step_call [] rfl rfl rfl rfl rfl rfl (slotValid_ct s i p x hp s1 (hok.kindRange (List.mem_of_getElem? hp)) (by omega) (by omega))) ?_
    rintro σ2 ⟨r, o', ⟨rfl, rfl⟩, hσ⟩
    obtain rfl := Option.some.inj hσ
    clear hσ
    refine rn rfl ?_
    refine goal_cond rfl (fun h4 => ?_) (fun h4 => ?_) <;> simp only [Bool.not_eq_true', Bool.not_eq_false'] at h4
    · refine rn rfl (round_ret (fin_is [] rfl ⟨?_, rfl⟩))
      have h5 : slotAt s b i = false := by unfold slotAt; rw [hp, hx]; exact h4
      have : (List.range b.length).all (slotAt s b) = false := by
        rw [List.all_eq_false]
        exact ⟨i, List.mem_range.2 (by omega), by simp [h5]⟩
      simp [VBi, this]
    · have h5 : slotAt s b i = true := by unfold slotAt; rw [hp, hx]; exact h4
      refine rn rfl ?_
      refine round_keep (b.length - (i + 1)) [24, 23, 22, 3, 2] [0, 1] (by omega) rfl ⟨_, _, i + 1, wrap64 (by omega) (by omega), rfl, by omega, rfl, fun j hj => ?_, rfl⟩
      by_cases hji : j = i
      · subst hji; exact h5
      · exact hall j (by omega)
  · refine rn rfl (round_ext ?_)
    have hall' : ∀ j, j < b.length → slotAt s b j = true := fun j hj => hall j (by omega)
    have hokB := slots_okB hok hb hlen hall'
    have hr : (List.range b.length).all (slotAt s b) = true := by
      rw [List.all_eq_true]; intro j hj; exact hall' j (List.mem_range.1 hj)
    have hV : VBi s b = ((BindQ s (unbQ s b)).2 && sameB (BindQ s (unbQ s b)).1 b) := by unfold VBi; rw [hr, h1, decide_eq_true hlen]; simp only [Bool.true_and]
    have lU := unb_lenF hls hb hokB
    have hU := iunbindD_ct s b hokB
    have hB := iBindD_ct s (unbQ s b) hls lU
    obtain ⟨c1, c2⟩ := bind_small s (unbQ s b)
    have hP : (BindQ s (unbQ s b)).2 = true → ∀ x ∈ b, x.pairs.length ≤ 12 := fun h0 => slot_pairs hok hlen hall' (bindQ_ok h0).2.1.named
    rw [hV]
    generalize unbQ s b = U at *
    generalize (BindQ s U).1 = B at *
    generalize (BindQ s U).2 = ok at *
    refine rt1 9 rfl ?_
    refine goal_cutR (fun σ' => σ' = ⟨[(8, .one (.bool ok)), (7, .one (.op 2 0 0)), (3, .one (.op 1 0 0)), (2, .one (.op 0 0 0))],
      [some ⟨1, [eG s], false, false, true⟩, some ⟨1, [eBi b], false, false, true⟩, some ⟨1, [eBi B], false, false, true⟩], []⟩) ?_ ?_
    · refine goal_draw' [0, 1] 11 rfl ?_
      refine drn [0, 1, 2] (by kernel_rfl) (by kernel_rfl) rfl rfl ?_
      refine AH_two (i := 3) (j := 8) (by kernel_rfl) (step_call [] rfl rfl rfl rfl rfl rfl (hU)) (by simp) (step_did rfl rfl (dA_step rfl)) (mdOk rfl) ?_ ?_
      · rintro σ2 ⟨r, o', ⟨rfl, rfl⟩, hσ⟩
        obtain rfl := Option.some.inj hσ
        clear hσ
        refine AH_two (i := 4) (j := 8) (by kernel_rfl) (step_call [] rfl rfl rfl rfl rfl rfl (hB)) (by simp) (step_did rfl rfl (dA_step rfl)) (mdOk rfl) ?_ ?_
        · rintro σ2 ⟨r, o', ⟨rfl, rfl⟩, hσ⟩
          obtain rfl := Option.some.inj hσ
          clear hσ
          refine drn [5, 6, 7] (by kernel_rfl) (by kernel_rfl) rfl rfl ?_
          refine AH_oneDid 8 rfl (by kernel_rfl) rfl (dA_step rfl) (mdOk rfl) ?_
          refine AH_oneDid 9 rfl (by kernel_rfl) rfl (dA_step rfl) (mdOk rfl) ?_
          refine drn [10] (by kernel_rfl) (by kernel_rfl) rfl rfl ?_
          refine AH_end (by kernel_rfl) ?_
          refine rn rfl ?_
          exact cut_nrm [8, 7, 3, 2] [0, 1, 2] rfl rfl
        · rintro _ rfl
          refine AH_one (i := 4) (by kernel_rfl) (step_call [] rfl rfl rfl rfl rfl rfl (hB)) (by simp) ?_
          rintro σ2 ⟨r, o', ⟨rfl, rfl⟩, hσ⟩
          obtain rfl := Option.some.inj hσ
          clear hσ
          refine drn [5, 6, 7] (by kernel_rfl) (by kernel_rfl) rfl rfl ?_
          refine AH_oneDid 9 rfl (by kernel_rfl) rfl (dA_step rfl) (mdOk rfl) ?_
          refine drn [10] (by kernel_rfl) (by kernel_rfl) rfl rfl ?_
          refine AH_end (by kernel_rfl) ?_
          refine rn rfl ?_
          exact cut_nrm [8, 7, 3, 2] [0, 1, 2] rfl rfl
      · rintro _ rfl
        refine AH_one (i := 3) (by kernel_rfl) (step_call [] rfl rfl rfl rfl rfl rfl (hU)) (by simp) ?_
        rintro σ2 ⟨r, o', ⟨rfl, rfl⟩, hσ⟩
        obtain rfl := Option.some.inj hσ
        clear hσ
        refine AH_one (i := 4) (by kernel_rfl) (step_call [] rfl rfl rfl rfl rfl rfl (hB)) (by simp) ?_
        rintro σ2 ⟨r, o', ⟨rfl, rfl⟩, hσ⟩
        obtain rfl := Option.some.inj hσ
        clear hσ
        refine drn [5, 6, 7] (by kernel_rfl) (by kernel_rfl) rfl rfl ?_
        refine AH_oneDid 9 rfl (by kernel_rfl) rfl (dA_step rfl) (mdOk rfl) ?_
        refine drn [10] (by kernel_rfl) (by kernel_rfl) rfl rfl ?_
        refine AH_end (by kernel_rfl) ?_
        refine rn rfl ?_
        exact cut_nrm [8, 7, 3, 2] [0, 1, 2] rfl rfl
    rintro _ rfl
    refine rn rfl ?_
    refine goal_guard rfl rfl rfl (fun h6 => ?_) (fun h6 => ?_) <;> (try simp only [gt_iff_lt, ge_iff_le, bne_iff_ne, ne_eq, bne_eq_false_iff_eq, beq_iff_eq, beq_eq_false_iff_ne, Bool.not_eq_true', Bool.not_eq_false', decide_eq_true_eq, decide_eq_false_iff_not, List.length_map] at h6)
    · refine rn rfl ?_
      refine goal_step (step_call [] rfl rfl rfl rfl rfl rfl (isameB_ct B b (by omega) (fun x hx => small_of (c2 x hx)) (fun x hx => ⟨by have := (hb.size x hx).1; omega, hP h6 x hx⟩))) ?_
      rintro σ2 ⟨r, o', ⟨rfl, rfl⟩, hσ⟩
      obtain rfl := Option.some.inj hσ
      clear hσ
      refine rn rfl ?_
      refine rn rfl (fin_is [] rfl ⟨?_, rfl⟩)
      simp [h6]
    · refine rn rfl (fin_is [] rfl ⟨?_, rfl⟩)
      simp [h6]

section

variable {s : Sig} {f : Flat} {b : Bnds}

theorem Given.bind (h : Given s f b) : BindQ s f = (b, true) := by
  have hb : (BindQ s f).2 = true := by rw [bind_ok h.sig h.flat]; exact h.acc
  obtain ⟨_, _, _, heq⟩ := bindQ_ok hb
  rw [heq, ← h.eq]

theorem Given.valid (h : Given s f b) : VBi s b = true := by
  have hag := h.again
  have hb := hag.bind
  have hr : (List.range b.length).all (slotAt s b) = true := by
    rw [List.all_eq_true]
    intro i hi
    have hi' := List.mem_range.1 hi
    obtain ⟨p, hp⟩ := at_some (xs := s) (i := i) (by rw [← h.len]; exact hi')
    have hx := h.get hp
    unfold slotAt
    rw [hp, hx]
    simp only
    have hkr := h.sig.kindRange (List.mem_of_getElem? hp)
    unfold slotOk
    by_cases hk2 : p.kind = 2
    · rw [if_pos hk2, give_rest hk2]; simp
    rw [if_neg hk2]
    by_cases hk4 : p.kind = 4
    · rw [if_pos hk4]
      unfold giveQ
      rw [if_pos hk4]
      simp
    rw [if_neg hk4]
    have hsg : singleQ p = true := single_kind.2 (by omega)
    have hsh := give_shape (s := s) (pl := f.places) (qs := f.named) (i := i) (p := p) hsg
    cases hg : (giveQ s f.places f.named i p).given with
    | true => rw [hsh.1 hg]; simp
    | false =>
      have h3 := ((acc_iff h.sig h.flat).1 h.acc).2.2
      have h4 := lack_iff.1 h3 i p hp hsg
      rw [give_given hsg] at hg
      simp only [Bool.or_eq_false_iff, Bool.and_eq_false_iff] at hg
      have hd : p.hasD = true := by
        rcases h4 with h4 | h4 | ⟨h4, h5⟩
        · exact h4
        · rw [hg.1] at h4; cases h4
        · rcases hg.2 with h6 | h6
          · rw [h4] at h6; cases h6
          · rw [h5] at h6; cases h6
      have hg' : (giveQ s f.places f.named i p).given = false := by
        rw [give_given hsg, hg.1]
        rcases hg.2 with h6 | h6 <;> simp [h6]
      rw [hsh.2 hg']
      simp [zL, hd]
  unfold VBi
  rw [hr, hb, okSig_iff.2 h.sig, decide_eq_true h.len, sameB_self]
  rfl

theorem Given.small (h : Given s f b) (hn : ∀ q ∈ f.named, q.name.length ≤ 9223372036854775807) : SmallB b := by
  obtain ⟨c1, c2⟩ := bound_small h.sig h.flat
  rw [← h.eq] at c1 c2
  refine ⟨by omega, fun x hx => ⟨by have := (c2 x hx).1; omega, by have := (c2 x hx).2; omega⟩, fun x hx q hq => ?_, ?_⟩
  rotate_left
  · have := cntB_bound (M := 100) (b := b) (fun x hx => by have := c2 x hx; unfold cntL; omega)
    omega
  obtain ⟨i, hi⟩ := List.getElem?_of_mem hx
  obtain ⟨p, hp⟩ := at_some (xs := s) (i := i) (by rw [← h.len]; exact lt_of_some hi)
  rw [h.at hp hi] at hq
  unfold giveQ at hq
  split at hq
  · exact hn q (List.mem_filter.1 hq).1
  · split at hq
    · split at hq <;> simp [zL] at hq
    · unfold place1 at hq
      split at hq
      · simp at hq
      · split at hq <;> simp [zL] at hq

end

theorem perm_of_sub {α : Type} [DecidableEq α] : ∀ (xs ys : List α), xs.Nodup → (∀ x ∈ xs, x ∈ ys) → ys.length ≤ xs.length → xs.Perm ys
  | [], ys, _, _, hl => by
    have : ys = [] := List.eq_nil_of_length_eq_zero (by simpa using hl)
    subst this; exact List.Perm.refl _
  | x :: xs, ys, hd, hm, hl => by
    rw [List.nodup_cons] at hd
    have hx := hm x (by simp)
    have h2 := List.length_erase_of_mem hx
    have h3 : 0 < ys.length := List.length_pos_of_mem hx
    simp only [List.length_cons] at hl
    have ih := perm_of_sub xs (ys.erase x) hd.2 (fun y hy => by
      have hne : y ≠ x := fun h0 => hd.1 (h0 ▸ hy)
      exact (List.mem_erase_of_ne hne).2 (hm y (by simp [hy]))) (by omega)
    exact (List.Perm.cons x ih).trans (List.perm_cons_erase hx).symm

theorem pairs_nodup {qs : List Pair} (h : (namesOf qs).Nodup) : qs.Nodup := by
  unfold namesOf at h
  exact (List.pairwise_map.1 h).imp (fun hne he => hne (by rw [he]))

theorem same_iff {a b : List Pair} (ha : (namesOf a).Nodup) (hb : (namesOf b).Nodup) (hl : a.length = b.length) : isortL ltN a = isortL ltN b ↔ ∀ q ∈ a, q ∈ b := by
  rw [sort_iff ha hb]
  constructor
  · intro h q hq; exact h.mem_iff.1 hq
  · intro h; exact perm_of_sub a b (pairs_nodup ha) h (by omega)

theorem isort_len {a b : List Pair} (h : isortL ltN a = isortL ltN b) : a.length = b.length := by
  have := congrArg List.length h
  rwa [isortL_length, isortL_length] at this

theorem ssameFlat_ct (f g : Flat) (hf : (namesOf f.named).Nodup) (hg : (namesOf g.named).Nodup) (h1 : f.places.length ≤ 1048576) (h2 : f.named.length ≤ 1048576) (h3 : g.named.length ≤ 1048576) :
    ACalls pk 125 [.agg (eF f), .agg (eF g)] [] (fun r o => r = .one (.bool (decide (f.places = g.places) && decide (isortL ltN f.named = isortL ltN g.named))) ∧ o = []) := by
  refine acalls_of_body Tryz.func125 rfl (by kernel_rfl) rfl ?_
  refine rn rfl ?_
  refine goal_guard rfl rfl rfl (fun h0 => ?_) (fun h0 => ?_) <;> simp only [List.length_map, bne_iff_ne, ne_eq, bne_eq_false_iff_eq] at h0
  · refine rn rfl (fin_is [] rfl ⟨?_, rfl⟩)
    have : f.places ≠ g.places := fun h => h0 (by rw [h])
    simp [this]
  have hpl : f.places.length = g.places.length := by omega
  refine rn rfl ?_
  refine goal_cond rfl (fun h0 => ?_) (fun h0 => ?_) <;> simp only [List.length_map, bne_iff_ne, ne_eq, bne_eq_false_iff_eq] at h0
  · refine rn rfl (fin_is [] rfl ⟨?_, rfl⟩)
    have : isortL ltN f.named ≠ isortL ltN g.named := fun h => h0 (by rw [isort_len h])
    simp [this]
  have hnl : f.named.length = g.named.length := by omega
  refine rn rfl ?_
  refine goal_loop_keep (fun m σ => ∃ (n : Int) (i : Nat), n = i ∧ i ≤ f.places.length ∧ m = f.places.length - i ∧ f.places.take i = g.places.take i ∧
      σ = ⟨[(5, .one (.int .i64 n)), (3, .one (.op 1 0 0)), (2, .one (.op 0 0 0))], [some ⟨2, [eF f], false, false, true⟩, some ⟨2, [eF g], false, false, true⟩], []⟩) f.places.length [5, 3, 2] [0, 1] rfl
    ⟨_, 0, rfl, by omega, by omega, rfl, rfl⟩ ?_
  rintro m σ ⟨n, i, rfl, hi, rfl, hpre, rfl⟩
  refine rn rfl ?_
  refine goal_cond rfl (fun h4 => ?_) (fun h4 => ?_) <;> (try simp only [gt_iff_lt, ge_iff_le, bne_iff_ne, ne_eq, bne_eq_false_iff_eq, beq_iff_eq, beq_eq_false_iff_ne, Bool.not_eq_true', Bool.not_eq_false', decide_eq_true_eq, decide_eq_false_iff_not, List.length_map] at h4)
  · obtain ⟨x, hxi⟩ := at_some (xs := f.places) (i := i) (by omega)
    obtain ⟨y, hyi⟩ := at_some (xs := g.places) (i := i) (by omega)
    have hstep := take_eq_step hpre hxi hyi
    refine rn rfl ?_
    refine goal_draw' [0, 1] 11 rfl ?_
    refine drn [0, 1, 2, 5, 6, 7] (by kernel_rfl) (by kernel_rfl) rfl rfl ?_
    refine AH_did 3 rfl (by kernel_rfl) (by kernel_rfl) (by kernel_rfl) rfl rfl (dA_index (eI x) rfl rfl rfl rfl rfl rfl rfl (by omega) (by (try simp); omega) (map_at (by simpa using hxi)) rfl) ?_
    refine drn [4] (by kernel_rfl) (by kernel_rfl) rfl rfl ?_
    refine AH_did 8 rfl (by kernel_rfl) (by kernel_rfl) (by kernel_rfl) rfl rfl (dA_index (eI y) rfl rfl rfl rfl rfl rfl rfl (by omega) (by (try simp); omega) (map_at (by simpa using hyi)) rfl) ?_
    refine drn [9, 10] (by kernel_rfl) (by kernel_rfl) rfl rfl ?_
    refine AH_end (by kernel_rfl) ?_
    refine rn rfl ?_
    refine goal_cond rfl (fun h5 => ?_) (fun h5 => ?_) <;> simp only [bne_iff_ne, ne_eq, bne_eq_false_iff_eq] at h5
    · refine rn rfl (round_ret (fin_is [] rfl ⟨?_, rfl⟩))
      have : f.places ≠ g.places := fun h0 => h5 (hstep.1 (by rw [h0]))
      simp [this]
    · refine rn rfl ?_
      refine round_keep (f.places.length - (i + 1)) [5, 3, 2] [0, 1] (by omega) rfl ⟨_, i + 1, wrap64 (by omega) (by omega), by omega, rfl, hstep.2 h5, rfl⟩
  · refine rn rfl (round_ext ?_)
    have hpe : f.places = g.places := by
      rw [show i = f.places.length by omega, List.take_length, hpl, List.take_length] at hpre
      exact hpre
    rw [decide_eq_true hpe, Bool.true_and]
    refine rn rfl ?_
    refine goal_loop_keep (fun m σ => ∃ (n : Int) (i : Nat), n = i ∧ i ≤ f.named.length ∧ m = f.named.length - i ∧ (∀ q ∈ f.named.take i, q ∈ g.named) ∧
        σ = ⟨[(6, .one (.int .i64 n)), (3, .one (.op 1 0 0)), (2, .one (.op 0 0 0))], [some ⟨2, [eF f], false, false, true⟩, some ⟨2, [eF g], false, false, true⟩], []⟩) f.named.length [6, 3, 2] [0, 1] rfl
      ⟨_, 0, rfl, by omega, by omega, by simp, rfl⟩ ?_
    rintro m σ ⟨n, k, rfl, hk, rfl, hall, rfl⟩
    refine rn rfl ?_
    refine goal_cond rfl (fun h5 => ?_) (fun h5 => ?_) <;> (try simp only [gt_iff_lt, ge_iff_le, bne_iff_ne, ne_eq, bne_eq_false_iff_eq, beq_iff_eq, beq_eq_false_iff_ne, Bool.not_eq_true', Bool.not_eq_false', decide_eq_true_eq, decide_eq_false_iff_not, List.length_map] at h5)
    · obtain ⟨q, hq⟩ := at_some (xs := f.named) (i := k) (by omega)
      have hmem : q ∈ g.named → pairIx g.named q.name = pairIx g.named q.name ∧ 0 ≤ pairIx g.named q.name := fun h => ⟨rfl, idxI_ge.2 (List.any_eq_true.2 ⟨q, h, by simp [nameIs]⟩)⟩
      have hno : q ∉ g.named → decide (isortL ltN f.named = isortL ltN g.named) = false := fun h => by
        rw [decide_eq_false_iff_not, same_iff hf hg hnl]
        exact fun h0 => h (h0 q (List.mem_of_getElem? hq))
      refine rn rfl ?_
      refine goal_draw' [0, 1] 10 rfl ?_
      refine drn [0, 1, 2, 3, 4] (by kernel_rfl) (by kernel_rfl) rfl rfl ?_
      refine AH_did 5 rfl (by kernel_rfl) (by kernel_rfl) (by kernel_rfl) rfl rfl (dA_index (eP q) rfl rfl rfl rfl rfl rfl rfl (by omega) (by (try simp); omega) (map_at (by simpa using hq)) rfl) ?_
      refine drn [6, 7] (by kernel_rfl) (by kernel_rfl) rfl rfl ?_
      refine AH_one (i := 8) (by kernel_rfl) (step_call [] rfl rfl rfl rfl rfl rfl (spairAt_ct g.named q.name (by omega))) (by simp) ?_
      rintro σ2 ⟨r, o', ⟨rfl, rfl⟩, hσ⟩
      obtain rfl := Option.some.inj hσ
      clear hσ
      refine drn [9] (by kernel_rfl) (by kernel_rfl) rfl rfl ?_
      refine AH_end (by kernel_rfl) ?_
      refine rn rfl ?_
      by_cases hneg : pairIx g.named q.name < 0
      · refine goal_draw' [0, 1] 15 rfl ?_
        refine drn [0, 1, 2] (by kernel_rfl) (by kernel_rfl) rfl rfl ?_
        refine AH_guard (i := 3) rfl rfl rfl (fun h6 => ?_) (fun h6 => ?_) <;> (try simp only [gt_iff_lt, ge_iff_le, bne_iff_ne, ne_eq, bne_eq_false_iff_eq, beq_iff_eq, beq_eq_false_iff_ne, Bool.not_eq_true', Bool.not_eq_false', decide_eq_true_eq, decide_eq_false_iff_not, List.length_map] at h6)
        · refine drn [3, 4, 5, 6, 7, 8, 9, 10, 11, 12, 13, 14] (by kernel_rfl) (by kernel_rfl) rfl rfl ?_
          refine AH_end (by kernel_rfl) ?_
          refine rn rfl ?_
          refine rn rfl (round_ret (fin_is [] rfl ⟨?_, rfl⟩))
          rw [hno fun h => by have := (hmem h).2; omega]
        · exact absurd hneg (by simpa using h6)
      · obtain ⟨r, hr1, hr2, hr3⟩ := pair_at (f := g) (n := q.name) (by omega)
        have hrn : r.name = q.name := by
          have := List.find?_some hr1
          simpa [nameIs] using this
        refine goal_draw' [0, 1] 15 rfl ?_
        refine drn [0, 1, 2] (by kernel_rfl) (by kernel_rfl) rfl rfl ?_
        refine AH_guard (i := 3) rfl rfl rfl (fun h6 => ?_) (fun h6 => ?_) <;> (try simp only [gt_iff_lt, ge_iff_le, bne_iff_ne, ne_eq, bne_eq_false_iff_eq, beq_iff_eq, beq_eq_false_iff_ne, Bool.not_eq_true', Bool.not_eq_false', decide_eq_true_eq, decide_eq_false_iff_not, List.length_map] at h6)
        · exact absurd h6 (by simpa using hneg)
        · refine drn [3, 4, 5, 8, 9, 10] (by kernel_rfl) (by kernel_rfl) rfl rfl ?_
          refine AH_did 6 rfl (by kernel_rfl) (by kernel_rfl) (by kernel_rfl) rfl rfl (dA_index (eP r) rfl rfl rfl rfl rfl rfl rfl (by omega) (by (try simp); omega) (map_at (by simpa using hr2)) rfl) ?_
          refine drn [7] (by kernel_rfl) (by kernel_rfl) rfl rfl ?_
          refine AH_did 11 rfl (by kernel_rfl) (by kernel_rfl) (by kernel_rfl) rfl rfl (dA_index (eP q) rfl rfl rfl rfl rfl rfl rfl (by omega) (by (try simp); omega) (map_at (by simpa using hq)) rfl) ?_
          refine drn [12] (by kernel_rfl) (by kernel_rfl) rfl rfl ?_
          refine AH_did 13 rfl (by kernel_rfl) (by kernel_rfl) (by kernel_rfl) rfl rfl (dA_eqStruct (b := decide (r = q)) (!decide (r = q)) (.inr ⟨rfl, rfl⟩) rfl rfl rfl rfl rfl rfl (eqPair_b r q) (by kernel_rfl) (by kernel_rfl) (by kernel_rfl) rfl) ?_
          refine drn [14] (by kernel_rfl) (by kernel_rfl) rfl rfl ?_
          refine AH_end (by kernel_rfl) ?_
          refine rn rfl ?_
          refine goal_cond rfl (fun h7 => ?_) (fun h7 => ?_) <;> simp only [Bool.not_eq_true', Bool.not_eq_false', decide_eq_true_eq, decide_eq_false_iff_not] at h7
          · refine rn rfl (round_ret (fin_is [] rfl ⟨?_, rfl⟩))
            rw [hno fun h => ?_]
            have := find_uniq hg h
            rw [hr1] at this
            exact h7 (Option.some.inj this)
          · refine rn rfl ?_
            refine round_keep (f.named.length - (k + 1)) [6, 3, 2] [0, 1] (by omega) rfl ⟨_, k + 1, wrap64 (by omega) (by omega), by omega, rfl, fun z hz => ?_, rfl⟩
            rw [← take_snoc hq] at hz
            rcases List.mem_append.1 hz with hz | hz
            · exact hall z hz
            · simp only [List.mem_singleton] at hz
              rw [hz, ← h7]; exact List.mem_of_getElem? hr2
    · refine rn rfl (round_ext ?_)
      refine rn rfl (fin_is [] rfl ⟨?_, rfl⟩)
      rw [List.take_of_length_le (by omega)] at hall
      rw [decide_eq_true ((same_iff hf hg hnl).2 hall)]

structure NdB (b : Bnds) : Prop where
  len : b.length ≤ 1048576
  size : ∀ x ∈ b, x.list.length ≤ 1048576 ∧ x.pairs.length ≤ 1048576
  nodup : ∀ x ∈ b, (namesOf x.pairs).Nodup

theorem ssameSlot_ct (x y : Slot) (hx : (namesOf x.pairs).Nodup) (hy : (namesOf y.pairs).Nodup) (h1 : x.list.length ≤ 1048576) (h2 : x.pairs.length ≤ 1048576) (h3 : y.pairs.length ≤ 1048576) :
    ACalls pk 94 [.agg (eL x), .agg (eL y)] [] (fun r o => r = .one (.bool (sameL x y)) ∧ o = []) := by
  refine acalls_of_body Tryz.func94 rfl (by kernel_rfl) rfl ?_
  refine rn rfl ?_
  refine goal_guard rfl rfl rfl (fun h4 => ?_) (fun h4 => ?_) <;> (try simp only [gt_iff_lt, ge_iff_le, bne_iff_ne, ne_eq, bne_eq_false_iff_eq, beq_iff_eq, beq_eq_false_iff_ne, Bool.not_eq_true', Bool.not_eq_false', decide_eq_true_eq, decide_eq_false_iff_not, List.length_map] at h4)
  · refine rn rfl ?_
    refine goal_step (step_call [] rfl rfl rfl rfl rfl rfl (ssameFlat_ct ⟨x.list, x.pairs⟩ ⟨y.list, y.pairs⟩ hx hy h1 h2 h3)) ?_
    rintro σ2 ⟨r, o', ⟨rfl, rfl⟩, hσ⟩
    obtain rfl := Option.some.inj hσ
    clear hσ
    refine rn rfl ?_
    refine rn rfl (fin_is [] rfl ⟨?_, rfl⟩)
    simp [sameL, h4]
  · refine rn rfl (fin_is [] rfl ⟨?_, rfl⟩)
    simp [sameL, h4]

theorem ssameB_ct (a b : Bnds) (ha : NdB a) (hb : NdB b) : ACalls pk 61 [.agg (eBi a), .agg (eBi b)] [] (fun r o => r = .one (.bool (sameB a b)) ∧ o = []) := by
  have hal := ha.len
  refine acalls_of_body Tryz.func61 rfl (by kernel_rfl) rfl ?_
  refine rn rfl ?_
  refine goal_cond rfl (fun h0 => ?_) (fun h0 => ?_) <;> simp only [List.length_map, bne_iff_ne, ne_eq, bne_eq_false_iff_eq] at h0
  · refine rn rfl (fin_is [] rfl ⟨?_, rfl⟩)
    have : a.length ≠ b.length := by omega
    simp [sameB, this]
  have hlen : a.length = b.length := by omega
  refine rn rfl ?_
  refine goal_loop_keep (fun m σ => ∃ (q : Int) (i : Nat), q = i ∧ i ≤ a.length ∧ m = a.length - i ∧ (∀ (j : Nat) (x y : Slot), a[j]? = some x → b[j]? = some y → j < i → sameL x y = true) ∧
      σ = ⟨[(5, .one (.int .i64 q)), (3, .one (.op 1 0 0)), (2, .one (.op 0 0 0))], [some ⟨1, [eBi a], false, false, true⟩, some ⟨1, [eBi b], false, false, true⟩], []⟩) a.length [5, 3, 2] [0, 1] rfl
    ⟨_, 0, rfl, by omega, by omega, fun j x y _ _ hj => by omega, rfl⟩ ?_
  rintro m σ ⟨q, i, rfl, hi, rfl, hall, rfl⟩
  refine rn rfl ?_
  refine goal_cond rfl (fun h1 => ?_) (fun h1 => ?_) <;> (try simp only [gt_iff_lt, ge_iff_le, bne_iff_ne, ne_eq, bne_eq_false_iff_eq, beq_iff_eq, beq_eq_false_iff_ne, Bool.not_eq_true', Bool.not_eq_false', decide_eq_true_eq, decide_eq_false_iff_not, List.length_map] at h1)
  · obtain ⟨x, hx⟩ := at_some (xs := a) (i := i) (by omega)
    obtain ⟨y, hy⟩ := at_some (xs := b) (i := i) (by omega)
    have mx := List.mem_of_getElem? hx
    have my := List.mem_of_getElem? hy
    refine rn rfl ?_
    refine goal_draw' [0, 1] 12 rfl ?_
    refine drn [0, 1, 2, 5, 6, 7] (by kernel_rfl) (by kernel_rfl) rfl rfl ?_
    refine AH_did 3 rfl (by kernel_rfl) (by kernel_rfl) (by kernel_rfl) rfl rfl (dA_index (eL x) rfl rfl rfl rfl rfl rfl rfl (by omega) (by (try simp); omega) (map_at (by simpa using hx)) rfl) ?_
    refine drn [4] (by kernel_rfl) (by kernel_rfl) rfl rfl ?_
    refine AH_did 8 rfl (by kernel_rfl) (by kernel_rfl) (by kernel_rfl) rfl rfl (dA_index (eL y) rfl rfl rfl rfl rfl rfl rfl (by omega) (by (try simp); omega) (map_at (by simpa using hy)) rfl) ?_
    refine drn [9] (by kernel_rfl) (by kernel_rfl) rfl rfl ?_
    refine AH_one (i := 10) (by kernel_rfl) (step_call [] rfl rfl rfl rfl rfl rfl (ssameSlot_ct x y (ha.nodup x mx) (hb.nodup y my) (ha.size x mx).1 (ha.size x mx).2 (hb.size y my).2)) (by simp) ?_
    rintro σ2 ⟨r, o', ⟨rfl, rfl⟩, hσ⟩
    obtain rfl := Option.some.inj hσ
    clear hσ
    refine drn [11] (by kernel_rfl) (by kernel_rfl) rfl rfl ?_
    refine AH_end (by kernel_rfl) ?_
    refine rn rfl ?_
    refine goal_cond rfl (fun h2 => ?_) (fun h2 => ?_) <;> simp only [Bool.not_eq_true', Bool.not_eq_false'] at h2
    · refine rn rfl (round_ret (fin_is [] rfl ⟨?_, rfl⟩))
      cases hs : sameB a b with
      | false => rfl
      | true => rw [(sameB_iff.1 hs).2 i x y hx hy] at h2; cases h2
    · refine rn rfl ?_
      refine round_keep (a.length - (i + 1)) [5, 3, 2] [0, 1] (by omega) rfl ⟨_, i + 1, wrap64 (by omega) (by omega), by omega, rfl, fun j x' y' hx' hy' hj => ?_, rfl⟩
      by_cases hji : j = i
      · subst hji
        rw [hx] at hx'; rw [hy] at hy'
        cases hx'; cases hy'
        exact h2
      · exact hall j x' y' hx' hy' (by omega)
  · refine rn rfl (round_ext ?_)
    refine rn rfl (fin_is [] rfl ⟨?_, rfl⟩)
    rw [sameB_iff.2 ⟨hlen, fun j x y hx hy => hall j x y hx hy (by have := lt_of_some hx; omega)⟩]

theorem Given.nd {s : Sig} {f : Flat} {b : Bnds} (h : Given s f b) : NdB b := by
  obtain ⟨c1, c2⟩ := bound_small h.sig h.flat
  rw [← h.eq] at c1 c2
  refine ⟨by omega, fun x hx => ⟨by have := (c2 x hx).1; omega, by have := (c2 x hx).2; omega⟩, fun x hx => ?_⟩
  obtain ⟨i, hi⟩ := List.getElem?_of_mem hx
  obtain ⟨p, hp⟩ := at_some (xs := s) (i := i) (by rw [← h.len]; exact lt_of_some hi)
  rw [h.at hp hi]
  unfold giveQ
  split
  · exact h.flat.nodup.sublist (List.filter_sublist.map _)
  · split
    · split <;> simp [zL, namesOf]
    · unfold place1
      split
      · simp [namesOf]
      · split <;> simp [zL, namesOf]

def sslotOk (p : Param) (x : Slot) : Bool :=
  if p.kind = 2 then !x.given && (x.list.all okVal && (decide (x.list.length ≤ 8) && decide (x.pairs = [])))
  else if p.kind = 4 then !x.given && (decide (x.list = []) && okFlat ⟨[], x.pairs⟩)
  else decide (x.pairs = []) && ((x.given && (decide (x.list.length = 1) && x.list.all okVal)) || (!x.given && decide (x.list = [])))

def sslotAt (s : Sig) (b : Bnds) (i : Nat) : Bool := match s[i]?, b[i]? with
  | some p, some x => sslotOk p x
  | _, _ => true

def VBs (s : Sig) (b : Bnds) : Bool := okSig s && (decide (b.length = s.length) && ((List.range b.length).all (sslotAt s b) && (okFlat (unbQ s b) && (accQ s (unbQ s b) && sameB (boundQ s (unbQ s b)).1 b))))

theorem isort_nil {l : List Pair} (h : isortL ltN [] = isortL ltN l) : l = [] := by
  have := isort_len h
  cases l with
  | nil => rfl
  | cons a l => simp at this

theorem sinkG_perm {α : Type} (lt : α → α → Bool) (p : α) : ∀ (ra acc : List α), (sinkR lt p ra acc).Perm (p :: (ra.reverse ++ acc))
  | [], acc => by simp [sinkR]
  | x :: ra, acc => by
    unfold sinkR
    split
    · refine (sinkG_perm lt p ra (x :: acc)).trans ?_
      simp
    · exact List.perm_middle

theorem isortL_perm {α : Type} (lt : α → α → Bool) (xs : List α) : (isortL lt xs).Perm xs := by
  have key : ∀ (xs S : List α), (xs.foldl (fun S x => insR lt x S) S).Perm (xs ++ S) := by
    intro xs
    induction xs with
    | nil => intro S; exact List.Perm.refl _
    | cons x xs ih =>
      intro S
      have h2 : (insR lt x S).Perm (x :: S) := by simpa [insR] using sinkG_perm lt x S.reverse []
      refine (ih _).trans ?_
      exact (List.Perm.append_left xs h2).trans (by simp [List.perm_middle])
  have := key xs []
  rw [List.append_nil] at this
  exact this

theorem isort_perm {a b : List Pair} (h : isortL ltN a = isortL ltN b) : a.Perm b := by
  have h1 := isortL_perm ltN a
  have h2 := isortL_perm ltN b
  rw [h] at h1
  exact h1.symm.trans h2

theorem given_same {s : Sig} {b : Bnds} (hs : OkS s) (hU : OkF (unbQ s b)) (hacc : accQ s (unbQ s b) = true) (hsame : sameB (boundQ s (unbQ s b)).1 b = true) : Given s (unbQ s b) b := by
  refine ⟨hs, hU, hacc, ?_⟩
  obtain ⟨hl, hat⟩ := sameB_iff.1 hsame
  refine List.ext_getElem? fun i => ?_
  cases hx : b[i]? with
  | none =>
    rw [List.getElem?_eq_none_iff] at hx
    exact (List.getElem?_eq_none (by omega)).symm
  | some y =>
    obtain ⟨x, hxb⟩ := at_some (xs := (boundQ s (unbQ s b)).1) (i := i) (by rw [hl]; exact lt_of_some hx)
    obtain ⟨p, hp⟩ := at_some (xs := s) (i := i) (by rw [← boundQ_len s (unbQ s b)]; exact lt_of_some hxb)
    have hgx := bound_at hs hU hp hxb
    have hss := hat i x y hxb hx
    simp only [sameL, Bool.and_eq_true, beq_iff_eq, decide_eq_true_eq] at hss
    obtain ⟨h1, h2, h3⟩ := hss
    have h4 : x.pairs = y.pairs := by
      by_cases hk : p.kind = 4
      · have hxp : x.pairs = (unbQ s b).named.filter fun q => takesQ s q.name == (i : Int) := by rw [hgx]; unfold giveQ; rw [if_pos hk]
        obtain ⟨A, B, hAB⟩ := unb_at0 hp hx hk
        have hperm := isort_perm h3
        have hall : y.pairs.filter (fun q => takesQ s q.name == (i : Int)) = y.pairs := by
          rw [List.filter_eq_self]
          intro q hq
          have := (hperm.mem_iff (a := q)).2 hq
          rw [hxp] at this
          exact (List.mem_filter.1 this).2
        rw [hAB, List.filter_append, List.filter_append, hall] at hxp
        have hlen := hperm.length_eq
        rw [hxp] at hlen
        simp only [List.length_append] at hlen
        have e1 : A.filter (fun q => takesQ s q.name == (i : Int)) = [] := List.length_eq_zero_iff.1 (by omega)
        have e2 : B.filter (fun q => takesQ s q.name == (i : Int)) = [] := List.length_eq_zero_iff.1 (by omega)
        rw [hxp, e1, e2]; simp
      · have hxp : x.pairs = [] := by
          rw [hgx]; unfold giveQ; rw [if_neg hk]
          split
          · split <;> simp [zL]
          · unfold place1
            split
            · rfl
            · split <;> simp [zL]
        rw [hxp] at h3 ⊢
        exact (isort_nil h3).symm
    rw [hxb]
    obtain ⟨g, l, q⟩ := x
    obtain ⟨g', l', q'⟩ := y
    simp only at h1 h2 h4
    rw [h1, h2, h4]

theorem VBi_given {s : Sig} {b : Bnds} (h : VBi s b = true) : Given s (unbQ s b) b := by
  unfold VBi at h
  simp only [Bool.and_eq_true, decide_eq_true_eq] at h
  obtain ⟨h1, h2, h3, h4, h5⟩ := h
  obtain ⟨o1, o2, o3, o4⟩ := bindQ_ok h4
  rw [o4] at h5
  exact given_same o1 o2 o3 h5

theorem VBs_given {s : Sig} {b : Bnds} (h : VBs s b = true) : Given s (unbQ s b) b := by
  unfold VBs at h
  simp only [Bool.and_eq_true, decide_eq_true_eq] at h
  obtain ⟨h1, h2, h3, h4, h5, h6⟩ := h
  exact given_same (okSig_iff.1 h1) (okFlat_iff.1 h4) h5 h6

theorem Given.validS {s : Sig} {f : Flat} {b : Bnds} (h : Given s f b) : VBs s b = true := by
  have hag := h.again
  have hr : (List.range b.length).all (sslotAt s b) = true := by
    rw [List.all_eq_true]
    intro i hi
    have hi' := List.mem_range.1 hi
    obtain ⟨p, hp⟩ := at_some (xs := s) (i := i) (by rw [← h.len]; exact hi')
    have hx := h.get hp
    unfold sslotAt
    rw [hp, hx]
    simp only
    have hkr := h.sig.kindRange (List.mem_of_getElem? hp)
    have hv := give_vals (s := s) h.flat (i := i) (p := p)
    have hpl := h.flat.places
    have hnl := h.flat.named
    unfold sslotOk
    by_cases hk2 : p.kind = 2
    · rw [if_pos hk2]
      have hall : (giveQ s f.places f.named i p).list.all okVal = true := List.all_eq_true.2 hv
      rw [give_rest hk2] at hall ⊢
      simp only at hall ⊢
      rw [hall]
      simp; omega
    rw [if_neg hk2]
    by_cases hk4 : p.kind = 4
    · rw [if_pos hk4]
      unfold giveQ
      rw [if_pos hk4]
      have : okFlat ⟨[], f.named.filter fun q => takesQ s q.name == (i : Int)⟩ = true := okFlat_iff.2
        ⟨fun q hq => h.flat.pairs q (List.mem_filter.1 hq).1, h.flat.nodup.sublist (List.filter_sublist.map _), by simp, by simp, by have := (List.filter_sublist (p := fun q => takesQ s q.name == (i : Int)) (l := f.named)).length_le; simp only; omega⟩
      simp [this]
    rw [if_neg hk4]
    have hsg : singleQ p = true := single_kind.2 (by omega)
    have hsh := give_shape (s := s) (pl := f.places) (qs := f.named) (i := i) (p := p) hsg
    have hall : (giveQ s f.places f.named i p).list.all okVal = true := List.all_eq_true.2 hv
    cases hg : (giveQ s f.places f.named i p).given with
    | true => rw [hsh.1 hg] at hall ⊢; simpa using hall
    | false => rw [hsh.2 hg]; simp [zL]
  unfold VBs
  rw [hr, okSig_iff.2 h.sig, okFlat_iff.2 hag.flat, hag.acc, ← hag.eq, sameB_self]
  simp [h.len]

theorem VB_eq (s : Sig) (b : Bnds) : VBs s b = VBi s b := by
  cases h : VBi s b with
  | true => exact (VBi_given h).validS
  | false =>
    cases h' : VBs s b with
    | false => rfl
    | true => rw [(VBs_given h').valid] at h; cases h

structure LenB (b : Bnds) : Prop where
  len : b.length ≤ 1048576
  size : ∀ x ∈ b, x.list.length ≤ 1048576 ∧ x.pairs.length ≤ 1048576
  names : ∀ x ∈ b, ∀ q ∈ x.pairs, q.name.length ≤ 9223372036854775807

theorem svalidSlot_ct (p : Param) (x : Slot) (h1 : x.list.length ≤ 1048576) (h2 : x.pairs.length ≤ 1048576) (hn : ∀ q ∈ x.pairs, q.name.length ≤ 9223372036854775807) :
    ACalls pk 57 [.agg (eQ p), .agg (eL x)] [] (fun r o => r = .one (.bool (sslotOk p x)) ∧ o = []) := by
  refine acalls_of_body Tryz.func57 rfl (by kernel_rfl) rfl ?_
  refine rn rfl ?_
  refine goal_cond rfl (fun hk2 => ?_) (fun hk2 => ?_) <;> (try simp only [gt_iff_lt, ge_iff_le, bne_iff_ne, ne_eq, bne_eq_false_iff_eq, beq_iff_eq, beq_eq_false_iff_ne, Bool.not_eq_true', Bool.not_eq_false', decide_eq_true_eq, decide_eq_false_iff_not, List.length_map] at hk2)
  · refine rn rfl ?_
    refine goal_guard rfl rfl rfl (fun hg => ?_) (fun hg => ?_) <;> (try simp only [gt_iff_lt, ge_iff_le, bne_iff_ne, ne_eq, bne_eq_false_iff_eq, beq_iff_eq, beq_eq_false_iff_ne, Bool.not_eq_true', Bool.not_eq_false', decide_eq_true_eq, decide_eq_false_iff_not, List.length_map] at hg)
    · refine rn rfl ?_
      refine goal_step (step_call [] rfl rfl rfl rfl rfl rfl (validNumbers_ct x.list (by omega))) ?_
      rintro σ2 ⟨r, o', ⟨rfl, rfl⟩, hσ⟩
      obtain rfl := Option.some.inj hσ
      clear hσ
      refine rn rfl ?_
      refine goal_guard rfl rfl rfl (fun hv => ?_) (fun hv => ?_) <;> (try simp only [gt_iff_lt, ge_iff_le, bne_iff_ne, ne_eq, bne_eq_false_iff_eq, beq_iff_eq, beq_eq_false_iff_ne, Bool.not_eq_true', Bool.not_eq_false', decide_eq_true_eq, decide_eq_false_iff_not, List.length_map] at hv)
      · refine rn rfl ?_
        refine goal_guard rfl rfl rfl (fun hl => ?_) (fun hl => ?_) <;> (try simp only [gt_iff_lt, ge_iff_le, bne_iff_ne, ne_eq, bne_eq_false_iff_eq, beq_iff_eq, beq_eq_false_iff_ne, Bool.not_eq_true', Bool.not_eq_false', decide_eq_true_eq, decide_eq_false_iff_not, List.length_map] at hl)
        · have hl' : x.list.length ≤ 8 := by omega
          refine rn rfl (fin_is [] rfl ⟨?_, rfl⟩)
          simp only [nil_zero, List.length_map]
          simp [sslotOk, hk2, hg, hv, hl']
        · have hl' : ¬ x.list.length ≤ 8 := by omega
          refine rn rfl (fin_is [] rfl ⟨?_, rfl⟩)
          simp [sslotOk, hk2, hg, hv, hl']
      · refine rn rfl (fin_is [] rfl ⟨?_, rfl⟩)
        simp only [sslotOk, hk2, hg, hv]
        simp
    · refine rn rfl (fin_is [] rfl ⟨?_, rfl⟩)
      simp [sslotOk, hk2, hg]
  · refine rn rfl ?_
    refine goal_cond rfl (fun hk4 => ?_) (fun hk4 => ?_) <;> (try simp only [gt_iff_lt, ge_iff_le, bne_iff_ne, ne_eq, bne_eq_false_iff_eq, beq_iff_eq, beq_eq_false_iff_ne, Bool.not_eq_true', Bool.not_eq_false', decide_eq_true_eq, decide_eq_false_iff_not, List.length_map] at hk4)
    · refine rn rfl ?_
      refine goal_guard rfl rfl rfl (fun hg => ?_) (fun hg => ?_) <;> (try simp only [gt_iff_lt, ge_iff_le, bne_iff_ne, ne_eq, bne_eq_false_iff_eq, beq_iff_eq, beq_eq_false_iff_ne, Bool.not_eq_true', Bool.not_eq_false', decide_eq_true_eq, decide_eq_false_iff_not, List.length_map] at hg)
      · refine rn rfl ?_
        refine goal_guard rfl rfl rfl (fun hl => ?_) (fun hl => ?_) <;> (try simp only [gt_iff_lt, ge_iff_le, bne_iff_ne, ne_eq, bne_eq_false_iff_eq, beq_iff_eq, beq_eq_false_iff_ne, Bool.not_eq_true', Bool.not_eq_false', decide_eq_true_eq, decide_eq_false_iff_not, List.length_map] at hl)
        · have hl' : x.list = [] := by
            cases hx : x.list with
            | nil => rfl
            | cons a l => rw [hx] at hl; simp at hl; omega
          refine rn rfl ?_
          refine goal_step (step_call [] rfl rfl rfl rfl rfl rfl (svalidFlat_ct ⟨[], x.pairs⟩ (by simp) (by simp only; omega) hn)) ?_
          rintro σ2 ⟨r, o', ⟨rfl, rfl⟩, hσ⟩
          obtain rfl := Option.some.inj hσ
          clear hσ
          refine rn rfl ?_
          refine rn rfl (fin_is [] rfl ⟨?_, rfl⟩)
          simp [sslotOk, hk2, hk4, hg, hl']
        · have hl' : x.list ≠ [] := fun h0 => by rw [h0] at hl; simp at hl
          refine rn rfl (fin_is [] rfl ⟨?_, rfl⟩)
          simp [sslotOk, hk2, hk4, hg, hl']
      · refine rn rfl (fin_is [] rfl ⟨?_, rfl⟩)
        simp [sslotOk, hk2, hk4, hg]
    · refine rn rfl ?_
      refine goal_guard rfl rfl rfl (fun hp => ?_) (fun hp => ?_) <;> (try simp only [gt_iff_lt, ge_iff_le, bne_iff_ne, ne_eq, bne_eq_false_iff_eq, beq_iff_eq, beq_eq_false_iff_ne, Bool.not_eq_true', Bool.not_eq_false', decide_eq_true_eq, decide_eq_false_iff_not, List.length_map] at hp)
      · have hp' : x.pairs = [] := by
          cases hx : x.pairs with
          | nil => rfl
          | cons a l => rw [hx] at hp; simp at hp; omega
        refine rn rfl ?_
        refine goal_guard rfl rfl rfl (fun hg => ?_) (fun hg => ?_) <;> (try simp only [gt_iff_lt, ge_iff_le, bne_iff_ne, ne_eq, bne_eq_false_iff_eq, beq_iff_eq, beq_eq_false_iff_ne, Bool.not_eq_true', Bool.not_eq_false', decide_eq_true_eq, decide_eq_false_iff_not, List.length_map] at hg)
        · refine rn rfl ?_
          refine goal_guard rfl rfl rfl (fun hl => ?_) (fun hl => ?_) <;> (try simp only [gt_iff_lt, ge_iff_le, bne_iff_ne, ne_eq, bne_eq_false_iff_eq, beq_iff_eq, beq_eq_false_iff_ne, Bool.not_eq_true', Bool.not_eq_false', decide_eq_true_eq, decide_eq_false_iff_not, List.length_map] at hl)
          · have hl' : x.list.length = 1 := by omega
            refine rn rfl ?_
            refine goal_step (step_call [] rfl rfl rfl rfl rfl rfl (validNumbers_ct x.list (by omega))) ?_
            rintro σ2 ⟨r, o', ⟨rfl, rfl⟩, hσ⟩
            obtain rfl := Option.some.inj hσ
            clear hσ
            refine rn rfl ?_
            refine goal_guard rfl rfl rfl (fun hv => ?_) (fun hv => ?_) <;> (try simp only [gt_iff_lt, ge_iff_le, bne_iff_ne, ne_eq, bne_eq_false_iff_eq, beq_iff_eq, beq_eq_false_iff_ne, Bool.not_eq_true', Bool.not_eq_false', decide_eq_true_eq, decide_eq_false_iff_not, List.length_map] at hv)
            · refine rn rfl (fin_is [] rfl ⟨?_, rfl⟩)
              simp only [sslotOk, hk2, hk4, hg, hp', hv, hl']
              simp
            · refine rn rfl ?_
              refine goal_guard rfl rfl rfl (fun h0 => by simp [hg] at h0) (fun _ => ?_)
              refine rn rfl (fin_is [] rfl ⟨?_, rfl⟩)
              simp only [sslotOk, hk2, hk4, hg, hp', hv, hl']
              simp
          · have hl' : ¬ x.list.length = 1 := by omega
            refine rn rfl ?_
            refine goal_guard rfl rfl rfl (fun h0 => by simp [hg] at h0) (fun _ => ?_)
            refine rn rfl (fin_is [] rfl ⟨?_, rfl⟩)
            simp [sslotOk, hk2, hk4, hg, hp', hl']
        · refine rn rfl ?_
          refine goal_guard rfl rfl rfl (fun _ => ?_) (fun h0 => by simp [hg] at h0)
          refine rn rfl (fin_is [] rfl ⟨?_, rfl⟩)
          simp only [nil_zero, List.length_map]
          simp [sslotOk, hk2, hk4, hg, hp']
      · have hp' : x.pairs ≠ [] := fun h0 => by rw [h0] at hp; simp at hp
        refine rn rfl (fin_is [] rfl ⟨?_, rfl⟩)
        simp [sslotOk, hk2, hk4, hp']

theorem sslot_small {p : Param} {x : Slot} (h : sslotOk p x = true) : x.list.length ≤ 8 ∧ x.pairs.length ≤ 8 ∧ (namesOf x.pairs).Nodup := by
  unfold sslotOk at h
  split at h
  · simp only [Bool.and_eq_true, decide_eq_true_eq] at h
    obtain ⟨_, _, h1, h2⟩ := h
    rw [h2]; exact ⟨h1, by simp, by simp [namesOf]⟩
  · split at h
    · simp only [Bool.and_eq_true, decide_eq_true_eq] at h
      obtain ⟨_, h1, h2⟩ := h
      have := okFlat_iff.1 h2
      rw [h1]; exact ⟨by simp, this.named, this.nodup⟩
    · simp only [Bool.and_eq_true, Bool.or_eq_true, decide_eq_true_eq] at h
      obtain ⟨h1, h2⟩ := h
      rw [h1]
      rcases h2 with ⟨_, h2, _⟩ | ⟨_, h2⟩
      · exact ⟨by omega, by simp, by simp [namesOf]⟩
      · rw [h2]; exact ⟨by simp, by simp, by simp [namesOf]⟩

theorem sslots_okB {s : Sig} {b : Bnds} (hs : OkS s) (hlen : b.length = s.length) (hall : ∀ j, j < b.length → sslotAt s b j = true) : OkB s b ∧ NdB b := by
  have key : ∀ x ∈ b, ∃ (i : Nat) (p : Param), s[i]? = some p ∧ b[i]? = some x ∧ sslotOk p x = true := fun x hx => by
    obtain ⟨i, hi⟩ := List.getElem?_of_mem hx
    obtain ⟨p, hp⟩ := at_some (xs := s) (i := i) (by rw [← hlen]; exact lt_of_some hi)
    have := hall i (lt_of_some hi)
    unfold sslotAt at this
    rw [hp, hi] at this
    exact ⟨i, p, hp, hi, this⟩
  have hfew := hs.len
  refine ⟨⟨hlen, hs.len, fun p hp => hs.kindRange hp, fun i p x hp hx hsg hg => ?_, fun x hx => ?_⟩, ⟨by omega, fun x hx => ?_, fun x hx => ?_⟩⟩
  · have := hall i (lt_of_some hx)
    unfold sslotAt sslotOk at this
    rw [hp, hx] at this
    rw [single_kind] at hsg
    simp only at this
    rw [if_neg (by omega), if_neg (by omega), hg] at this
    simp only [Bool.and_eq_true, Bool.or_eq_true, decide_eq_true_eq] at this
    rcases this.2 with h | h
    · exact List.length_eq_one_iff.1 h.2.1
    · simp at h
  · obtain ⟨i, p, _, _, h⟩ := key x hx
    obtain ⟨h1, h2, _⟩ := sslot_small h
    omega
  · obtain ⟨i, p, _, _, h⟩ := key x hx
    obtain ⟨h1, h2, _⟩ := sslot_small h
    omega
  · obtain ⟨i, p, _, _, h⟩ := key x hx
    exact (sslot_small h).2.2

theorem sslots_small {s : Sig} {b : Bnds} (hs : OkS s) (hlen : b.length = s.length) (hall : ∀ j, j < b.length → sslotAt s b j = true) : ∀ x ∈ b, x.list.length ≤ 8 ∧ x.pairs.length ≤ 8 := by
  intro x hx
  obtain ⟨i, hi⟩ := List.getElem?_of_mem hx
  obtain ⟨p, hp⟩ := at_some (xs := s) (i := i) (by rw [← hlen]; exact lt_of_some hi)
  have := hall i (lt_of_some hi)
  unfold sslotAt at this
  rw [hp, hi] at this
  obtain ⟨h1, h2, _⟩ := sslot_small this
  exact ⟨h1, h2⟩

theorem unb_lenS {s : Sig} {b : Bnds} (hs : LenS s) (hb : ∀ x ∈ b, ∀ q ∈ x.pairs, q.name.length ≤ 9223372036854775807) (hok : OkB s b) (hsz : ∀ x ∈ b, x.list.length ≤ 8 ∧ x.pairs.length ≤ 8) : LenF (unbQ s b) := by
  have h1 := unb_cnt hok
  have h2 := cntB_bound (M := 16) (b := b) (fun x hx => by have := hsz x hx; unfold cntL; omega)
  have h3 := hok.few
  have h4 := hok.len
  exact ⟨by omega, by omega, unb_names hs.names hb⟩

theorem svalidB_ct (s : Sig) (b : Bnds) (hs : LenS s) (hb : LenB b) : ACalls pk 29 [.agg (eG s), .agg (eBi b)] [] (fun r o => r = .one (.bool (VBs s b)) ∧ o = []) := by
  have hls := hs
  obtain ⟨s1, s2⟩ := hs
  have hbl := hb.len
  refine acalls_of_body Tryz.func29 rfl (by kernel_rfl) rfl ?_
  refine rn rfl ?_
  refine goal_step (step_call [] rfl rfl rfl rfl rfl rfl (svalidSig_ct s (by omega) s2)) ?_
  rintro σ2 ⟨r, o', ⟨rfl, rfl⟩, hσ⟩
  obtain rfl := Option.some.inj hσ
  clear hσ
  refine rn rfl ?_
  refine goal_guard rfl rfl rfl (fun h1 => ?_) (fun h1 => ?_) <;> (try simp only [gt_iff_lt, ge_iff_le, bne_iff_ne, ne_eq, bne_eq_false_iff_eq, beq_iff_eq, beq_eq_false_iff_ne, Bool.not_eq_true', Bool.not_eq_false', decide_eq_true_eq, decide_eq_false_iff_not, List.length_map] at h1)
  · refine rn rfl (fin_is [] rfl ⟨?_, rfl⟩)
    simp [VBs, h1]
  have hok := okSig_iff.1 h1
  refine rn rfl ?_
  refine goal_cond rfl (fun h2 => ?_) (fun h2 => ?_) <;> simp only [List.length_map, bne_iff_ne, ne_eq, bne_eq_false_iff_eq] at h2
  · refine rn rfl (fin_is [] rfl ⟨?_, rfl⟩)
    have : b.length ≠ s.length := by omega
    simp [VBs, this]
  have hlen : b.length = s.length := by omega
  refine rn rfl ?_
  refine goal_loop_keep (fun m σ => ∃ (q : Int) (i : Nat), q = i ∧ i ≤ b.length ∧ m = b.length - i ∧ (∀ j, j < i → sslotAt s b j = true) ∧
      σ = ⟨[(5, .one (.int .i64 q)), (3, .one (.op 1 0 0)), (2, .one (.op 0 0 0))],
        [some ⟨1, [eG s], false, false, true⟩, some ⟨1, [eBi b], false, false, true⟩], []⟩) b.length [5, 3, 2] [0, 1] rfl
    ⟨_, 0, rfl, by omega, by omega, fun j hj => by omega, rfl⟩ ?_
  rintro m σ ⟨q, i, rfl, hi, rfl, hall, rfl⟩
  refine rn rfl ?_
  refine goal_cond rfl (fun h3 => ?_) (fun h3 => ?_) <;> (try simp only [gt_iff_lt, ge_iff_le, bne_iff_ne, ne_eq, bne_eq_false_iff_eq, beq_iff_eq, beq_eq_false_iff_ne, Bool.not_eq_true', Bool.not_eq_false', decide_eq_true_eq, decide_eq_false_iff_not, List.length_map] at h3)
  · obtain ⟨x, hx⟩ := at_some (xs := b) (i := i) (by omega)
    obtain ⟨p, hp⟩ := at_some (xs := s) (i := i) (by omega)
    obtain ⟨l1, l2⟩ := hb.size x (List.mem_of_getElem? hx)
    have ln := hb.names x (List.mem_of_getElem? hx)
    refine rn rfl ?_
    refine goal_draw' [0, 1] 12 rfl ?_
    refine drn [0, 1, 2, 5, 6, 7] (by kernel_rfl) (by kernel_rfl) rfl rfl ?_
    refine AH_did 3 rfl (by kernel_rfl) (by kernel_rfl) (by kernel_rfl) rfl rfl (dA_index (eQ p) rfl rfl rfl rfl rfl rfl rfl (by omega) (by (try simp); omega) (map_at (by simpa using hp)) rfl) ?_
    refine drn [4] (by kernel_rfl) (by kernel_rfl) rfl rfl ?_
    refine AH_did 8 rfl (by kernel_rfl) (by kernel_rfl) (by kernel_rfl) rfl rfl (dA_index (eL x) rfl rfl rfl rfl rfl rfl rfl (by omega) (by (try simp); omega) (map_at (by simpa using hx)) rfl) ?_
    refine drn [9] (by kernel_rfl) (by kernel_rfl) rfl rfl ?_
    refine AH_one (i := 10) (by kernel_rfl) (step_call [] rfl rfl rfl rfl rfl rfl (svalidSlot_ct p x l1 l2 ln)) (by simp) ?_
    rintro σ2 ⟨r, o', ⟨rfl, rfl⟩, hσ⟩
    obtain rfl := Option.some.inj hσ
    clear hσ
    refine drn [11] (by kernel_rfl) (by kernel_rfl) rfl rfl ?_
    refine AH_end (by kernel_rfl) ?_
    refine rn rfl ?_
    refine goal_cond rfl (fun h4 => ?_) (fun h4 => ?_) <;> simp only [Bool.not_eq_true', Bool.not_eq_false'] at h4
    · refine rn rfl (round_ret (fin_is [] rfl ⟨?_, rfl⟩))
      have h5 : sslotAt s b i = false := by unfold sslotAt; rw [hp, hx]; exact h4
      have : (List.range b.length).all (sslotAt s b) = false := by
        rw [List.all_eq_false]
        exact ⟨i, List.mem_range.2 (by omega), by simp [h5]⟩
      simp [VBs, this]
    · have h5 : sslotAt s b i = true := by unfold sslotAt; rw [hp, hx]; exact h4
      refine rn rfl ?_
      refine round_keep (b.length - (i + 1)) [5, 3, 2] [0, 1] (by omega) rfl ⟨_, i + 1, wrap64 (by omega) (by omega), by omega, rfl, fun j hj => ?_, rfl⟩
      by_cases hji : j = i
      · subst hji; exact h5
      · exact hall j (by omega)
  · refine rn rfl (round_ext ?_)
    have hall' : ∀ j, j < b.length → sslotAt s b j = true := fun j hj => hall j (by omega)
    obtain ⟨hokB, hnd⟩ := sslots_okB hok hlen hall'
    have hr : (List.range b.length).all (sslotAt s b) = true := by
      rw [List.all_eq_true]; intro j hj; exact hall' j (List.mem_range.1 hj)
    have hV : VBs s b = (okFlat (unbQ s b) && (accQ s (unbQ s b) && sameB (boundQ s (unbQ s b)).1 b)) := by unfold VBs; rw [hr, h1, decide_eq_true hlen]; simp only [Bool.true_and]
    have lU := unb_lenS hls hb.names hokB (fun x hx => sslots_small hok hlen hall' x hx)
    have hU := sunbound_ct s b hokB
    have hF := svalidFlat_ct (unbQ s b) (by have := lU.places; omega) (by have := lU.named; omega) lU.names
    have hA := saccepts_ct s (unbQ s b) hok lU
    have hB := sbound_ct s (unbQ s b) hok lU.places lU.named
    have hG : okFlat (unbQ s b) = true → accQ s (unbQ s b) = true → NdB (boundQ s (unbQ s b)).1 := fun a1 a2 => (Given.mk (s := s) (f := unbQ s b) (b := (boundQ s (unbQ s b)).1) hok (okFlat_iff.1 a1) a2 rfl).nd
    rw [hV]
    generalize unbQ s b = U at *
    refine rn rfl ?_
    refine goal_step (step_call [] rfl rfl rfl rfl rfl rfl (hU)) ?_
    rintro σ2 ⟨r, o', ⟨rfl, rfl⟩, hσ⟩
    obtain rfl := Option.some.inj hσ
    clear hσ
    refine rn rfl ?_
    refine rn rfl ?_
    refine goal_step (step_call [] rfl rfl rfl rfl rfl rfl (hF)) ?_
    rintro σ2 ⟨r, o', ⟨rfl, rfl⟩, hσ⟩
    obtain rfl := Option.some.inj hσ
    clear hσ
    refine rn rfl ?_
    refine goal_guard rfl rfl rfl (fun h6 => ?_) (fun h6 => ?_) <;> (try simp only [gt_iff_lt, ge_iff_le, bne_iff_ne, ne_eq, bne_eq_false_iff_eq, beq_iff_eq, beq_eq_false_iff_ne, Bool.not_eq_true', Bool.not_eq_false', decide_eq_true_eq, decide_eq_false_iff_not, List.length_map] at h6)
    · refine rn rfl (fin_is [] rfl ⟨?_, rfl⟩)
      simp [h6]
    refine rn rfl ?_
    refine goal_step (step_call [] rfl rfl rfl rfl rfl rfl (hA)) ?_
    rintro σ2 ⟨r, o', ⟨rfl, rfl⟩, hσ⟩
    obtain rfl := Option.some.inj hσ
    clear hσ
    refine rn rfl ?_
    refine goal_cond rfl (fun h7 => ?_) (fun h7 => ?_) <;> (try simp only [gt_iff_lt, ge_iff_le, bne_iff_ne, ne_eq, bne_eq_false_iff_eq, beq_iff_eq, beq_eq_false_iff_ne, Bool.not_eq_true', Bool.not_eq_false', decide_eq_true_eq, decide_eq_false_iff_not, List.length_map] at h7)
    · refine rn rfl (fin_is [] rfl ⟨?_, rfl⟩)
      simp [h7]
    refine rn rfl ?_
    refine goal_step (step_call [] rfl rfl rfl rfl rfl rfl (hB)) ?_
    rintro σ2 ⟨r, o', ⟨rfl, rfl⟩, hσ⟩
    obtain rfl := Option.some.inj hσ
    clear hσ
    refine rn rfl ?_
    refine rn rfl ?_
    refine goal_step (step_call [] rfl rfl rfl rfl rfl rfl (ssameB_ct (boundQ s U).1 b (hG (by simpa using h6) (by simpa using h7)) hnd)) ?_
    rintro σ2 ⟨r, o', ⟨rfl, rfl⟩, hσ⟩
    obtain rfl := Option.some.inj hσ
    clear hσ
    refine rn rfl ?_
    refine rn rfl (fin_is [] rfl ⟨?_, rfl⟩)
    simp [h6, h7]

theorem sUnbind_ct (s : Sig) (b : Bnds) (hs : LenS s) (hb : LenB b) : ACalls pk 7 [.agg (eG s), .agg (eBi b)] [] (fun r o => r = .agg (eF (if VBi s b then unbQ s b else zF)) ∧ o = []) := by
  rw [← VB_eq]
  refine acalls_of_body Tryz.func7 rfl (by kernel_rfl) rfl ?_
  refine rn rfl ?_
  refine goal_step (step_call [] rfl rfl rfl rfl rfl rfl (svalidB_ct s b hs hb)) ?_
  rintro σ2 ⟨r, o', ⟨rfl, rfl⟩, hσ⟩
  obtain rfl := Option.some.inj hσ
  clear hσ
  refine rn rfl ?_
  refine goal_cond rfl (fun h => ?_) (fun h => ?_) <;> (try simp only [gt_iff_lt, ge_iff_le, bne_iff_ne, ne_eq, bne_eq_false_iff_eq, beq_iff_eq, beq_eq_false_iff_ne, Bool.not_eq_true', Bool.not_eq_false', decide_eq_true_eq, decide_eq_false_iff_not, List.length_map] at h)
  · refine rn rfl (fin_is [] rfl ⟨?_, rfl⟩)
    simp [h]; rfl
  · have hV : VBs s b = true := by simpa using h
    have G := VBs_given hV
    have hok : OkB s b := by rw [G.eq]; exact bound_okB G.sig G.flat
    rw [if_pos hV]
    refine rn rfl ?_
    refine goal_step (step_call [] rfl rfl rfl rfl rfl rfl (sunbound_ct s b hok)) ?_
    rintro σ2 ⟨r, o', ⟨rfl, rfl⟩, hσ⟩
    obtain rfl := Option.some.inj hσ
    clear hσ
    refine rn rfl ?_
    exact rn rfl (fin_is [] rfl ⟨rfl, rfl⟩)

structure MidB (b : Bnds) : Prop where
  len : b.length ≤ 8
  size : ∀ x ∈ b, x.list.length ≤ 9 ∧ x.pairs.length ≤ 8
  names : ∀ x ∈ b, ∀ q ∈ x.pairs, q.name.length ≤ 6

theorem MidB.small {b : Bnds} (h : MidB b) : SmallB b := ⟨by have := h.len; omega, fun x hx => by have := h.size x hx; omega, fun x hx q hq => by have := h.names x hx q hq; omega, by
  have h1 := cntB_bound (M := 20) (b := b) (fun x hx => by have := h.size x hx; unfold cntL; omega)
  have h2 := h.len
  omega⟩

theorem MidB.set {b : Bnds} (h : MidB b) {j : Nat} {y : Slot} (h1 : y.list.length ≤ 9 ∧ y.pairs.length ≤ 8) (h2 : ∀ q ∈ y.pairs, q.name.length ≤ 6) : MidB (b.set j y) := by
  refine ⟨by rw [List.length_set]; exact h.len, fun x hx => ?_, fun x hx => ?_⟩
  · rcases List.mem_or_eq_of_mem_set hx with hx | rfl
    · exact h.size x hx
    · exact h1
  · rcases List.mem_or_eq_of_mem_set hx with hx | rfl
    · exact h.names x hx
    · exact h2

theorem VBi_okB {s : Sig} {b : Bnds} (hb : SmallB b) (h : VBi s b = true) : OkB s b := by
  unfold VBi at h
  simp only [Bool.and_eq_true, decide_eq_true_eq, List.all_eq_true, List.mem_range] at h
  exact slots_okB (okSig_iff.1 h.1) hb h.2.1 h.2.2.1

theorem iUnbind_ct (s : Sig) (b : Bnds) (hs : LenS s) (hb : SmallB b) : ACalls pk 10 [.agg (eG s), .agg (eBi b)] [] (fun r o => r = .agg (eF (if VBi s b then unbQ s b else zF)) ∧ o = []) := by
  refine acalls_of_body Tryz.func10 rfl (by kernel_rfl) rfl ?_
  refine rn rfl ?_
  refine goal_step (step_call [] rfl rfl rfl rfl rfl rfl (ivalidBinding_ct s b hs hb)) ?_
  rintro σ2 ⟨r, o', ⟨rfl, rfl⟩, hσ⟩
  obtain rfl := Option.some.inj hσ
  clear hσ
  refine rn rfl ?_
  refine goal_cond rfl (fun h => ?_) (fun h => ?_) <;> (try simp only [gt_iff_lt, ge_iff_le, bne_iff_ne, ne_eq, bne_eq_false_iff_eq, beq_iff_eq, beq_eq_false_iff_ne, Bool.not_eq_true', Bool.not_eq_false', decide_eq_true_eq, decide_eq_false_iff_not, List.length_map] at h)
  · refine rn rfl (fin_is [] rfl ⟨?_, rfl⟩)
    simp [h]; rfl
  · refine rn rfl ?_
    refine goal_step (step_call [] rfl rfl rfl rfl rfl rfl (iunbindD_ct s b (VBi_okB hb h))) ?_
    rintro σ2 ⟨r, o', ⟨rfl, rfl⟩, hσ⟩
    obtain rfl := Option.some.inj hσ
    clear hσ
    refine rn rfl ?_
    refine rn rfl (fin_is [] rfl ⟨?_, rfl⟩)
    simp [h]; rfl

section

variable {s : Sig} {f : Flat} {b : Bnds}

end

section

variable {s : Sig} {f : Flat} {b : Bnds}

theorem Given.more (h : Given s f b) : f.places.length ≤ (unbQ s b).places.length := by
  obtain ⟨op, V, R, X, Y, I⟩ := h.unb
  rw [I.places, List.length_append]
  have hV : V.length ≤ placesQ s := by have := I.vlen; omega
  by_cases hlt : V.length < placesQ s
  · have := (h.gap I hlt).1; omega
  · by_cases h2 : ∃ (j : Nat) (p : Param), s[j]? = some p ∧ p.kind = 2
    · obtain ⟨j, p, hp, hk⟩ := h2
      have hR := I.rest j p _ (lt_of_some hp) hp (h.get hp) hk
      rw [give_rest hk] at hR
      have : R.length = f.places.length - placesQ s := by rw [hR]; simp
      omega
    · have h1 := ((acc_iff h.sig h.flat).1 h.acc).1
      have : ¬ placesQ s < f.places.length := fun h0 => by
        obtain ⟨p, hp, hk⟩ := List.any_eq_true.1 (h1 h0)
        obtain ⟨j, hj⟩ := List.getElem?_of_mem hp
        exact h2 ⟨j, p, hj, by simpa [kIs] using hk⟩
      omega

end

theorem unbV_len {s : Sig} {b : Bnds} : LenF (if VBi s b then unbQ s b else zF) := by
  split
  · rename_i h; exact (VBi_given h).flat.len
  · exact ⟨by simp [zF], by simp [zF], by simp [zF]⟩

section
open Go Go.ChangeShapes
def flL (x : Slot) : Flat := ⟨x.list, x.pairs⟩

structure FitsB (b : Bnds) : Prop where
  len : b.length ≤ 9223372036854775807
  slots : ∀ x ∈ b, Fits (flL x)

theorem openSlot : Opens pk.P 90 eL (fun x => Fits (flL x)) :=
  Opens.map (xo_struct (α := Bool × List Int × List Pair × Unit) rfl rfl (fun _ => rfl) (opensF_cons (off' := 1) (xo_bool rfl rfl) (fun _ => rfl) (by omega)
    (opensF_cons (off' := 2) (xo_slice (enc := eI) rfl rfl rfl rfl (fun _ => rfl) (xo_int rfl rfl rfl)) (fun _ => rfl) (by omega)
      (opensF_cons (off' := 3) (xo_slice rfl rfl rfl rfl (fun _ => rfl) openPair) (fun _ => rfl) (by omega) opensF_nil))))
    (fun x => ⟨x.1, x.2.1, x.2.2.1⟩) (fun _ => rfl) (fun _ h => ⟨h.2.1.1, h.2.2.1.1, h.2.2.1.2⟩)

theorem openBinding : Opens pk.P 27 eBi FitsB :=
  Opens.map (xo_struct (α := List Slot × Unit) rfl rfl (fun _ => rfl) (opensF_cons (off' := 1) (xo_slice rfl rfl rfl rfl (fun _ => rfl) openSlot) (fun _ => rfl) (by omega) opensF_nil))
    (fun x => x.1) (fun _ => rfl) (fun _ h => ⟨h.1.1, h.1.2⟩)
end

end Go.Proofs.YtocdfakomfifbaaGreat
