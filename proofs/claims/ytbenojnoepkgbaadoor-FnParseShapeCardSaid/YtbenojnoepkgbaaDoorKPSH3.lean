/- Part 3 of the proof: an abstract machine over the model; contracts of the functions that the law reaches. -/
import Derived.Test.YtbenojnoepkgbaaDoorKPSH2
set_option linter.unusedVariables false
set_option linter.unusedSimpArgs false
namespace Go.Proofs.YtbenojnoepkgbaaDoor
open Go
set_option maxRecDepth 100000
set_option maxHeartbeats 1000000

/-- A pair put into a copy, zs the reference does it. -/
def spPair (ps : List Pair) (p : Pair) : List Pair := if ps.any (nameIs p.name) then ps.set (ps.findIdx (nameIs p.name)) p else ps ++ [p]

theorem putPair_ct (ps : List Pair) (p : Pair) (h : ps.length ≤ 1000) :
    ACalls pk 99 [.one (.fs (ps.map eP)), .agg (eP p)] [] (fun r o => r = .one (.os 0 0 (spPair ps p).length (spPair ps p).length) ∧ o = [ownP (spPair ps p)]) := by
  refine acalls_of_body Tryd.func99 rfl (by kernel_rfl) rfl ?_
  refine rn rfl ?_
  refine goal_did rfl rfl (dA_append (old := []) (ps.map eP) ps.length true (Dst.own rfl rfl rfl rfl rfl (Nat.le_refl 0) rfl) (Src.fs rfl) rfl rfl rfl rfl rfl rfl rfl rfl (by simp) (rows_len eP_len _) (by simp only [List.length_map, List.length_nil]; show _ * 24 ≤ _; omega) (by simp; omega) rfl (by simp) (fun _ => noOwnR_map _ eP_noOwn _)) ?_
  refine rn rfl ?_
  have hfr : [T.one (C.fs (List.take ps.length (List.drop 0 (ps.map eP)))), T.one (.str p.name)] = [T.one (C.fs (ps.map eP)), T.one (.str p.name)] := by simp [List.take_of_length_le]
  refine goal_step (step_lendE [] rfl rfl rfl rfl rfl rfl rfl hfr (spairAt_ct ps p.name (by omega)) (by rintro r o ⟨rfl, rfl⟩; exact ⟨rfl, rfl⟩)) ?_
  rintro σ2 ⟨r, o', ⟨rfl, rfl⟩, hσ⟩
  obtain rfl := Option.some.inj hσ
  clear hσ
  refine rn rfl ?_
  refine goal_cond rfl (fun h => ?_) (fun h => ?_) <;> simp only [ge_iff_le, decide_eq_true_eq, decide_eq_false_iff_not] at h
  · have hyes : ps.any (nameIs p.name) = true := by rw [any_nameIs, ← pairIx_ge]; omega
    obtain ⟨hix, hlt⟩ := pairIx_some hyes
    have hsp : spPair ps p = ps.set (ps.findIdx (nameIs p.name)) p := by simp [spPair, hyes]
    rw [hsp, hix, List.length_set]
    generalize ps.findIdx (nameIs p.name) = i at *
    obtain ⟨q, hq⟩ := at_some hlt
    refine rn rfl ?_
    refine goal_did rfl rfl (dA_indexOwn rfl rfl rfl rfl rfl rfl rfl rfl rfl (by omega) (by omega)) ?_
    refine goal_did rfl rfl (dA_storeEl (eP q) ((ps.set i p).map eP) true rfl rfl rfl rfl rfl (map_at (by simpa using hq)) rfl rfl (by simp [eP]) (by rw [map_set]; simp [patch, eP]) (fun _ => noOwnR_map _ eP_noOwn _)) ?_
    exact rn rfl (fin_is [2] rfl ⟨rfl, rfl⟩)
  · have hno : ps.any (nameIs p.name) = false := by
      cases hb : ps.any (nameIs p.name) with
      | false => rfl
      | true => have := (pairIx_some hb).1; omega
    have hsp : spPair ps p = ps ++ [p] := by simp [spPair, hno]
    rw [hsp]
    refine rn rfl ?_
    refine goal_did rfl rfl (dA_append (old := ps.map eP) (rows := [p].map eP) ((ps ++ [p]).map eP) (ps.length + 1) true (Dst.own rfl rfl rfl rfl rfl (by simp) (whole (by simp))) (Src.os rfl rfl (Nat.le_refl 1) rfl) rfl rfl rfl rfl rfl rfl rfl rfl (rows_len eP_len _) (rows_len eP_len _) (by simp only [List.length_map, List.length_cons, List.length_nil]; show _ * 24 ≤ _; omega) (by simp; omega) (by simp) (by simp) (fun _ => noOwnR_map _ eP_noOwn _)) ?_
    exact rn rfl (fin_is [4] rfl ⟨by simp only [List.length_append, List.length_cons, List.length_nil]; done, rfl⟩)

theorem spPair_len (ps : List Pair) (p : Pair) : (spPair ps p).length ≤ ps.length + 1 := by
  unfold spPair; split <;> simp

theorem spPair_mem {ps : List Pair} {p q : Pair} (h : q ∈ spPair ps p) : q = p ∨ q ∈ ps := by
  unfold spPair at h; split at h
  · rcases List.mem_or_eq_of_mem_set h with h | h
    · exact .inr h
    · exact .inl h
  · simp at h; exact h.symm

theorem asPP (ps : List Pair) (p : Pair) : [T.one (C.fs (List.take ps.length (List.drop 0 (ps.map eP)))), T.agg (eP p)] = [T.one (C.fs (ps.map eP)), T.agg (eP p)] := by simp [List.take_of_length_le]

/-- A flat of own slices, objects 'b' and 'b + 1'. -/
def rFa (b : Nat) (f : Flat) : T := .agg [.os b 0 f.places.length f.places.length, .os (b + 1) 0 f.named.length f.named.length]

/-- What draws give: small flats. -/
structure Small (f : Flat) (a b : Nat) : Prop where
  places : f.places.length ≤ a
  named : f.named.length ≤ b
  names : ∀ p ∈ f.named, p.name.length ≤ 7
  vals : ∀ p ∈ f.named, -100 ≤ p.value ∧ p.value ≤ 100
  nums : ∀ n ∈ f.places, -100 ≤ n ∧ n ≤ 100

theorem goodFlat_ct (bs : Str) (k : Int) (hb : bs.length ≤ 2000) (hk : 0 ≤ k) (hk' : k ≤ 1073740000) :
    ACalls pk 71 [.one (.op 0 0 0)] [oR bs k] (fun r o => ∃ f k', Small f 8 3 ∧ k ≤ k' ∧ k' ≤ k + 30 ∧ r = rFa 1 f ∧ o = [oR bs k', ownI f.places, ownP f.named]) := by
  refine acalls_of_body Tryd.func71 rfl (by kernel_rfl) rfl ?_
  refine rn rfl ?_
  refine goal_step (step_callE [0] rfl rfl rfl rfl rfl rfl rfl (one_ct bs k [2, 1, 3, 0, 4, 8] hb hk (by omega) (by decide) (by decide))) ?_
  rintro σ2 ⟨r, o', ⟨⟨v, hv, rfl⟩, rfl⟩, hσ⟩
  obtain rfl := Option.some.inj hσ
  clear hσ
  have hv8 : 0 ≤ v ∧ v ≤ 8 := by simp at hv; omega
  refine rn rfl ?_
  refine goal_loop_keep (fun m σ => ∃ (q k1 : Int) (ns : List Int) (L : Nat), q = m ∧ L = ns.length ∧ ns.length + m ≤ 8 ∧ (∀ n ∈ ns, -100 ≤ n ∧ n ≤ 100) ∧ k ≤ k1 ∧ k1 + m ≤ k + 9 ∧
      σ = ⟨[(4, .one (.int .i64 q)), (3, .one (.op 2 0 0)), (2, .one (.op 1 0 0)), (0, .one (.op 0 0 0))], [oR bs k1, some ⟨2, [[.fs [], .fs []]], false, false, true⟩, some ⟨2, [[.os 3 0 L L, .os 4 0 0 0]], false, false, true⟩, ownI ns, ownP []], []⟩) v.toNat [4, 3, 2, 0] [1, 4, 2, 3] rfl
    ⟨_, _, [], 0, ?_, rfl, ?_, by simp, ?_, ?_, rfl⟩ ?_
  · omega
  · simp; omega
  · omega
  · omega
  · rintro m σ ⟨q, k1, ns, L, rfl, rfl, hnl, hns, hk1, hk2, rfl⟩
    refine rn rfl ?_
    refine goal_cond rfl (fun h => ?_) (fun h => ?_) <;> simp only [gt_iff_lt, decide_eq_true_eq, decide_eq_false_iff_not] at h
    · refine rn rfl ?_
      refine goal_drawL [2] [7] 8 rfl ?_
      refine drnL [0, 1, 2] (by kernel_rfl) (by kernel_rfl) rfl rfl ?_
      refine AHL_one (i := 3) (by kernel_rfl) rfl (step_callE [0] rfl rfl rfl rfl rfl rfl (rfl) (aNumber_ct bs k1 hb (by omega) (by omega))) (by simp) ?_
      rintro σ2 ⟨r, o', ⟨⟨v, hv1, hv2, rfl⟩, rfl⟩, hσ⟩
      obtain rfl := Option.some.inj hσ
      clear hσ
      refine AHL_oneDid 4 rfl (by kernel_rfl) rfl rfl (dA_step rfl) (mdOk rfl) ?_
      refine AHL_oneDid 5 rfl (by kernel_rfl) rfl rfl (dA_append (old := (ns).map eI) (rows := ([v] : List Int).map eI) (((ns) ++ ([v] : List Int)).map eI) (ns.length + 1) true (Dst.own rfl rfl rfl rfl rfl (by first | (simp; done) | (simp; omega)) (whole (by first | (simp; done) | (simp; omega)))) (Src.os rfl rfl (Nat.le_refl 1) rfl) rfl rfl rfl rfl rfl rfl rfl rfl (rows_len eI_len _) (rows_len eI_len _) (by (try simp only [List.length_map, List.length_append, List.length_cons, List.length_nil, List.length_take, List.length_drop]); show _ * 8 ≤ _; omega) (by first | (simp; done) | (simp; omega)) (by simp) (by first | (simp; done) | (simp; omega)) (fun _ => noOwnR_map _ eI_noOwn _)) (mdOk rfl) ?_
      refine drnL [6] (by kernel_rfl) (by kernel_rfl) rfl rfl ?_
      refine AHL_lateDid 7 rfl (by kernel_rfl) rfl rfl (dA_step rfl) ?_
      refine AH_end (by kernel_rfl) ?_
      refine rn rfl ?_
      refine round_keep (m - 1) [4, 3, 2, 0] [1, 2, 6, 4] (by omega) rfl ⟨_, _, ns ++ [v], ns.length + 1, ?_, by simp, ?_, ?_, ?_, ?_, rfl⟩
      · rw [wrap64 (by omega) (by omega)]; omega
      · simp; omega
      · intro n hn; simp at hn; rcases hn with hn | rfl
        · exact hns n hn
        · exact ⟨hv1, hv2⟩
      · omega
      · omega
    · refine rn rfl ?_
      refine round_ext ?_
      refine rn rfl ?_
      refine goal_step (step_callE [0] rfl rfl rfl rfl rfl rfl (rfl) (one_ct bs k1 [1, 2, 0, 3, 0] hb (by omega) (by omega) (by decide) (by decide))) ?_
      rintro σ2 ⟨r, o', ⟨⟨w, hw, rfl⟩, rfl⟩, hσ⟩
      obtain rfl := Option.some.inj hσ
      clear hσ
      refine rn rfl ?_
      have hw3 : 0 ≤ w ∧ w ≤ 3 := by simp at hw; omega
      refine goal_loop_keep (fun m σ => ∃ (q k2 : Int) (ps : List Pair) (L : Nat), q = m ∧ L = ps.length ∧ ps.length + m ≤ 3 ∧ (∀ p ∈ ps, p.name.length ≤ 7 ∧ -100 ≤ p.value ∧ p.value ≤ 100) ∧ k ≤ k2 ∧ k2 + 2 * m ≤ k + 30 ∧
          σ = ⟨[(5, .one (.int .i64 q)), (3, .one (.op 2 0 0)), (2, .one (.op 1 0 0)), (0, .one (.op 0 0 0))], [oR bs k2, some ⟨2, [[.fs [], .fs []]], false, false, true⟩, some ⟨2, [[.os 3 0 ns.length ns.length, .os 4 0 L L]], false, false, true⟩, ownI ns, ownP ps], []⟩) w.toNat [5, 3, 2, 0] [1, 2, 3, 4] rfl
        ⟨_, _, [], 0, ?_, rfl, ?_, by simp, ?_, ?_, rfl⟩ ?_
      · omega
      · simp; omega
      · omega
      · omega
      rintro m σ ⟨q, k2, ps, L, rfl, rfl, hpl, hps, hk3, hk4, rfl⟩
      refine rn rfl ?_
      refine goal_cond rfl (fun h => ?_) (fun h => ?_) <;> (try simp only [gt_iff_lt, ge_iff_le, bne_iff_ne, ne_eq, bne_eq_false_iff_eq, beq_iff_eq, beq_eq_false_iff_ne, Bool.not_eq_true', Bool.not_eq_false', decide_eq_true_eq, decide_eq_false_iff_not, List.length_map] at h)
      · refine rn rfl ?_
        refine goal_drawL [2] [9] 10 rfl ?_
        refine drnL [0, 1, 2, 4] (by kernel_rfl) (by kernel_rfl) rfl rfl ?_
        refine AHL_one (i := 3) (by kernel_rfl) rfl (step_callE [0] rfl rfl rfl rfl rfl rfl (rfl) (aName_ct bs k2 hb (by omega) (by omega))) (by simp) ?_
        rintro σ2 ⟨r, o', ⟨⟨v, hv1, rfl⟩, rfl⟩, hσ⟩
        obtain rfl := Option.some.inj hσ
        clear hσ
        refine AHL_one (i := 5) (by kernel_rfl) rfl (step_callE [0] rfl rfl rfl rfl rfl rfl (rfl) (aNumber_ct bs (k2 + 1) hb (by omega) (by omega))) (by simp) ?_
        rintro σ2 ⟨r, o', ⟨⟨v', hv2, hv3, rfl⟩, rfl⟩, hσ⟩
        obtain rfl := Option.some.inj hσ
        clear hσ
        refine drnL [6] (by kernel_rfl) (by kernel_rfl) rfl rfl ?_
        refine AHL_one (i := 7) (by kernel_rfl) rfl (step_callE [] rfl rfl rfl rfl rfl rfl (asPP ps ⟨v, v'⟩) (putPair_ct ps ⟨v, v'⟩ (by omega))) (by simp) ?_
        rintro σ2 ⟨r, o', ⟨rfl, rfl⟩, hσ⟩
        obtain rfl := Option.some.inj hσ
        clear hσ
        refine drnL [8] (by kernel_rfl) (by kernel_rfl) rfl rfl ?_
        refine AHL_lateDid 9 rfl (by kernel_rfl) rfl rfl (dA_step rfl) ?_
        refine AH_end (by kernel_rfl) ?_
        refine rn rfl ?_
        have hsp := spPair_len ps ⟨v, v'⟩
        refine round_keep (m - 1) [5, 3, 2, 0] [1, 2, 3, 5] (by omega) rfl ⟨_, _, spPair ps ⟨v, v'⟩, _, ?_, rfl, ?_, ?_, ?_, ?_, rfl⟩
        · rw [wrap64 (by omega) (by omega)]; omega
        · omega
        · intro p hp; rcases spPair_mem hp with rfl | hp
          · exact ⟨hv1, hv2, hv3⟩
          · exact hps p hp
        · omega
        · omega
      · refine rn rfl ?_
        refine round_ext ?_
        refine rn rfl (fin_is [3, 4] rfl ⟨⟨ns, ps⟩, k2, ⟨by simp; omega, by simp; omega, fun p hp => (hps p hp).1, fun p hp => (hps p hp).2, hns⟩, hk3, by omega, rfl, rfl⟩)

theorem takeAll {α : Type} (enc : α → List C) (xs : List α) (n : Nat) (h : xs.length = n) : List.take n (List.drop 0 (xs.map enc)) = xs.map enc := by
  subst h; simp [List.take_of_length_le]

structure OkF (f : Flat) : Prop where
  pairs : ∀ p ∈ f.named, okPair p = true
  nodup : (namesOf f.named).Nodup
  vals : ∀ n ∈ f.places, okVal n = true
  places : f.places.length ≤ 8
  named : f.named.length ≤ 8

theorem okFlat_iff {f : Flat} : okFlat f = true ↔ OkF f := by
  simp only [okFlat, Bool.and_eq_true, List.all_eq_true, decide_eq_true_eq]
  exact ⟨fun ⟨⟨⟨⟨a, b⟩, c⟩, d⟩, e⟩ => ⟨a, b, c, d, e⟩, fun ⟨a, b, c, d, e⟩ => ⟨⟨⟨⟨a, b⟩, c⟩, d⟩, e⟩⟩

structure Param where
  name : Str
  kind : Int
  hasD : Bool
  dflt : Int
deriving DecidableEq

abbrev Sig := List Param

theorem eS_len (p : Str) : (eS p).length = 1 := rfl

theorem eS_noOwn (p : Str) : noOwnL (eS p) = true := rfl

def ownS (xs : List Str) : Option AObj := some ⟨1, xs.map eS, true, false, false⟩

def placedQ (p : Param) : Bool := p.kind == 0 || p.kind == 1

def namedQ (p : Param) : Bool := p.kind == 1 || p.kind == 3

def singleQ (p : Param) : Bool := placedQ p || p.kind == 3

def qIs (n : Str) (p : Param) : Bool := p.name == n

def kIs (k : Int) (p : Param) : Bool := p.kind == k

def okQ (p : Param) : Bool := okName p.name && inR p.kind 0 4 && okVal p.dflt && (p.hasD || p.dflt == 0) && (singleQ p || !p.hasD)

def nextQ (l p : Param) : Bool := decide (l.kind ≤ p.kind) && (p.kind != l.kind || singleQ p) && (!placedQ p || !l.hasD || p.hasD)

def stepQ (pre : Sig) (p : Param) : Bool := okQ p && !pre.any (qIs p.name) && (match pre.getLast? with
  | none => true
  | some l => nextQ l p)

def okQs : Sig → Sig → Bool
  | _, [] => true
  | pre, p :: r => stepQ pre p && okQs (pre ++ [p]) r

def okSig (s : Sig) : Bool := okQs [] s && decide (s.length ≤ 8)

theorem take_snoc {α : Type} {xs : List α} {i : Nat} {x : α} (h : xs[i]? = some x) : xs.take i ++ [x] = xs.take (i + 1) := by
  rw [List.take_add_one, h]; rfl

theorem last_take {α : Type} {xs : List α} {i : Nat} {x : α} (h : xs[i]? = some x) : (xs.take (i + 1)).getLast? = some x := by
  rw [← take_snoc h]; simp

def takesQ (s : Sig) (n : Str) : Int := if (match s.find? (qIs n) with
  | some p => namedQ p
  | none => false) then idxI (qIs n) s 0 else idxI (kIs 4) s 0

theorem idxI_find {α : Type} {pred : α → Bool} {xs : List α} (h : 0 ≤ idxI pred xs 0) : ∃ x, xs.find? pred = some x ∧ xs[(idxI pred xs 0).toNat]? = some x ∧ pred x = true ∧ idxI pred xs 0 < xs.length := by
  have ha := idxI_ge.1 h
  have hs := idxI_some (i := 0) ha
  have hlt : xs.findIdx pred < xs.length := by
    rw [List.findIdx_lt_length]; simpa using ha
  refine ⟨xs[xs.findIdx pred], ?_, ?_, List.findIdx_getElem, ?_⟩
  · rw [List.find?_eq_some_iff_getElem]
    refine ⟨List.findIdx_getElem, xs.findIdx pred, hlt, rfl, fun j hj => ?_⟩
    have := List.not_of_lt_findIdx hj
    simpa using this
  · rw [hs]; simp [hlt]
  · rw [hs]; omega

def placesQ (s : Sig) : Nat := s.countP placedQ

theorem cloneS_ct (xs : List Str) (hl : xs.length ≤ 16777216) :
    ACalls pk 68 [.one (.fs (xs.map eS))] [] (fun r o => r = .one (.os 0 0 xs.length xs.length) ∧ o = [ownS xs]) := by
  refine acalls_of_body Tryd.func68 rfl (by kernel_rfl) rfl ?_
  refine rn rfl ?_
  refine goal_step (step_eqNil rfl rfl (Src.fs rfl) rfl rfl rfl rfl) ?_
  rintro σ2 ⟨b, hb, rfl⟩
  refine rn rfl ?_
  refine goal_cond rfl (fun h => ?_) (fun h => ?_)
  · have hx : xs = [] := by simpa using hb h
    subst hx
    exact rn rfl (fin_adopt 2 0 1 [0] rfl ⟨rfl, rfl⟩)
  · refine rn rfl ?_
    refine goal_did rfl rfl (dA_append (xs.map eS) xs.length true (Dst.own rfl rfl rfl rfl rfl (Nat.le_refl 0) rfl) (Src.fs rfl) rfl rfl rfl rfl rfl rfl rfl rfl (by simp) (rows_len eS_len _) (by simp only [List.length_map, List.take_zero, List.length_nil]; show _ * 16 ≤ _; omega) (by simp; omega) rfl (by simp) (fun _ => noOwnR_map _ eS_noOwn _)) ?_
    exact rn rfl (fin_is [1] rfl ⟨rfl, rfl⟩)

theorem clipS_ct (xs : List Str) (kc : Nat) (hk : xs.length ≤ kc) :
    ACalls pk 67 [.one (.os 0 0 xs.length kc)] [ownS xs] (fun r o => r = .one (.os 0 0 xs.length xs.length) ∧ o = [ownS xs]) := by
  refine acalls_of_body Tryd.func67 rfl (by kernel_rfl) rfl ?_
  refine rn rfl ?_
  refine goal_did rfl rfl (dA_sliceOwn 0 xs.length xs.length 0 xs.length xs.length rfl rfl rfl rfl rfl rfl rfl Bnd.none_ (Bnd.some_ rfl rfl) (.inr ⟨by simp, by simp, Bnd.some_ rfl rfl⟩) (by omega) (by omega) hk (by simp) rfl rfl rfl rfl) ?_
  exact rn rfl (fin_is [] rfl ⟨rfl, rfl⟩)

theorem okQs_all : ∀ (r pre : Sig), okQs pre r = true → ∀ (i : Nat) (p : Param), r[i]? = some p → stepQ (pre ++ r.take i) p = true
  | [], pre, _, i, p, hp => by simp at hp
  | q :: r, pre, h, 0, p, hp => by simp at hp; subst hp; simp only [okQs, Bool.and_eq_true] at h; simpa using h.1
  | q :: r, pre, h, i + 1, p, hp => by
    simp only [okQs, Bool.and_eq_true] at h
    have := okQs_all r (pre ++ [q]) h.2 i p (by simpa using hp)
    simpa using this

theorem okQs_of_all : ∀ (r pre : Sig), (∀ (i : Nat) (p : Param), r[i]? = some p → stepQ (pre ++ r.take i) p = true) → okQs pre r = true
  | [], pre, _ => rfl
  | q :: r, pre, h => by
    simp only [okQs, Bool.and_eq_true]
    refine ⟨by simpa using h 0 q rfl, okQs_of_all r (pre ++ [q]) fun i p hp => ?_⟩
    have := h (i + 1) p (by simpa using hp)
    simpa using this

structure OkS (s : Sig) : Prop where
  params : ∀ p ∈ s, okQ p = true
  nodup : (s.map Param.name).Nodup
  next : ∀ (i : Nat) (l p : Param), s[i]? = some l → s[i + 1]? = some p → nextQ l p = true
  len : s.length ≤ 8

theorem okSig_iff {s : Sig} : okSig s = true ↔ OkS s := by
  simp only [okSig, Bool.and_eq_true, decide_eq_true_eq]
  constructor
  · rintro ⟨h, hl⟩
    have hall := okQs_all s [] h
    simp only [List.nil_append] at hall
    refine ⟨fun p hp => ?_, ?_, fun i l p hl hp => ?_, hl⟩
    · obtain ⟨i, hi⟩ := List.getElem?_of_mem hp
      have := hall i p hi
      simp only [stepQ, Bool.and_eq_true] at this
      exact this.1.1
    · rw [List.nodup_iff_pairwise_ne, List.pairwise_iff_getElem]
      intro i j hi hj hij he
      simp only [List.length_map] at hi hj
      have := hall j s[j] (List.getElem?_eq_getElem hj)
      simp only [stepQ, Bool.and_eq_true, Bool.not_eq_true'] at this
      have h2 := this.1.2
      rw [List.any_eq_false] at h2
      refine h2 s[i] ?_ ?_
      · rw [List.mem_iff_getElem?]; exact ⟨i, by rw [List.getElem?_take, if_pos hij]; exact List.getElem?_eq_getElem hi⟩
      · simpa [qIs] using he
    · have := hall (i + 1) p hp
      simp only [stepQ, last_take hl, Bool.and_eq_true] at this
      exact this.2
  · intro h
    refine ⟨okQs_of_all s [] fun i p hp => ?_, h.len⟩
    simp only [List.nil_append, stepQ, Bool.and_eq_true, Bool.not_eq_true']
    refine ⟨⟨h.params p (List.mem_of_getElem? hp), ?_⟩, ?_⟩
    · rw [List.any_eq_false]
      intro q hq hqn
      obtain ⟨j, hj⟩ := List.getElem?_of_mem hq
      rw [List.getElem?_take] at hj
      split at hj
      · rename_i hji
        have hn := h.nodup
        rw [List.nodup_iff_pairwise_ne, List.pairwise_iff_getElem] at hn
        have hil := lt_of_some hp
        have hjl := lt_of_some hj
        refine hn j i (by simpa using hjl) (by simpa using hil) hji ?_
        rw [List.getElem?_eq_getElem hil] at hp
        rw [List.getElem?_eq_getElem hjl] at hj
        simp only [Option.some.injEq] at hp hj
        simp only [List.getElem_map, hp, hj]
        simpa [qIs] using hqn
      · cases hj
    · split
      · rfl
      · rename_i l hl
        cases i with
        | zero => simp at hl
        | succ i =>
          obtain ⟨l', hl'⟩ := at_some (xs := s) (i := i) (by have := lt_of_some hp; omega)
          rw [last_take hl'] at hl
          cases hl
          exact h.next i _ p hl' hp

theorem nextQ_kind {l p : Param} (h : nextQ l p = true) : l.kind ≤ p.kind ∧ (singleQ p = false → l.kind < p.kind) ∧ (placedQ p = true → l.hasD = true → p.hasD = true) := by
  simp only [nextQ, Bool.and_eq_true, decide_eq_true_eq, Bool.or_eq_true, bne_iff_ne, ne_eq, Bool.not_eq_true'] at h
  refine ⟨h.1.1, fun hs => ?_, fun h1 h2 => ?_⟩
  · rcases h.1.2 with h3 | h3
    · omega
    · rw [hs] at h3; cases h3
  · rcases h.2 with (h3 | h3) | h3
    · rw [h1] at h3; cases h3
    · rw [h2] at h3; cases h3
    · exact h3

theorem OkS.sorted {s : Sig} (h : OkS s) : ∀ (d i : Nat) (l p : Param), s[i]? = some l → s[i + d]? = some p → l.kind ≤ p.kind
  | 0, i, l, p, hl, hp => by rw [Nat.add_zero, hl] at hp; cases hp; exact Int.le_refl _
  | d + 1, i, l, p, hl, hp => by
    obtain ⟨q, hq⟩ := at_some (xs := s) (i := i + d) (by have := lt_of_some hp; omega)
    have h1 := OkS.sorted h d i l q hl hq
    have h2 := (nextQ_kind (h.next (i + d) q p hq hp)).1
    omega

theorem OkS.sortedLt {s : Sig} (h : OkS s) {i j : Nat} {l p : Param} (hij : i < j) (hl : s[i]? = some l) (hp : s[j]? = some p) (hs : singleQ p = false) : l.kind < p.kind := by
  obtain ⟨q, hq⟩ := at_some (xs := s) (i := j - 1) (by have := lt_of_some hp; omega)
  have h1 := h.sorted (j - 1 - i) i l q hl (by rw [show i + (j - 1 - i) = j - 1 by omega]; exact hq)
  have h2 := (nextQ_kind (h.next (j - 1) q p hq (by rw [show j - 1 + 1 = j by omega]; exact hp))).2.1 hs
  omega

theorem OkS.kindRange {s : Sig} (h : OkS s) {p : Param} (hp : p ∈ s) : 0 ≤ p.kind ∧ p.kind ≤ 4 := by
  have := h.params p hp
  simp only [okQ, inR, Bool.and_eq_true, decide_eq_true_eq] at this
  exact this.1.1.1.2

theorem OkS.nameLen {s : Sig} (h : OkS s) {p : Param} (hp : p ∈ s) : p.name.length ≤ 6 ∧ 1 ≤ p.name.length := by
  have := h.params p hp
  simp only [okQ, okName, inR, Bool.and_eq_true, decide_eq_true_eq] at this
  omega

theorem single_kind {p : Param} : singleQ p = true ↔ p.kind = 0 ∨ p.kind = 1 ∨ p.kind = 3 := by
  simp only [singleQ, placedQ, Bool.or_eq_true, beq_iff_eq]; omega

theorem placed_kind {p : Param} : placedQ p = true ↔ p.kind = 0 ∨ p.kind = 1 := by
  simp only [placedQ, Bool.or_eq_true, beq_iff_eq]

theorem named_kind {p : Param} : namedQ p = true ↔ p.kind = 1 ∨ p.kind = 3 := by
  simp only [namedQ, Bool.or_eq_true, beq_iff_eq]

/-- Of the kinds of which there is one parameter at most. -/
theorem OkS.one {s : Sig} (h : OkS s) {i j : Nat} {l p : Param} (hl : s[i]? = some l) (hp : s[j]? = some p) (hk : l.kind = p.kind) (hs : singleQ p = false) : i = j := by
  have hs' : singleQ l = false := by
    cases hx : singleQ l with
    | false => rfl
    | true => rw [single_kind, hk, ← single_kind, hs] at hx; cases hx
  rcases Nat.lt_trichotomy i j with h1 | h1 | h1
  · have := h.sortedLt h1 hl hp hs; omega
  · exact h1
  · have := h.sortedLt h1 hp hl hs'; omega

theorem countP_all {α : Type} {p : α → Bool} : ∀ {xs : List α}, (∀ x ∈ xs, p x = true) → xs.countP p = xs.length
  | [], _ => rfl
  | x :: xs, h => by rw [List.countP_cons_of_pos (h x (by simp)), countP_all (fun y hy => h y (by simp [hy]))]; rfl

theorem countP_none {α : Type} {p : α → Bool} : ∀ {xs : List α}, (∀ x ∈ xs, p x = false) → xs.countP p = 0
  | [], _ => rfl
  | x :: xs, h => by rw [List.countP_cons_of_neg (by rw [h x (by simp)]; simp), countP_none (fun y hy => h y (by simp [hy]))]

/-- The parameters that are found by their place come first. -/
theorem OkS.placed_iff {s : Sig} (h : OkS s) {i : Nat} {p : Param} (hp : s[i]? = some p) : placedQ p = true ↔ i < placesQ s := by
  have hsp := List.take_append_drop (i + 1) s
  have hspi := List.take_append_drop i s
  constructor
  · intro hpp
    have h1 : (s.take (i + 1)).countP placedQ = i + 1 := by
      rw [countP_all]
      · simp; have := lt_of_some hp; omega
      · intro q hq
        obtain ⟨j, hj⟩ := List.getElem?_of_mem hq
        rw [List.getElem?_take] at hj
        split at hj
        · have hk := h.sorted (i - j) j q p hj (by rw [show j + (i - j) = i by omega]; exact hp)
          have hr := h.kindRange (List.mem_of_getElem? hj)
          rw [placed_kind] at hpp ⊢
          omega
        · cases hj
    have h2 : placesQ s = (s.take (i + 1)).countP placedQ + (s.drop (i + 1)).countP placedQ := by
      unfold placesQ; rw [← List.countP_append, hsp]
    omega
  · intro hlt
    cases hpp : placedQ p with
    | true => rfl
    | false =>
      exfalso
      have h1 : (s.drop i).countP placedQ = 0 := by
        refine countP_none fun q hq => ?_
        obtain ⟨j, hj⟩ := List.getElem?_of_mem hq
        rw [List.getElem?_drop] at hj
        have hk := h.sorted j i p q hp hj
        have hr := h.kindRange (List.mem_of_getElem? hp)
        cases hqq : placedQ q with
        | false => rfl
        | true =>
          rw [placed_kind] at hqq
          have : placedQ p = true := placed_kind.2 (by omega)
          rw [hpp] at this; cases this
      have h2 : placesQ s = (s.take i).countP placedQ + (s.drop i).countP placedQ := by
        unfold placesQ; rw [← List.countP_append, hspi]
      have h3 := List.countP_le_length (p := placedQ) (l := s.take i)
      rw [List.length_take] at h3
      omega

theorem placesQ_le (s : Sig) : placesQ s ≤ s.length := List.countP_le_length

structure Slot where
  given : Bool
  list : List Int
  pairs : List Pair
deriving DecidableEq

def zL : Slot := ⟨false, [], []⟩

abbrev Bnds := List Slot

structure Problem where
  kind : Int
  name : Str
deriving DecidableEq

/-- What the places give to parameter number 'i'. -/
def place1 (np : Nat) (pl : List Int) (i : Nat) (p : Param) : Slot :=
  if placedQ p && decide (i < pl.length) then ⟨true, [pl.getD i 0], []⟩ else if p.kind == 2 then ⟨false, pl.drop np, []⟩ else zL

def phase1 (s : Sig) (pl : List Int) : Bnds := s.mapIdx (place1 (placesQ s) pl)

def manyQ (s : Sig) (pl : List Int) : List Problem := if decide (placesQ s < pl.length) && !s.any (kIs 2) then [⟨0, []⟩] else []

/-- What a name gives. -/
def stepB (s : Sig) (st : Bnds × List Problem) (q : Pair) : Bnds × List Problem :=
  if takesQ s q.name < 0 then (st.1, st.2 ++ [⟨1, q.name⟩]) else
  match s[(takesQ s q.name).toNat]?, st.1[(takesQ s q.name).toNat]? with
  | some p, some x => if p.kind = 4 then (st.1.set (takesQ s q.name).toNat ⟨x.given, x.list, x.pairs ++ [q]⟩, st.2) else
      if x.given then (st.1, st.2 ++ [⟨2, q.name⟩]) else (st.1.set (takesQ s q.name).toNat ⟨true, [q.value], []⟩, st.2)
  | _, _ => st

def boundQ (s : Sig) (f : Flat) : Bnds × List Problem := f.named.foldl (stepB s) (phase1 s f.places, manyQ s f.places)

def lackQ (px : Param × Slot) : Option Problem := if singleQ px.1 && !px.1.hasD && !px.2.given then some ⟨3, px.1.name⟩ else none

def missingQ (s : Sig) (b : Bnds) : List Problem := (s.zip b).filterMap lackQ

def bindQ (s : Sig) (f : Flat) : Bnds × List Problem := ((boundQ s f).1, (boundQ s f).2 ++ missingQ s (boundQ s f).1)

theorem phase1_len (s : Sig) (pl : List Int) : (phase1 s pl).length = s.length := by simp [phase1]

theorem stepB_len (s : Sig) (st : Bnds × List Problem) (q : Pair) : (stepB s st q).1.length = st.1.length := by
  unfold stepB
  split
  · rfl
  · split
    · split
      · simp
      · split <;> simp
    · rfl

theorem foldB_len (s : Sig) : ∀ (qs : List Pair) (st : Bnds × List Problem), (qs.foldl (stepB s) st).1.length = st.1.length
  | [], st => rfl
  | q :: qs, st => by rw [List.foldl_cons, foldB_len s qs, stepB_len]

theorem boundQ_len (s : Sig) (f : Flat) : (boundQ s f).1.length = s.length := by rw [boundQ, foldB_len, phase1_len]

variable {N np : Nat} {σ : State}

theorem single_four {p : Param} (h : p.kind = 4) : singleQ p = false := by
  cases hz : singleQ p with
  | false => rfl
  | true => rw [single_kind] at hz; omega

theorem takesQ_some {s : Sig} {n : Str} (h : ¬ takesQ s n < 0) : ∃ p, s[(takesQ s n).toNat]? = some p ∧ takesQ s n < s.length ∧ ((namedQ p = true ∧ p.name = n) ∨ p.kind = 4) := by
  have four : takesQ s n = idxI (kIs 4) s 0 → ∃ p, s[(takesQ s n).toNat]? = some p ∧ takesQ s n < s.length ∧ ((namedQ p = true ∧ p.name = n) ∨ p.kind = 4) := fun ht => by
    rw [ht] at h ⊢
    obtain ⟨p, hf, hp, hq, hlt⟩ := idxI_find (show 0 ≤ idxI (kIs 4) s 0 by omega)
    exact ⟨p, hp, hlt, .inr (by simpa [kIs] using hq)⟩
  cases hf : s.find? (qIs n) with
  | none => exact four (by simp [takesQ, hf])
  | some q =>
    cases hn : namedQ q with
    | false => exact four (by simp [takesQ, hf, hn])
    | true =>
      have ht : takesQ s n = idxI (qIs n) s 0 := by simp [takesQ, hf, hn]
      rw [ht] at h ⊢
      obtain ⟨p, hf', hp, hq, hlt⟩ := idxI_find (show 0 ≤ idxI (qIs n) s 0 by omega)
      rw [hf] at hf'
      cases hf'
      exact ⟨_, hp, hlt, .inl ⟨hn, by simpa [qIs] using hq⟩⟩

theorem stepB_neg {s : Sig} {st : Bnds × List Problem} {q : Pair} (h : takesQ s q.name < 0) : stepB s st q = (st.1, st.2 ++ [⟨1, q.name⟩]) := by simp [stepB, h]

theorem stepB_map {s : Sig} {st : Bnds × List Problem} {q : Pair} {i : Nat} {p : Param} {x : Slot} (h : takesQ s q.name = (i : Nat)) (hp : s[i]? = some p) (hx : st.1[i]? = some x) (hk : p.kind = 4) : stepB s st q = (st.1.set i ⟨x.given, x.list, x.pairs ++ [q]⟩, st.2) := by
  simp [stepB, h, hp, hx, hk]

theorem stepB_twice {s : Sig} {st : Bnds × List Problem} {q : Pair} {i : Nat} {p : Param} {x : Slot} (h : takesQ s q.name = (i : Nat)) (hp : s[i]? = some p) (hx : st.1[i]? = some x) (hk : p.kind ≠ 4) (hg : x.given = true) : stepB s st q = (st.1, st.2 ++ [⟨2, q.name⟩]) := by
  simp [stepB, h, hp, hx, hk, hg]

theorem stepB_set {s : Sig} {st : Bnds × List Problem} {q : Pair} {i : Nat} {p : Param} {x : Slot} (h : takesQ s q.name = (i : Nat)) (hp : s[i]? = some p) (hx : st.1[i]? = some x) (hk : p.kind ≠ 4) (hg : x.given = false) : stepB s st q = (st.1.set i ⟨true, [q.value], []⟩, st.2) := by
  simp [stepB, h, hp, hx, hk, hg]

/-- What the map has got. -/
def MapHas (s : Sig) (b : Bnds) (ps : List Pair) : Prop := ∀ (i : Nat) (p : Param) (x : Slot), s[i]? = some p → b[i]? = some x → p.kind = 4 → x.pairs = ps

theorem MapHas.set {s : Sig} {b : Bnds} {ps : List Pair} (h : MapHas s b ps) {i : Nat} {p : Param} {y : Slot} (hp : s[i]? = some p) (hk : p.kind ≠ 4) : MapHas s (b.set i y) ps := by
  intro j q x hq hx hqk
  rw [List.getElem?_set] at hx
  by_cases hij : i = j
  · subst hij; rw [hp] at hq; cases hq; exact absurd hqk hk
  · rw [if_neg hij] at hx; exact h j q x hq hx hqk

theorem MapHas.put {s : Sig} (hs : OkS s) {b : Bnds} {ps : List Pair} {i : Nat} {p : Param} {y : Slot} (hp : s[i]? = some p) (hk : p.kind = 4) (hy : y.pairs = ps) : MapHas s (b.set i y) ps := by
  intro j q x hq hx hqk
  have hij : i = j := hs.one hp hq (by omega) (single_four hqk)
  subst hij
  rw [List.getElem?_set] at hx
  split at hx
  · split at hx
    · cases hx; exact hy
    · cases hx
  · rename_i h0; exact absurd rfl h0

theorem set_same {α : Type} {xs : List α} {i : Nat} {x : α} (h : xs[i]? = some x) : xs.set i x = xs := by
  apply List.ext_getElem?
  intro j
  rw [List.getElem?_set]
  split
  · rename_i hij; subst hij; rw [if_pos (lt_of_some h), h]
  · rfl

def fitQ (s : Sig) (f : Flat) : Bool := okSig s && okFlat f

structure LenF (f : Flat) : Prop where
  places : f.places.length ≤ 1048576
  named : f.named.length ≤ 1048576
  names : ∀ p ∈ f.named, p.name.length ≤ 9223372036854775807

theorem fitQ_iff {s : Sig} {f : Flat} : fitQ s f = true ↔ OkS s ∧ OkF f := by
  rw [fitQ, Bool.and_eq_true, okSig_iff, okFlat_iff]

theorem OkF.len {f : Flat} (h : OkF f) : LenF f := ⟨by have := h.places; omega, by have := h.named; omega, fun p hp => by
  have := h.pairs p hp
  simp only [okPair, okName, inR, Bool.and_eq_true, decide_eq_true_eq] at this
  omega⟩

def accQ (s : Sig) (f : Flat) : Bool := decide ((bindQ s f).2 = [])

def partQ (s : Sig) (f : Flat) : Bool := fitQ s f && decide ((boundQ s f).2 = [])

theorem take_snoc' {α : Type} {xs : List α} {i : Nat} {x : α} (h : xs[i]? = some x) : xs.take i ++ [x] = xs.take (i + 1) := take_snoc h

def overN (ps qs : List Pair) : List Pair := qs.foldl (fun ps p => putP ps p.name p.value) ps

def overQ (f g : Flat) : Flat := ⟨f.places ++ g.places, overN f.named g.named⟩

theorem overN_len : ∀ (qs ps : List Pair), (overN ps qs).length ≤ ps.length + qs.length
  | [], ps => by simp [overN]
  | q :: qs, ps => by
    have h1 := overN_len qs (putP ps q.name q.value)
    have h2 := putP_length ps q.name q.value
    simp only [overN, List.foldl_cons, List.length_cons] at h1 ⊢
    omega

theorem overN_mem : ∀ {qs ps : List Pair} {p : Pair}, p ∈ overN ps qs → (∃ q ∈ ps, p.name = q.name) ∨ ∃ q ∈ qs, p.name = q.name
  | [], ps, p, h => .inl ⟨p, h, rfl⟩
  | q :: qs, ps, p, h => by
    rcases overN_mem (qs := qs) (ps := putP ps q.name q.value) h with ⟨r, hr, hn⟩ | ⟨r, hr, hn⟩
    · rcases putP_mem hr with h1 | ⟨r', hr', h1⟩
      · exact .inr ⟨q, by simp, by rw [hn, h1]⟩
      · exact .inl ⟨r', hr', by rw [hn, h1]⟩
    · exact .inr ⟨r, by simp [hr], hn⟩

theorem LenF.over {f g : Flat} (hf : LenF f) (hg : LenF g) : (overQ f g).places.length ≤ 16777216 ∧ (overQ f g).named.length ≤ 16777216 ∧ ∀ p ∈ (overQ f g).named, p.name.length ≤ 9223372036854775807 := by
  refine ⟨by have := hf.places; have := hg.places; simp [overQ]; omega, by have h := overN_len g.named f.named; have := hf.named; have := hg.named; simp only [overQ]; omega, fun p hp => ?_⟩
  rcases overN_mem hp with ⟨q, hq, hn⟩ | ⟨q, hq, hn⟩
  · rw [hn]; exact hf.names q hq
  · rw [hn]; exact hg.names q hq

structure Shp where
  count : Int
  names : List Str

def eX (x : Shp) : List C := [.int .i64 x.count, .fs (x.names.map eS)]

def rX (x : Shp) : T := .agg [.int .i64 x.count, .os 0 0 x.names.length x.names.length]

def oX (x : Shp) : List (Option AObj) := [ownS x.names]

theorem sortedPairsD_ct (xs : List Pair) (hl : xs.length ≤ 1048576) : ACalls pk 97 [.one (.fs (xs.map eP))] [] (fun r o => r = .one (.fs ((sortL xs).map eP)) ∧ o = []) :=
  (sortedPairs_ct xs hl).told [] (by rintro r o ⟨rfl, rfl⟩; exact ⟨_, _, rfl, congrArg (fun x => T.one (C.fs x)) (takeAll eP _ _ (sortL_length _)), rfl⟩)

theorem namesOf_take_succ {xs : List Pair} {i : Nat} {x : Pair} (h : xs[i]? = some x) : namesOf (xs.take (i + 1)) = namesOf (xs.take i) ++ [x.name] := by
  rw [← take_snoc h]; simp [namesOf]

theorem asX (x : Shp) : T.agg [C.int .i64 x.count, C.fs (List.take x.names.length (List.drop 0 (x.names.map eS)))] = T.agg (eX x) := by rw [takeAll eS _ _ rfl]; rfl

section

variable {X : Pk} {N np : Nat} {G : Ctx} {D : Nat → Prop} {e : List ALoc} {σ σ' : State} {a : Act} {w : World} {K : KP}

end

theorem sortL_names (xs : List Pair) (x : Str) : x ∈ namesOf (sortL xs) ↔ x ∈ namesOf xs := by
  have key : ∀ (xs S : List Pair), x ∈ namesOf (xs.foldl (fun out p => insL p out) S) ↔ x ∈ namesOf S ∨ x ∈ namesOf xs := by
    intro xs
    induction xs with
    | nil => intro S; simp [namesOf]
    | cons p xs ih =>
      intro S
      rw [List.foldl_cons, ih]
      simp only [namesOf, List.mem_map, List.mem_cons, insL_mem]
      constructor
      · rintro (⟨q, rfl | hq, rfl⟩ | h)
        · exact .inr ⟨_, .inl rfl, rfl⟩
        · exact .inl ⟨q, hq, rfl⟩
        · obtain ⟨q, hq, rfl⟩ := h; exact .inr ⟨q, .inr hq, rfl⟩
      · rintro (⟨q, hq, rfl⟩ | ⟨q, rfl | hq, rfl⟩)
        · exact .inl ⟨q, .inr hq, rfl⟩
        · exact .inl ⟨_, .inl rfl, rfl⟩
        · exact .inr ⟨q, hq, rfl⟩
  have := key xs []
  simpa [sortL, namesOf] using this

/-- All of the memory, zs data. -/
def allD (w : World) (b : Nat) : Prop := b < w.heap.size

/-- A value of type 't' that can be read is some 'a', its cells told by 'enc'. -/
def Opens (P : Program) (t : TypeId) {α : Type} (enc : α → List C) (ok : α → Prop) : Prop :=
  ∀ (H : Type) (en : TypeId × Value → H) (w : World) (fuel : Nat) (cs : List Value) (x : DataW H × List MemPlace), DataW.trod en P w 0 (fun _ => true) true fuel t cs = some x →
    ∃ a : α, ok a ∧ CRp (allD w) w.heap [] (enc a) cs ∧ cs.length = (enc a).length

theorem opens_slice {P : Program} {t e : TypeId} {α : Type} {enc : α → List C} {ok : α → Prop} {sz : Nat} (ht : P.underlying t = some (.slice e)) (hc : P.cellsOf e = sz) (h0 : 0 < sz) (hl : ∀ a, (enc a).length = sz) (he : Opens P e enc ok) :
    Opens P t (fun xs : List α => [.fs (xs.map enc)]) (fun xs => xs.length ≤ 9223372036854775807 ∧ ∀ x ∈ xs, ok x) := by
  intro H en w fuel cs x h
  rcases DataW.trod_slice ht h with ⟨rfl, _⟩ | ⟨a, len, cap, elems, rest, n, _, rfl, _, _, hlc, hm, hlen, hel, _, _⟩
  · refine ⟨[], by simp, ?_, rfl⟩
    simp only [CRp, CR, List.map_nil, List.length_nil, and_true]
    exact ⟨none, 0, rfl, Nat.le_refl _, .inl trivial⟩
  · have each : ∀ i, i < len → ∃ cs' : List Value, w.cells? 0 (a.add (i * sz)) sz = some cs' ∧ ∃ b : α, ok b ∧ CRp (allD w) w.heap [] (enc b) cs' ∧ cs'.length = (enc b).length := by
      intro i hi
      have := hel i hi
      rw [hc] at this
      obtain ⟨y, hy⟩ : ∃ y, elems[i]? = some y := ⟨elems[i], by simp [hlen, hi]⟩
      rw [hy, Option.bind_eq_some_iff] at this
      obtain ⟨cs', h1, h2⟩ := this
      obtain ⟨b, hb⟩ := he H en w n cs' y h2
      exact ⟨cs', h1, b, hb⟩
    have hxs : ∀ k, k ≤ len → ∃ xs : List α, xs.length = k ∧ (∀ x ∈ xs, ok x) ∧ ∀ (i : Nat) (b : α), xs[i]? = some b → ∃ cs', w.cells? 0 (a.add (i * sz)) sz = some cs' ∧ CRp (allD w) w.heap [] (enc b) cs' := by
      intro k
      induction k with
      | zero => intro _; exact ⟨[], rfl, by simp, by simp⟩
      | succ k ih =>
        intro hk
        obtain ⟨xs, q1, q2, q3⟩ := ih (by omega)
        obtain ⟨cs', h1, b, hb1, hb2, _⟩ := each k (by omega)
        refine ⟨xs ++ [b], by simp [q1], ?_, ?_⟩
        · intro x hx
          rcases List.mem_append.1 hx with hx | hx
          · exact q2 x hx
          · simp at hx; subst hx; exact hb1
        · intro i b' hi
          rw [getElem?_app_one] at hi
          split at hi
          · exact q3 i b' hi
          · split at hi
            · rename_i heq
              simp at hi
              subst hi
              rw [heq, q1]
              exact ⟨cs', h1, hb2⟩
            · cases hi
    obtain ⟨xs, q1, q2, q3⟩ := hxs len (Nat.le_refl _)
    refine ⟨xs, ⟨?_, q2⟩, ?_, rfl⟩
    · rw [q1]; exact Nat.le_trans (Nat.le_trans hlc hm) (by decide)
    · simp only [CRp, CR, and_true]
      refine ⟨some a, cap, by simp [q1], by simpa [q1] using hlc, ?_⟩
      rcases Nat.eq_zero_or_pos len with hz | hz
      · left
        have : xs = [] := List.eq_nil_of_length_eq_zero (by omega)
        simp [this]
      · right
        obtain ⟨b0, hb0⟩ : ∃ b, xs[0]? = some b := ⟨xs[0], by simp [q1, hz]⟩
        obtain ⟨cs0, hc0, _⟩ := q3 0 b0 hb0
        have hcell0 := (World.cells?_some hc0).2.2 0 (by omega)
        have hl0 := (World.cells?_some hc0).1
        -- where the row lies
        obtain ⟨cells, tt, fr, hh, hs⟩ : ∃ cells tt fr, w.heap[a.block]? = some (.cells cells tt fr) ∧ a.spot = none := by
          have hv : ∃ v, w.cell? a = some v := by
            have h2 : a.add (0 * sz) = a := by simp [Addr.add]
            rw [h2] at hcell0
            have h3 : a.add 0 = a := by simp [Addr.add]
            rw [h3] at hcell0
            have : cs0[0]? ≠ none := by
              have h4 : cs0.length = sz := by
                have := World.cells?_some hc0
                first | exact this.1 | exact this.2.1
              rw [List.getElem?_eq_getElem (by omega)]; simp
            exact ⟨cs0[0]?.get (by cases hx : cs0[0]? with | none => exact absurd hx this | some v => rfl), by rw [hcell0]; simp⟩
          obtain ⟨v, hv⟩ := hv
          unfold World.cell? at hv
          split at hv
          · rename_i cells tt fr hh
            split at hv
            · cases hv
            · rename_i hsp
              exact ⟨cells, tt, fr, hh, by cases hq : a.spot with | none => rfl | some _ => rw [hq] at hsp; simp at hsp⟩
          · cases hv
        refine ⟨a, cells, tt, fr, sz, rfl, hs, (Array.getElem?_eq_some_iff.1 hh).1, hh, ?_⟩
        rw [CRr_iff]
        intro i r hi
        rw [List.getElem?_map] at hi
        cases hxi : xs[i]? with
        | none => rw [hxi] at hi; simp at hi
        | some b =>
          rw [hxi] at hi
          simp at hi
          subst hi
          obtain ⟨cs', hc', hr'⟩ := q3 i b hxi
          refine ⟨hl b, CRp.congr (fun j hj => ?_) hr'⟩
          rw [hl b] at hj
          have := (World.cells?_some hc').2.2 j hj
          rw [← this]
          have ha : (a.add (i * sz)).add j = ⟨a.block, a.off + i * sz + j, none⟩ := by rw [add_eq a _ hs, add_eq _ _ rfl]
          rw [ha, List.getElem?_drop]
          simp [World.cell?, hh, Nat.add_assoc]

section
open Go Go.ChangeShapes Go.WideShapes Go.ChangeAt Go.RowKit
theorem TIok.cellsOf {P : Program} {t : Nat} {ti : TI} (H : TIok P t ti) : P.cellsOf t = ti.size := by
  obtain ⟨i, z, hi, hs, _⟩ := H.info
  simp [Program.cellsOf, hi, hs]

section

variable {X : Pk} {t : Nat} {ti te : TI}

theorem xo_slice {α : Type} {enc : α → List C} {ok : α → Prop} (h : findTI X.L t = some ti) (hk : ti.kind = 2) (he : findTI X.L ti.elem = some te) (h0 : Nat.blt 0 te.size = true) (hl : ∀ a, (enc a).length = te.size) (hE : Opens X.P ti.elem enc ok) :
    Opens X.P t (fun xs : List α => [.fs (xs.map enc)]) (fun xs => xs.length ≤ 9223372036854775807 ∧ ∀ x ∈ xs, ok x) :=
  opens_slice ((X.tiok h).slice hk) (X.tiok he).cellsOf (by simpa [Nat.blt_eq] using h0) hl hE

end

theorem Opens.map {P : Program} {t : TypeId} {α β : Type} {enc : α → List C} {ok : α → Prop} {enc' : β → List C} {ok' : β → Prop} (h : Opens P t enc ok) (g : α → β) (he : ∀ a, enc' (g a) = enc a) (ho : ∀ a, ok a → ok' (g a)) : Opens P t enc' ok' := by
  intro H en w fuel cs x hx
  obtain ⟨a, h1, h2, h3⟩ := h H en w fuel cs x hx
  exact ⟨g a, ho a h1, by rw [he]; exact h2, by rw [he]; exact h3⟩

/-- A law's contract, zs a call from any memory. -/
theorem law_calls {X : Pk} {f : FuncId} {args : List T} {vals : Array Value} {w : World} (h : ACalls X f args [] (fun r o => r = .one (.bool true) ∧ o = [])) (hgl : GlobOk w []) (ha : TRs (allD w) w.heap [] args vals.toList) :
    Calls X.P f vals w fun e w' => e = .returned (.bool true) ∧ Below w.heap.size w w' := by
  have hsr : SR (allD w) w.heap [] [] := ⟨rfl, by simp, by simp, by simp, fun b hb => hb⟩
  refine (h.2 (allD w) [] w vals.toList hgl hsr ha (by simp)).mono ?_
  rintro en w' ⟨v, r, o', D', e', rfl, ⟨rfl, rfl⟩, htr, _, hext, _⟩
  simp only [TR, CR] at htr
  subst htr
  refine ⟨rfl, hext.os, hext.tape, hext.output, hext.size, fun k hk => hext.block k hk ?_⟩
  rintro ⟨id, a, esz, cap, n, he, _⟩
  simp at he
end

section
open Go Go.ChangeShapes
theorem cells_of_okWide {P : Program} {W : World} {r : Reach} {base : Nat} {t : TypeId} {v : Value} (hu : (∃ e, P.underlying t = some (.slice e)) ∨ (∃ k, P.underlying t = some (.int k)) ∨ P.underlying t = some .string)
    (h : Value.okWide P W r base t v) : v.cells.toList = [v] := by
  rcases hu with ⟨e, hu⟩ | ⟨k, hu⟩ | hu <;> cases v <;> first
    | rfl
    | (exfalso; simp [Value.okWide, hu, Cell.okWide, Cell.ok] at h)

theorem opens_u8 {P : Program} {t : TypeId} (ht : P.underlying t = some (.int .u8)) : Opens P t (fun b : UInt8 => [.int .u8 b.toNat]) (fun _ => True) := by
  intro H en w fuel cs x h
  obtain ⟨n, rfl, _, hw⟩ := DataW.trod_int ht h
  have hr : 0 ≤ n ∧ n < 256 := by
    simp [Lit.wf, IntKind.min, IntKind.max, IntKind.bits, IntKind.signed] at hw
    omega
  refine ⟨UInt8.ofNat n.toNat, trivial, ?_, rfl⟩
  simp only [CRp, CR, and_true]
  congr 1
  rw [UInt8.toNat_ofNat']
  omega

theorem xo_u8 {X : Pk} {t : Nat} {ti : TI} (h : findTI X.L t = some ti) (hk : ti.kind = 4) (hik : ti.ik = .u8) : Opens X.P t (fun b : UInt8 => [.int .u8 b.toNat]) (fun _ => True) := by
  have := (X.tiok h).int hk
  rw [hik] at this
  exact opens_u8 this

theorem openBytes : Opens pk.P 37 (fun bs : Str => [.fs (bs.map rowB)]) (fun bs => bs.length ≤ 9223372036854775807) :=
  Opens.map (xo_slice (enc := rowB) rfl rfl rfl rfl (fun _ => rfl) (xo_u8 rfl rfl rfl)) (fun x => x) (fun _ => rfl) (fun _ h => h.1)
end

theorem asFl (f : Flat) : T.agg [C.fs (List.take f.places.length (List.drop 0 (f.places.map eI))), C.fs (List.take f.named.length (List.drop 0 (f.named.map eP)))] = T.agg (eF f) := by
  rw [takeAll eI _ _ rfl, takeAll eP _ _ rfl]; rfl

structure SmallS (s : Sig) : Prop where
  len : s.length ≤ 8
  names : ∀ p ∈ s, p.name.length ≤ 7

theorem OkS.small {s : Sig} (h : OkS s) : SmallS s := ⟨h.len, fun p hp => by have := h.nameLen hp; omega⟩

/-- Given by its place. -/
def byPl (pl : List Int) (i : Nat) (p : Param) : Bool := placedQ p && decide (i < pl.length)

def giveQ (s : Sig) (pl : List Int) (qs : List Pair) (i : Nat) (p : Param) : Slot :=
  if p.kind = 4 then ⟨false, [], qs.filter fun q => takesQ s q.name == (i : Int)⟩
  else if namedQ p && !byPl pl i p then (match qs.find? (nameIs p.name) with
    | some q => ⟨true, [q.value], []⟩
    | none => zL)
  else place1 (placesQ s) pl i p

def wrongQ (s : Sig) (pl : List Int) (q : Pair) : Option Problem :=
  if takesQ s q.name < 0 then some ⟨1, q.name⟩ else
  match s[(takesQ s q.name).toNat]? with
  | some p => if p.kind = 4 then none else if byPl pl (takesQ s q.name).toNat p then some ⟨2, q.name⟩ else none
  | none => none

def closedQ (s : Sig) (pl : List Int) (qs : List Pair) : Bnds × List Problem := (s.mapIdx (giveQ s pl qs), manyQ s pl ++ qs.filterMap (wrongQ s pl))

theorem giveQ_nil {s : Sig} (pl : List Int) (i : Nat) (p : Param) : giveQ s pl [] i p = place1 (placesQ s) pl i p := by
  unfold giveQ
  by_cases h4 : p.kind = 4
  · rw [if_pos h4]
    have : placedQ p = false := by
      cases h : placedQ p with
      | false => rfl
      | true => rw [placed_kind] at h; omega
    unfold place1
    simp [this, h4, zL]
  · rw [if_neg h4]
    split
    · rename_i h
      simp only [Bool.and_eq_true, Bool.not_eq_true'] at h
      have hk := named_kind.1 h.1
      unfold place1
      unfold byPl at h
      rw [h.2]
      have : (p.kind == 2) = false := by simp; omega
      simp [this]
    · rfl

theorem closed_nil (s : Sig) (pl : List Int) : closedQ s pl [] = (phase1 s pl, manyQ s pl) := by
  simp only [closedQ, phase1, List.filterMap_nil, List.append_nil]
  congr 1
  apply List.ext_getElem?
  intro i
  rw [List.getElem?_mapIdx, List.getElem?_mapIdx]
  cases s[i]? with
  | none => rfl
  | some p => simp only [Option.map_some, giveQ_nil]

theorem takes_named {s : Sig} (hs : OkS s) {i : Nat} {p : Param} (hp : s[i]? = some p) (hn : namedQ p = true) : takesQ s p.name = (i : Int) := by
  have hq : ∀ j q, s[j]? = some q → q.name = p.name → j = i := fun j q hj hqn => by
    have hnd := hs.nodup
    rw [List.nodup_iff_pairwise_ne, List.pairwise_iff_getElem] at hnd
    have hi := lt_of_some hp
    have hjl := lt_of_some hj
    rw [List.getElem?_eq_getElem hi] at hp
    rw [List.getElem?_eq_getElem hjl] at hj
    simp only [Option.some.injEq] at hp hj
    rcases Nat.lt_trichotomy j i with h | h | h
    · exact absurd (by rw [List.getElem_map, List.getElem_map, hp, hj, hqn]) (hnd j i (by simpa using hjl) (by simpa using hi) h)
    · exact h
    · exact absurd (by rw [List.getElem_map, List.getElem_map, hp, hj, hqn]) (hnd i j (by simpa using hi) (by simpa using hjl) h)
  have hany : s.any (qIs p.name) = true := by rw [List.any_eq_true]; exact ⟨p, List.mem_of_getElem? hp, by simp [qIs]⟩
  obtain ⟨q, hf, hqi, hqn, hlt⟩ := idxI_find (idxI_ge (i := 0).2 hany)
  have hqn' : q.name = p.name := by simpa [qIs] using hqn
  have hix := hq _ q hqi hqn'
  have hpq : q = p := by rw [hix, hp] at hqi; exact (Option.some.inj hqi).symm
  have h0 := idxI_ge (i := 0).2 hany
  unfold takesQ
  rw [hf]
  simp only [hpq, hn, if_true]
  omega

theorem find_snoc {qs : List Pair} {q : Pair} {n : Str} : (qs ++ [q]).find? (nameIs n) = (match qs.find? (nameIs n) with
    | some x => some x
    | none => if q.name = n then some q else none) := by
  rw [List.find?_append]
  cases qs.find? (nameIs n) with
  | some x => rfl
  | none =>
    simp only [Option.none_or, List.find?_cons, List.find?_nil, nameIs]
    by_cases h : q.name = n
    · simp [h]
    · have : (q.name == n) = false := by simpa using h
      simp [h, this]

theorem find_none {qs : List Pair} {n : Str} (h : n ∉ namesOf qs) : qs.find? (nameIs n) = none := by
  rw [List.find?_eq_none]
  intro x hx hxn
  exact h (by simp only [nameIs, beq_iff_eq] at hxn; rw [← hxn]; exact List.mem_map_of_mem hx)

theorem closed_step {s : Sig} (hs : OkS s) {pl : List Int} {qs : List Pair} {q : Pair} (hq : q.name ∉ namesOf qs) : stepB s (closedQ s pl qs) q = closedQ s pl (qs ++ [q]) := by
  by_cases hneg : takesQ s q.name < 0
  · rw [stepB_neg hneg]
    simp only [closedQ, List.filterMap_append, List.filterMap_cons, List.filterMap_nil, wrongQ, hneg, if_true, List.append_assoc]
    congr 1
    apply List.ext_getElem?
    intro i
    simp only [List.getElem?_mapIdx]
    cases hp : s[i]? with
    | none => rfl
    | some p =>
      simp only [Option.map_some, Option.some.injEq, giveQ]
      split
      · have : (takesQ s q.name == (i : Int)) = false := by simp; omega
        simp [this]
      · split
        · rename_i h4 hn
          simp only [Bool.and_eq_true] at hn
          have ht := takes_named hs hp hn.1
          rw [find_snoc]
          have hne : q.name ≠ p.name := fun h0 => by rw [h0, ht] at hneg; omega
          rw [if_neg hne]
          cases qs.find? (nameIs p.name) <;> rfl
        · rfl
  · obtain ⟨p, hp, hlt, hk⟩ := takesQ_some hneg
    have hat : takesQ s q.name = ((takesQ s q.name).toNat : Nat) := by omega
    generalize hj : (takesQ s q.name).toNat = j at hp hat
    have hx : (closedQ s pl qs).1[j]? = some (giveQ s pl qs j p) := by simp [closedQ, hp]
    have hother : ∀ (i : Nat) (r : Param), s[i]? = some r → i ≠ j → giveQ s pl (qs ++ [q]) i r = giveQ s pl qs i r := fun i r hr hij => by
      simp only [giveQ]
      split
      · have : (takesQ s q.name == (i : Int)) = false := by rw [hat]; simp; omega
        simp [this]
      · split
        · rename_i h4 hn
          simp only [Bool.and_eq_true] at hn
          have ht := takes_named hs hr hn.1
          rw [find_snoc]
          have hne : q.name ≠ r.name := fun h0 => by rw [h0, ht] at hat; omega
          rw [if_neg hne]
          cases qs.find? (nameIs r.name) <;> rfl
        · rfl
    have hset : ∀ y : Slot, giveQ s pl (qs ++ [q]) j p = y → (closedQ s pl qs).1.set j y = (closedQ s pl (qs ++ [q])).1 := fun y hy => by
      apply List.ext_getElem?
      intro i
      simp only [closedQ, List.getElem?_set, List.getElem?_mapIdx, List.length_mapIdx]
      by_cases hij : j = i
      · subst hij; rw [if_pos rfl, if_pos (lt_of_some hp), hp]; simp [hy]
      · rw [if_neg hij]
        cases hr : s[i]? with
        | none => rfl
        | some r => simp [hother i r hr (fun h => hij h.symm)]
    have hwr : ∀ w : Option Problem, wrongQ s pl q = w → (closedQ s pl (qs ++ [q])).2 = (closedQ s pl qs).2 ++ w.toList := fun w hw => by
      simp only [closedQ, List.filterMap_append, List.append_assoc]
      congr 1
      congr 1
      cases w <;> simp [List.filterMap_cons, hw]
    by_cases h4 : p.kind = 4
    · rw [stepB_map hat hp hx h4]
      have hw : wrongQ s pl q = none := by simp [wrongQ, hneg, hj, hp, h4]
      have h1 := hwr none hw
      refine Prod.ext (hset _ ?_) (by rw [h1]; simp)
      simp [giveQ, h4, hat]
    · have hn : namedQ p = true ∧ p.name = q.name := by
        rcases hk with h | h
        · exact h
        · exact absurd h h4
      have hnf : qs.find? (nameIs p.name) = none := by rw [hn.2]; exact find_none hq
      by_cases hb : byPl pl j p = true
      · have hg : (giveQ s pl qs j p).given = true := by
          unfold byPl at hb
          simp only [giveQ, h4, if_false, hn.1, byPl, hb, Bool.not_true, Bool.and_false, Bool.false_eq_true, place1, if_true]
        rw [stepB_twice hat hp hx h4 hg]
        have hw : wrongQ s pl q = some ⟨2, q.name⟩ := by simp [wrongQ, hneg, hj, hp, h4, hb]
        have h1 := hwr _ hw
        refine Prod.ext ?_ (by rw [h1]; rfl)
        have h2 := hset (giveQ s pl qs j p) (by simp only [giveQ, h4, if_false, hn.1, hb, Bool.not_true, Bool.and_false, Bool.false_eq_true])
        rw [set_same hx] at h2
        exact h2
      · have hb' : byPl pl j p = false := by simpa using hb
        have hg : (giveQ s pl qs j p).given = false := by
          simp only [giveQ, h4, if_false, hn.1, hb', Bool.not_false, Bool.and_self, if_true, hnf, zL]
        rw [stepB_set hat hp hx h4 hg]
        have hw : wrongQ s pl q = none := by simp [wrongQ, hneg, hj, hp, h4, hb']
        have h1 := hwr none hw
        refine Prod.ext (hset _ ?_) (by rw [h1]; simp)
        rw [hn.2] at hnf
        simp only [giveQ, h4, if_false, hn.1, hb', Bool.not_false, Bool.and_self, if_true, find_snoc, hnf, hn.2]

theorem closed_fold {s : Sig} (hs : OkS s) {pl : List Int} : ∀ (rs qs : List Pair), (namesOf (qs ++ rs)).Nodup → rs.foldl (stepB s) (closedQ s pl qs) = closedQ s pl (qs ++ rs)
  | [], qs, _ => by simp
  | r :: rs, qs, h => by
    have hr : r.name ∉ namesOf qs := by
      intro h0
      simp only [namesOf, List.map_append, List.map_cons] at h h0
      exact (List.nodup_append.1 h).2.2 _ h0 _ (List.mem_cons_self ..) rfl
    rw [List.foldl_cons, closed_step hs hr, closed_fold hs rs (qs ++ [r]) (by simpa using h)]
    simp

/-- What a call gives. -/
theorem bound_closed {s : Sig} (hs : OkS s) {f : Flat} (hf : (namesOf f.named).Nodup) : boundQ s f = closedQ s f.places f.named := by
  rw [boundQ, ← closed_nil, closed_fold hs f.named [] (by simpa using hf)]
  simp

def atP (f : Flat) (q : Param) : Bool := q.kind == 1 && f.named.any (nameIs q.name)

def atQ (s : Sig) (f : Flat) : Int := idxI (atP f) s 0

def giveP (f : Flat) (q : Param) : Param := if namedQ q then (match f.named.find? (nameIs q.name) with
  | some r => ⟨q.name, q.kind, true, r.value⟩
  | none => q) else q

def kindP (b : Bool) (q : Param) : Param := if q.kind == 1 && b then ⟨q.name, 3, q.hasD, q.dflt⟩ else q

def skipP (at' : Int) (f : Flat) (i : Nat) (q : Param) : Bool := (placedQ q && decide (i < f.places.length)) || (q.kind == 2 && decide (0 ≤ at'))

def partParam (at' : Int) (f : Flat) (i : Nat) (q : Param) : Option Param :=
  if skipP at' f i q then none else some (giveP f (kindP (decide (0 ≤ at') && decide (at' ≤ i)) q))

def psL (at' : Int) (f : Flat) (s : Sig) : Sig := s.zipIdx.filterMap fun x => partParam at' f x.2 x.1

theorem psL_succ {at' : Int} {f : Flat} {s : Sig} {i : Nat} {q : Param} (hq : s[i]? = some q) : psL at' f (s.take (i + 1)) = psL at' f (s.take i) ++ (partParam at' f i q).toList := by
  have hl : (s.take i).length = i := by have := lt_of_some hq; simp; omega
  unfold psL
  rw [← take_snoc hq, List.zipIdx_append, List.filterMap_append, hl]
  simp [List.filterMap_cons]
  cases partParam at' f i q <;> rfl

theorem partParam_name {at' : Int} {f : Flat} {i : Nat} {q r : Param} (h : partParam at' f i q = some r) : r.name = q.name := by
  unfold partParam at h
  split at h
  · cases h
  · simp only [Option.some.injEq] at h
    rw [← h]
    unfold giveP kindP
    split <;> split <;> (try split) <;> rfl

theorem idxI_le {α : Type} {pred : α → Bool} : ∀ {xs : List α} {k i : Nat} {x : α}, xs[i]? = some x → pred x = true → 0 ≤ idxI pred xs k ∧ idxI pred xs k ≤ ((k + i : Nat) : Int)
  | y :: xs, k, 0, x, hx, hp => by
    simp at hx; subst hx
    simp [idxI, hp]
  | y :: xs, k, i + 1, x, hx, hp => by
    simp only [List.getElem?_cons_succ] at hx
    have := idxI_le (k := k + 1) hx hp
    unfold idxI
    split
    · omega
    · omega

theorem part_np {s : Sig} {f : Flat} (h : partQ s f = true) {i : Nat} {x : Param} (hx : s[i]? = some x) (hp : placedQ x = true) (hi : i < f.places.length) (hn : namedQ x = true) : f.named.any (nameIs x.name) = false := by
  simp only [partQ, Bool.and_eq_true, decide_eq_true_eq] at h
  obtain ⟨h1, h2⟩ := h
  obtain ⟨hs, hf⟩ := fitQ_iff.1 h1
  have hnd : (namesOf f.named).Nodup := by
    have := okFlat_iff.2 hf
    simp [okFlat] at this; exact this.1.1.1.2
  rw [bound_closed hs hnd] at h2
  simp only [closedQ, List.append_eq_nil_iff, List.filterMap_eq_nil_iff] at h2
  cases ha : f.named.any (nameIs x.name) with
  | false => rfl
  | true =>
    rw [List.any_eq_true] at ha
    obtain ⟨q, hq, hqn⟩ := ha
    simp only [nameIs, beq_iff_eq] at hqn
    have hw := h2.2 q hq
    have ht := takes_named hs hx hn
    rw [← hqn] at ht
    have hk := placed_kind.1 hp
    have hb : byPl f.places i x = true := by simp [byPl, hp, hi]
    unfold wrongQ at hw
    rw [ht] at hw
    simp only [Int.toNat_natCast, hx] at hw
    rw [if_neg (by omega), if_neg (by omega), if_pos hb] at hw
    cases hw

theorem np_at {s : Sig} {f : Flat} (h : partQ s f = true) {i : Nat} {x : Param} (hx : s[i]? = some x) (hp : placedQ x = true) (hi : i < f.places.length) : atP f x = false := by
  unfold atP
  cases hk : x.kind == 1 with
  | false => rfl
  | true =>
    rw [part_np h hx hp hi (by simp at hk; simp [namedQ, hk])]; rfl

def psQ (s : Sig) (f : Flat) : Sig := psL (atQ s f) f s

theorem acc_iff {s : Sig} {f : Flat} (hs : OkS s) (hf : OkF f) : accQ s f = true ↔
    (placesQ s < f.places.length → s.any (kIs 2) = true) ∧ (∀ q ∈ f.named, wrongQ s f.places q = none) ∧ missingQ s (s.mapIdx (giveQ s f.places f.named)) = [] := by
  have hb := bound_closed hs hf.nodup
  unfold accQ bindQ
  rw [hb]
  simp only [closedQ, decide_eq_true_eq, List.append_eq_nil_iff, List.filterMap_eq_nil_iff, and_assoc]
  have hm : manyQ s f.places = [] ↔ (placesQ s < f.places.length → s.any (kIs 2) = true) := by
    unfold manyQ
    split
    · rename_i h
      simp only [Bool.and_eq_true, decide_eq_true_eq, Bool.not_eq_true'] at h
      constructor
      · intro h0; cases h0
      · intro h0; rw [h0 h.1] at h; cases h.2
    · rename_i h
      simp only [true_iff]
      intro h0
      cases ha : s.any (kIs 2) with
      | true => rfl
      | false => exact absurd (by simp [h0, ha]) h
  rw [hm]

theorem give_given {s : Sig} {pl : List Int} {qs : List Pair} {i : Nat} {p : Param} (h : singleQ p = true) :
    (giveQ s pl qs i p).given = (byPl pl i p || (namedQ p && qs.any (nameIs p.name))) := by
  rw [single_kind] at h
  have hf : (qs.find? (nameIs p.name)).isSome = qs.any (nameIs p.name) := by
    cases ha : qs.any (nameIs p.name) with
    | true =>
      rw [List.find?_isSome]
      exact List.any_eq_true.1 ha
    | false =>
      cases hq : qs.find? (nameIs p.name) with
      | none => rfl
      | some q =>
        have h1 := List.mem_of_find?_eq_some hq
        have h2 := List.find?_some hq
        have : qs.any (nameIs p.name) = true := List.any_eq_true.2 ⟨q, h1, h2⟩
        rw [this] at ha; cases ha
  unfold giveQ
  rw [if_neg (by omega)]
  cases hb : byPl pl i p with
  | true =>
    simp only [Bool.not_true, Bool.and_false, Bool.true_or]
    unfold byPl at hb
    simp [place1, hb]
  | false =>
    cases hn : namedQ p with
    | true =>
      simp only [Bool.not_false, Bool.and_self, if_true, Bool.false_or, Bool.true_and]
      rw [← hf]
      cases qs.find? (nameIs p.name) <;> rfl
    | false =>
      simp only [Bool.false_and, Bool.false_or]
      unfold byPl at hb
      have h2 : (p.kind == 2) = false := by simp; omega
      simp [place1, hb, h2, zL]

/-- What is wrong with a name. -/
theorem wrong_iff {s : Sig} {pl : List Int} {q : Pair} : wrongQ s pl q = none ↔
    0 ≤ takesQ s q.name ∧ ∀ p, s[(takesQ s q.name).toNat]? = some p → p.kind ≠ 4 → byPl pl (takesQ s q.name).toNat p = false := by
  unfold wrongQ
  constructor
  · intro h
    split at h
    · cases h
    · rename_i h1
      refine ⟨by omega, fun p hp hk => ?_⟩
      rw [hp] at h
      simp only at h
      rw [if_neg hk] at h
      cases hb : byPl pl (takesQ s q.name).toNat p with
      | false => rfl
      | true => rw [if_pos hb] at h; cases h
  · rintro ⟨h1, h2⟩
    rw [if_neg (by omega)]
    cases hp : s[(takesQ s q.name).toNat]? with
    | none => rfl
    | some p =>
      simp only
      by_cases hk : p.kind = 4
      · rw [if_pos hk]
      · rw [if_neg hk, if_neg (by rw [h2 p hp hk]; simp)]

theorem name_inj {s : Sig} (hs : OkS s) {i j : Nat} {p q : Param} (hp : s[i]? = some p) (hq : s[j]? = some q) (h : p.name = q.name) : i = j := by
  refine (List.getElem?_inj (l := s.map Param.name) (by have := lt_of_some hp; simpa using this) hs.nodup).1 ?_
  rw [List.getElem?_map, List.getElem?_map, hp, hq]
  simp [h]

theorem any_names {qs : List Pair} {n : Str} : qs.any (nameIs n) = true ↔ n ∈ namesOf qs := by
  simp [namesOf, nameIs]

/-- Where a name goes. -/
def goesQ (s : Sig) (n : Str) : Prop := (∃ (i : Nat) (p : Param), s[i]? = some p ∧ namedQ p = true ∧ p.name = n) ∨ ∃ p ∈ s, p.kind = 4

theorem takes_goes {s : Sig} (hs : OkS s) {n : Str} : 0 ≤ takesQ s n ↔ goesQ s n := by
  constructor
  · intro h
    obtain ⟨p, hp, _, hk⟩ := takesQ_some (show ¬ takesQ s n < 0 by omega)
    rcases hk with ⟨h1, h2⟩ | h1
    · exact .inl ⟨_, p, hp, h1, h2⟩
    · exact .inr ⟨p, List.mem_of_getElem? hp, h1⟩
  · intro h
    by_cases hA : ∃ (i : Nat) (p : Param), s[i]? = some p ∧ namedQ p = true ∧ p.name = n
    · obtain ⟨i, p, hp, hn, rfl⟩ := hA
      rw [takes_named hs hp hn]; omega
    · rcases h with h | ⟨p, hp, hk⟩
      · exact absurd h hA
      · have h4 : takesQ s n = idxI (kIs 4) s 0 := by
          cases hf : s.find? (qIs n) with
          | none => simp [takesQ, hf]
          | some q =>
            cases hn : namedQ q with
            | false => simp [takesQ, hf, hn]
            | true =>
              have h1 := List.mem_of_find?_eq_some hf
              have h2 := List.find?_some hf
              obtain ⟨i, hi⟩ := List.getElem?_of_mem h1
              exact absurd ⟨i, q, hi, hn, by simpa [qIs] using h2⟩ hA
        rw [h4]
        exact idxI_ge.2 (List.any_eq_true.2 ⟨p, hp, by simpa [kIs] using hk⟩)

theorem wrong_iff2 {s : Sig} (hs : OkS s) {pl : List Int} {q : Pair} : wrongQ s pl q = none ↔
    goesQ s q.name ∧ ∀ (i : Nat) (p : Param), s[i]? = some p → namedQ p = true → p.name = q.name → byPl pl i p = false := by
  rw [wrong_iff, takes_goes hs]
  constructor
  · rintro ⟨h1, h2⟩
    refine ⟨h1, fun i p hp hn he => ?_⟩
    have ht := takes_named hs hp hn
    rw [he] at ht
    have := h2 p (by rw [ht]; simpa using hp) (by have := named_kind.1 hn; omega)
    rw [ht] at this
    simpa using this
  · rintro ⟨h1, h2⟩
    refine ⟨h1, fun p hp hk => ?_⟩
    obtain ⟨p', hp', _, hk'⟩ := takesQ_some (show ¬ takesQ s q.name < 0 by have := (takes_goes hs).2 h1; omega)
    rw [hp] at hp'
    cases hp'
    rcases hk' with ⟨h3, h4⟩ | h3
    · exact h2 _ p hp h3 h4
    · exact absurd h3 hk

theorem find_isSome {f : Flat} {n : Str} : (f.named.find? (nameIs n)).isSome = f.named.any (nameIs n) := by
  cases ha : f.named.any (nameIs n) with
  | true => rw [List.find?_isSome]; exact List.any_eq_true.1 ha
  | false =>
    cases hq : f.named.find? (nameIs n) with
    | none => rfl
    | some q =>
      have : f.named.any (nameIs n) = true := List.any_eq_true.2 ⟨q, List.mem_of_find?_eq_some hq, List.find?_some hq⟩
      rw [this] at ha; cases ha

theorem kindP_facts (b : Bool) (q : Param) : (kindP b q).name = q.name ∧ (kindP b q).kind = (if q.kind = 1 ∧ b = true then 3 else q.kind) ∧ (kindP b q).hasD = q.hasD ∧ namedQ (kindP b q) = namedQ q := by
  unfold kindP namedQ
  by_cases h1 : q.kind = 1
  · cases b <;> simp [h1]
  · simp [h1]

theorem giveP_facts (f : Flat) (q : Param) : (giveP f q).name = q.name ∧ (giveP f q).kind = q.kind ∧ (giveP f q).hasD = (q.hasD || (namedQ q && f.named.any (nameIs q.name))) := by
  unfold giveP
  rw [← find_isSome]
  cases hn : namedQ q with
  | false => simp
  | true =>
    simp only [if_true]
    cases f.named.find? (nameIs q.name) <;> simp

/-- What becomes of a parameter. -/
structure KeptQ (k : Int) (f : Flat) (i : Nat) (p p' : Param) : Prop where
  name : p'.name = p.name
  kind : p'.kind = if p.kind = 1 ∧ 0 ≤ k ∧ k ≤ i then 3 else p.kind
  hasD : p'.hasD = (p.hasD || (namedQ p && f.named.any (nameIs p.name)))
  place : ¬ (placedQ p = true ∧ i < f.places.length)
  rest : ¬ (p.kind = 2 ∧ 0 ≤ k)

theorem partParam_facts {k : Int} {f : Flat} {i : Nat} {p p' : Param} (h : partParam k f i p = some p') : KeptQ k f i p p' := by
  have hn := partParam_name h
  unfold partParam at h
  split at h
  · cases h
  · rename_i hs
    simp only [Option.some.injEq] at h
    obtain ⟨a1, a2, a3, a4⟩ := kindP_facts (decide (0 ≤ k) && decide (k ≤ i)) p
    obtain ⟨b1, b2, b3⟩ := giveP_facts f (kindP (decide (0 ≤ k) && decide (k ≤ i)) p)
    rw [h] at b1 b2 b3
    refine ⟨hn, ?_, ?_, ?_, ?_⟩
    · rw [b2, a2]; simp
    · rw [b3, a3, a4, a1]
    · rintro ⟨h1, h2⟩; exact hs (by simp [skipP, h1, h2])
    · rintro ⟨h1, h2⟩; exact hs (by simp [skipP, h1, h2])

theorem partParam_keep {k : Int} {f : Flat} {i : Nat} {p : Param} (h1 : ¬ (placedQ p = true ∧ i < f.places.length)) (h2 : ¬ (p.kind = 2 ∧ 0 ≤ k)) : ∃ p', partParam k f i p = some p' := by
  unfold partParam
  rw [if_neg]
  · exact ⟨_, rfl⟩
  · unfold skipP
    simp only [Bool.or_eq_true, Bool.and_eq_true, decide_eq_true_eq, beq_iff_eq]
    rintro (h | h)
    · exact h1 h
    · exact h2 h

theorem psL_split {k : Int} {f : Flat} {s : Sig} (i : Nat) : ∃ r, psL k f s = psL k f (s.take i) ++ r := by
  refine ⟨((s.drop i).zipIdx (0 + (s.take i).length)).filterMap (fun x => partParam k f x.2 x.1), ?_⟩
  conv => lhs; rw [← List.take_append_drop i s]
  unfold psL
  rw [List.zipIdx_append, List.filterMap_append]

/-- The facts of a partial call's signature. -/
structure PsFacts (s : Sig) (pf : Flat) : Prop where
  sig : OkS s
  flat : OkF pf
  out : OkS (psQ s pf)
  part : partQ s pf = true

theorem PsFacts.first {s : Sig} {pf : Flat} (h : PsFacts s pf) (h0 : 0 ≤ atQ s pf) : ∃ (n : Nat) (y : Param), atQ s pf = n ∧ s[n]? = some y ∧ y.kind = 1 ∧ pf.named.any (nameIs y.name) = true ∧ pf.places.length ≤ n := by
  obtain ⟨y, _, hy, hyp, hlt⟩ := idxI_find h0
  have hk := hyp
  simp only [atP, Bool.and_eq_true, beq_iff_eq] at hk
  refine ⟨(atQ s pf).toNat, y, by omega, hy, hk.1, hk.2, ?_⟩
  refine Classical.byContradiction fun hc => ?_
  have := np_at h.part hy (placed_kind.2 (.inr hk.1)) (by unfold atQ at hc; omega)
  rw [hyp] at this; cases this

theorem PsFacts.from {s : Sig} {pf : Flat} (h : PsFacts s pf) {i : Nat} {p : Param} (hp : s[i]? = some p) (hk : p.kind = 1) (hn : pf.named.any (nameIs p.name) = true) : 0 ≤ atQ s pf ∧ atQ s pf ≤ i := by
  have := idxI_le (k := 0) (pred := atP pf) hp (by simp [atP, hk, hn])
  unfold atQ; omega

theorem PsFacts.kinds {s : Sig} {pf : Flat} (h : PsFacts s pf) {i : Nat} {p : Param} (hp : s[i]? = some p) (h0 : 0 ≤ atQ s pf) (h1 : atQ s pf ≤ i) (hk : placedQ p = true) : p.kind = 1 := by
  obtain ⟨n, y, hn, hy, hyk, _, _⟩ := h.first h0
  have := h.sig.sorted (i - n) n y p hy (by rw [show n + (i - n) = i by omega]; exact hp)
  rw [placed_kind] at hk; omega

theorem KeptQ.placed {s : Sig} {pf : Flat} (h : PsFacts s pf) {i : Nat} {p p' : Param} (hp : s[i]? = some p) (hk : KeptQ (atQ s pf) pf i p p') : placedQ p' = true ↔ placedQ p = true ∧ ¬ (0 ≤ atQ s pf ∧ atQ s pf ≤ i) := by
  have h1 := hk.kind
  constructor
  · intro h2
    rw [placed_kind] at h2
    split at h1
    · omega
    · rename_i h3
      have hpp : placedQ p = true := placed_kind.2 (by omega)
      refine ⟨hpp, fun h4 => h3 ⟨h.kinds hp h4.1 h4.2 hpp, h4⟩⟩
  · rintro ⟨h2, h3⟩
    rw [placed_kind] at h2 ⊢
    rw [if_neg (fun h4 => h3 h4.2)] at h1
    omega

theorem KeptQ.named {k : Int} {pf : Flat} {i : Nat} {p p' : Param} (hk : KeptQ k pf i p p') : namedQ p' = namedQ p := by
  have h1 := hk.kind
  have : namedQ p' = true ↔ namedQ p = true := by
    rw [named_kind, named_kind]
    split at h1 <;> omega
  cases h : namedQ p with
  | true => exact this.2 h
  | false =>
    cases h' : namedQ p' with
    | false => rfl
    | true => rw [this.1 h'] at h; cases h

theorem PsFacts.len {s : Sig} {pf : Flat} (h : PsFacts s pf) : ∀ (i : Nat), i ≤ placesQ s → (psL (atQ s pf) pf (s.take i)).length = i - pf.places.length
  | 0, _ => by simp [psL]
  | i + 1, hi => by
    have hP := placesQ_le s
    obtain ⟨p, hp⟩ := at_some (xs := s) (i := i) (by omega)
    have hpl := (h.sig.placed_iff hp).2 (by omega)
    rw [psL_succ hp, List.length_append, PsFacts.len h i (by omega)]
    by_cases hia : i < pf.places.length
    · have : partParam (atQ s pf) pf i p = none := by simp [partParam, skipP, hpl, hia]
      rw [this]; simp; omega
    · obtain ⟨p', hp'⟩ := partParam_keep (k := atQ s pf) (f := pf) (i := i) (p := p) (by omega) (by rw [placed_kind] at hpl; omega)
      rw [hp']; simp; omega

/-- Where a parameter goes. -/
theorem PsFacts.to {s : Sig} {pf : Flat} (h : PsFacts s pf) {i : Nat} {p : Param} (hp : s[i]? = some p) (h1 : ¬ (placedQ p = true ∧ i < pf.places.length)) (h2 : ¬ (p.kind = 2 ∧ 0 ≤ atQ s pf)) :
    ∃ (j : Nat) (p' : Param), (psQ s pf)[j]? = some p' ∧ KeptQ (atQ s pf) pf i p p' ∧ (placedQ p' = true → j + pf.places.length = i) := by
  obtain ⟨p', hp'⟩ := partParam_keep (f := pf) h1 h2
  have hk := partParam_facts hp'
  obtain ⟨r, hr⟩ := psL_split (k := atQ s pf) (f := pf) (s := s) (i + 1)
  rw [psL_succ hp, hp'] at hr
  refine ⟨(psL (atQ s pf) pf (s.take i)).length, p', ?_, hk, fun hpl => ?_⟩
  · unfold psQ
    rw [hr, List.append_assoc, List.getElem?_append_right (by omega)]
    simp
  · have hpp := ((hk.placed h hp).1 hpl).1
    have hi := (h.sig.placed_iff hp).1 hpp
    rw [h.len i (by omega)]
    have := hk.place
    have : ¬ i < pf.places.length := fun h0 => this ⟨hpp, h0⟩
    omega

/-- Where a parameter comes from. -/
theorem PsFacts.of {s : Sig} {pf : Flat} (h : PsFacts s pf) {j : Nat} {p' : Param} (hp : (psQ s pf)[j]? = some p') :
    ∃ (i : Nat) (p : Param), s[i]? = some p ∧ KeptQ (atQ s pf) pf i p p' ∧ (placedQ p' = true → j + pf.places.length = i) := by
  have hm := List.mem_of_getElem? hp
  unfold psQ psL at hm
  rw [List.mem_filterMap] at hm
  obtain ⟨⟨p, i⟩, hq, hr⟩ := hm
  rw [List.mem_zipIdx_iff_getElem?] at hq
  have hk := partParam_facts hr
  obtain ⟨j', p2, hj', hk', hpos⟩ := h.to hq hk.place hk.rest
  have hjj := name_inj h.out hp hj' (by rw [hk.name, hk'.name])
  subst hjj
  rw [hp] at hj'
  cases hj'
  exact ⟨i, p, hq, hk, hpos⟩

section

variable {s : Sig} {pf f : Flat}

end

def stepN (xs : List Str) (i : Nat) : Bool := match xs[i]? with
  | some n => okName n && (i == 0 || (match xs[i - 1]? with
    | some m => ltS m n
    | none => false))
  | none => true

def okNs (xs : List Str) : Bool := (List.range xs.length).all (stepN xs)

def okX (x : Shp) : Bool := okNs x.names && inR x.count 0 8 && decide (x.names.length ≤ 8)

theorem okNs_all {xs : List Str} : okNs xs = true ↔ ∀ i, i < xs.length → stepN xs i = true := by
  simp [okNs, List.all_eq_true, List.mem_range]

theorem okNs_iff {xs : List Str} : okNs xs = true ↔ (∀ n ∈ xs, okName n = true) ∧ xs.Pairwise (fun a b => ltS a b = true) := by
  rw [okNs_all]
  constructor
  · intro h
    refine ⟨fun n hn => ?_, ?_⟩
    · obtain ⟨i, hi⟩ := List.getElem?_of_mem hn
      have := h i (lt_of_some hi)
      unfold stepN at this
      rw [hi] at this
      simp only [Bool.and_eq_true] at this
      exact this.1
    · rw [List.pairwise_iff_getElem]
      have key : ∀ (d i : Nat) (hi : i < xs.length) (hj : i + (d + 1) < xs.length), ltS xs[i] xs[i + (d + 1)] = true := by
        intro d
        induction d with
        | zero =>
          intro i hi hj
          have := h (i + 1) hj
          unfold stepN at this
          rw [List.getElem?_eq_getElem hj] at this
          simp only [Nat.add_sub_cancel, List.getElem?_eq_getElem hi, Bool.and_eq_true] at this
          simpa using this.2
        | succ d ih =>
          intro i hi hj
          have h1 := ih i hi (by omega)
          have := h (i + (d + 1) + 1) (by omega)
          unfold stepN at this
          rw [List.getElem?_eq_getElem (by omega)] at this
          simp only [Nat.add_sub_cancel, List.getElem?_eq_getElem (show i + (d + 1) < xs.length by omega), Bool.and_eq_true] at this
          have h2 := this.2
          simp only [Bool.or_eq_true, beq_iff_eq] at h2
          rcases h2 with h2 | h2
          · omega
          · exact ltS_trans h1 h2
      intro i j hi hj hij
      obtain ⟨d, rfl⟩ : ∃ d, j = i + (d + 1) := ⟨j - i - 1, by omega⟩
      exact key d i hi hj
  · rintro ⟨h1, h2⟩ i hi
    rw [List.pairwise_iff_getElem] at h2
    unfold stepN
    rw [List.getElem?_eq_getElem hi]
    simp only [Bool.and_eq_true]
    refine ⟨h1 _ (List.getElem_mem hi), ?_⟩
    cases i with
    | zero => rfl
    | succ i =>
      rw [Nat.add_sub_cancel, List.getElem?_eq_getElem (by omega)]
      simp only [Bool.or_eq_true]
      exact .inr (h2 i (i + 1) (by omega) hi (by omega))

theorem OkS.okName {s : Sig} (h : OkS s) {p : Param} (hp : p ∈ s) : okName p.name = true := by
  have := h.params p hp
  simp only [okQ, Bool.and_eq_true] at this
  exact this.1.1.1.1

def hd0 (xs : List Int) : Int := xs.headD 0

def stU (st : Flat × Bool) (px : Param × Slot) : Flat × Bool :=
  if px.1.kind = 2 then (⟨st.1.places ++ px.2.list, st.1.named⟩, st.2)
  else if px.1.kind = 4 then (⟨st.1.places, st.1.named ++ px.2.pairs⟩, st.2)
  else if px.2.given = false then (st.1, st.2 && !placedQ px.1)
  else if placedQ px.1 && st.2 then (⟨st.1.places ++ [hd0 px.2.list], st.1.named⟩, st.2)
  else (⟨st.1.places, st.1.named ++ [⟨px.1.name, hd0 px.2.list⟩]⟩, st.2)

def unbQ (s : Sig) (b : Bnds) : Flat := ((s.zip b).foldl stU (zF, true)).1

structure LenX (x : Shp) : Prop where
  len : x.names.length ≤ 1048576
  names : ∀ n ∈ x.names, n.length ≤ 9223372036854775807

theorem stepN_all {xs : List Str} {i : Nat} {n : Str} (hn : xs[i]? = some n) (hall : ∀ j, j < i → stepN xs j = true) (h : stepN xs i = true) : ∀ j, j < i + 1 → stepN xs j = true := fun j hj => by
  by_cases hji : j = i
  · subst hji; exact h
  · exact hall j (by omega)

theorem okX_no {x : Shp} {i : Nat} (hi : i < x.names.length) (h : stepN x.names i = false) : okX x = false := by
  have : okNs x.names = false := by
    cases ho : okNs x.names with
    | false => rfl
    | true => rw [okNs_all.1 ho i hi] at h; cases h
  simp [okX, this]

theorem ivalidShape_ct (x : Shp) (hx : LenX x) : ACalls pk 22 [.agg (eX x)] [] (fun r o => r = .one (.bool (okX x)) ∧ o = []) := by
  have hl := hx.len
  refine acalls_of_body Tryd.func22 rfl (by kernel_rfl) rfl ?_
  refine rn rfl ?_
  refine goal_loop_keep (fun m σ => ∃ (q L : Int) (i : Nat), q = i ∧ L = x.names.length ∧ i ≤ x.names.length ∧ m = x.names.length - i ∧ (∀ j, j < i → stepN x.names j = true) ∧
      σ = ⟨[(8, .one (.int .i64 q)), (7, .one (.int .i64 L)), (6, .one (.fs (x.names.map eS))), (1, .one (.op 0 0 0))], [some ⟨2, [eX x], false, false, true⟩], []⟩) x.names.length [8, 7, 6, 1] [0] rfl
    ⟨_, _, 0, rfl, by simp, by omega, by omega, fun j hj => by omega, rfl⟩ ?_
  rintro m σ ⟨q, L, i, rfl, rfl, hi, rfl, hall, rfl⟩
  refine rn rfl ?_
  refine goal_cond rfl (fun h => ?_) (fun h => ?_) <;> (try simp only [gt_iff_lt, ge_iff_le, bne_iff_ne, ne_eq, bne_eq_false_iff_eq, beq_iff_eq, beq_eq_false_iff_ne, Bool.not_eq_true', Bool.not_eq_false', decide_eq_true_eq, decide_eq_false_iff_not, List.length_map] at h)
  · obtain ⟨n, hn⟩ := at_some (xs := x.names) (i := i) (by omega)
    refine rn rfl ?_
    refine goal_did rfl rfl (dA_index (eS n) rfl rfl rfl rfl rfl rfl rfl (by omega) (by (try simp); omega) (map_at (by simpa using hn)) rfl) ?_
    refine rn rfl ?_
    refine goal_step (step_call [] rfl rfl rfl rfl rfl rfl (isName_ct n (hx.names n (List.mem_of_getElem? hn)))) ?_
    rintro σ2 ⟨r, o', ⟨rfl, rfl⟩, hσ⟩
    obtain rfl := Option.some.inj hσ
    clear hσ
    refine rn rfl ?_
    refine goal_guard rfl rfl rfl (fun h1 => ?_) (fun h1 => ?_) <;> (try simp only [gt_iff_lt, ge_iff_le, bne_iff_ne, ne_eq, bne_eq_false_iff_eq, beq_iff_eq, beq_eq_false_iff_ne, Bool.not_eq_true', Bool.not_eq_false', decide_eq_true_eq, decide_eq_false_iff_not, List.length_map] at h1)
    · refine rn rfl (round_ret (fin_is [] rfl ⟨?_, rfl⟩))
      rw [okX_no (lt_of_some hn)]
      simp [stepN, hn, h1]
    · refine rn rfl ?_
      refine goal_guard rfl rfl rfl (fun h2 => ?_) (fun h2 => ?_) <;> (try simp only [gt_iff_lt, ge_iff_le, bne_iff_ne, ne_eq, bne_eq_false_iff_eq, beq_iff_eq, beq_eq_false_iff_ne, Bool.not_eq_true', Bool.not_eq_false', decide_eq_true_eq, decide_eq_false_iff_not, List.length_map] at h2)
      · obtain ⟨k, rfl⟩ : ∃ k, i = k + 1 := ⟨i - 1, by omega⟩
        obtain ⟨l, hl'⟩ := at_some (xs := x.names) (i := k) (by omega)
        have hw : IntKind.i64.wrap (((k + 1 : Nat) : Int) - 1) = (k : Int) := by rw [wrap64 (by omega) (by omega)]; omega
        refine rn rfl ?_
        rw [hw]
        refine goal_did rfl rfl (dA_index (eS l) rfl rfl rfl rfl rfl rfl rfl (by omega) (by (try simp); omega) (map_at (by simpa using hl')) rfl) ?_
        refine rn rfl ?_
        refine goal_cond rfl (fun h3 => ?_) (fun h3 => ?_)
        · refine rn rfl (round_ret (fin_is [] rfl ⟨?_, rfl⟩))
          have h3' : ltS l n = false := by simpa [ltS] using h3
          rw [okX_no (lt_of_some hn)]
          simp [stepN, hn, hl', h3']
        · have h3' : ltS l n = true := by simpa [ltS] using h3
          refine rn rfl ?_
          refine round_keep (x.names.length - (k + 1 + 1)) [8, 7, 6, 1] [0] (by omega) rfl ⟨_, _, k + 1 + 1, wrap64 (by omega) (by omega), rfl, by omega, rfl, stepN_all hn hall (by simp [stepN, hn, hl', h1, h3']), rfl⟩
      · refine rn rfl ?_
        refine round_keep (x.names.length - (i + 1)) [8, 7, 6, 1] [0] (by omega) rfl ⟨_, _, i + 1, wrap64 (by omega) (by omega), rfl, by omega, rfl, stepN_all hn hall ?_, rfl⟩
        have : i = 0 := by omega
        subst this
        simp [stepN, hn, h1]
  · refine rn rfl (round_ext ?_)
    have hok : okNs x.names = true := okNs_all.2 fun j hj => hall j (by omega)
    refine rn rfl ?_
    refine goal_step (step_call [] rfl rfl rfl rfl rfl rfl (iin_ct x.count 0 8)) ?_
    rintro σ2 ⟨r, o', ⟨rfl, rfl⟩, hσ⟩
    obtain rfl := Option.some.inj hσ
    clear hσ
    refine rn rfl ?_
    refine goal_guard rfl rfl rfl (fun h1 => ?_) (fun h1 => ?_) <;> (try simp only [gt_iff_lt, ge_iff_le, bne_iff_ne, ne_eq, bne_eq_false_iff_eq, beq_iff_eq, beq_eq_false_iff_ne, Bool.not_eq_true', Bool.not_eq_false', decide_eq_true_eq, decide_eq_false_iff_not, List.length_map] at h1)
    · refine rn rfl (fin_is [] rfl ⟨?_, rfl⟩)
      simp [okX, hok, h1]; omega
    · refine rn rfl (fin_is [] rfl ⟨?_, rfl⟩)
      simp [okX, hok, h1]

section

variable {X : Pk} {N np : Nat} {K : KP} {σ : State}

end

theorem equalTexts_ct (xs ys : List Str) (hx : xs.length ≤ 9223372036854775807) :
    ACalls pk 47 [.one (.fs (xs.map eS)), .one (.fs (ys.map eS))] [] (fun r o => r = .one (.bool (decide (xs = ys))) ∧ o = []) := by
  refine acalls_of_body Tryd.func47 rfl (by kernel_rfl) rfl ?_
  refine rn rfl ?_
  refine goal_cond rfl (fun h => ?_) (fun h => ?_) <;> (try simp only [gt_iff_lt, ge_iff_le, bne_iff_ne, ne_eq, bne_eq_false_iff_eq, beq_iff_eq, beq_eq_false_iff_ne, Bool.not_eq_true', Bool.not_eq_false', decide_eq_true_eq, decide_eq_false_iff_not, List.length_map] at h)
  · refine rn rfl (fin_is [] rfl ⟨?_, rfl⟩)
    have : xs ≠ ys := fun h0 => h (by rw [h0])
    simp [this]
  · have hlen : xs.length = ys.length := by omega
    refine rn rfl ?_
    refine goal_loop_keep (fun m σ => ∃ (n : Int) (i : Nat), n = i ∧ i ≤ xs.length ∧ m = xs.length - i ∧ xs.take i = ys.take i ∧
        σ = ⟨[(5, .one (.int .i64 n)), (1, .one (.fs (ys.map eS))), (0, .one (.fs (xs.map eS)))], [], []⟩) xs.length [5, 1, 0] [] rfl
      ⟨_, 0, rfl, by omega, by omega, rfl, rfl⟩ ?_
    rintro m σ ⟨n, i, rfl, hi, rfl, hpre, rfl⟩
    refine rn rfl ?_
    refine goal_cond rfl (fun h => ?_) (fun h => ?_) <;> (try simp only [gt_iff_lt, ge_iff_le, bne_iff_ne, ne_eq, bne_eq_false_iff_eq, beq_iff_eq, beq_eq_false_iff_ne, Bool.not_eq_true', Bool.not_eq_false', decide_eq_true_eq, decide_eq_false_iff_not, List.length_map] at h)
    · obtain ⟨x, hxi⟩ := at_some (xs := xs) (i := i) (by omega)
      obtain ⟨y, hyi⟩ := at_some (xs := ys) (i := i) (by omega)
      refine rn rfl ?_
      refine goal_draw' [] 9 rfl ?_
      refine drn [0, 1, 4, 5] (by kernel_rfl) (by kernel_rfl) rfl rfl ?_
      refine AH_did 2 rfl (by kernel_rfl) (by kernel_rfl) (by kernel_rfl) rfl rfl (dA_index (eS x) rfl rfl rfl rfl rfl rfl rfl (by omega) (by (try simp); omega) (map_at (by simpa using hxi)) rfl) ?_
      refine AH_did 6 rfl (by kernel_rfl) (by kernel_rfl) (by kernel_rfl) rfl rfl (dA_index (eS y) rfl rfl rfl rfl rfl rfl rfl (by omega) (by (try simp); omega) (map_at (by simpa using hyi)) rfl) ?_
      refine drn [3, 7, 8] (by kernel_rfl) (by kernel_rfl) rfl rfl ?_
      refine AH_end (by kernel_rfl) ?_
      refine rn rfl ?_
      have hstep := take_eq_step hpre hxi hyi
      refine goal_cond rfl (fun h2 => ?_) (fun h2 => ?_) <;> simp only [bne_iff_ne, ne_eq, bne_eq_false_iff_eq, Bool.not_eq_true', Bool.not_eq_false', decide_eq_true_eq, decide_eq_false_iff_not, beq_iff_eq, beq_eq_false_iff_ne] at h2
      · refine rn rfl ?_
        refine round_ret (fin_is [] rfl ⟨?_, rfl⟩)
        have : xs ≠ ys := fun h0 => h2 (hstep.1 (by rw [h0]))
        simp [this]
      · refine rn rfl ?_
        refine round_keep (xs.length - (i + 1)) [5, 1, 0] [] (by omega) rfl ⟨_, i + 1, ?_, by omega, rfl, hstep.2 h2, rfl⟩
        exact wrap64 (by omega) (by omega)
    · refine rn rfl ?_
      refine round_ext ?_
      refine rn rfl (fin_is [] rfl ⟨?_, rfl⟩)
      rw [show i = xs.length by omega, List.take_length, hlen, List.take_length] at hpre
      simp [hpre]

theorem equalShape_ct (x : Shp) (hx : x.names.length ≤ 16777216) : ACalls pk 20 [.agg (eX x), .agg (eX x)] [] (fun r o => r = .one (.bool true) ∧ o = []) := by
  refine acalls_of_body Tryd.func20 rfl (by kernel_rfl) rfl ?_
  refine rn rfl ?_
  refine goal_guard rfl rfl rfl (fun _ => ?_) (fun h => by simp at h)
  refine rn rfl ?_
  refine goal_step (step_call [] rfl rfl rfl rfl rfl rfl (equalTexts_ct x.names x.names (by omega))) ?_
  rintro σ2 ⟨r, o', ⟨rfl, rfl⟩, hσ⟩
  obtain rfl := Option.some.inj hσ
  clear hσ
  refine rn rfl ?_
  refine rn rfl (fin_is [] rfl ⟨?_, rfl⟩)
  simp

def SS (xs : List Str) : Prop := xs.Pairwise (fun a b => ltS a b = true)

theorem SS.nodup {xs : List Str} (h : SS xs) : xs.Nodup := List.Pairwise.imp (fun hab he => by rw [he, ltS_irrefl] at hab; cases hab) h

theorem SS.ext {a b : List Str} (ha : SS a) (hb : SS b) (h : ∀ x, x ∈ a ↔ x ∈ b) : a = b := by
  refine List.Perm.eq_of_pairwise (le := fun x y => ltS x y = true) ?_ ha hb ((List.perm_ext_iff_of_nodup ha.nodup hb.nodup).2 h)
  intro x y _ _ h1 h2
  rw [ltS_asymm h1] at h2; cases h2

theorem growS_ct (n : Nat) (hn : n ≤ 4194304) : ACalls pk 75 [.one nilSl, .one (.int .i64 n)] [] (fun r o => ∃ rows kc, r = .one (.os 0 0 0 kc) ∧ o = [some ⟨1, rows, true, false, false⟩] ∧ (n = 0 → rows = [] ∧ kc = 0)) := by
  have hw : IntKind.i64.wrap ((n : Int) - IntKind.i64.wrap (0 - 0)) = n := by rw [show IntKind.i64.wrap (0 - 0) = 0 from rfl, wrap64] <;> omega
  refine acalls_of_body Tryd.func75 rfl (by kernel_rfl) rfl ?_
  refine rn rfl ?_
  refine goal_cond rfl (fun h => ?_) (fun h => ?_) <;> (try simp only [gt_iff_lt, ge_iff_le, bne_iff_ne, ne_eq, bne_eq_false_iff_eq, beq_iff_eq, beq_eq_false_iff_ne, Bool.not_eq_true', Bool.not_eq_false', decide_eq_true_eq, decide_eq_false_iff_not, List.length_map] at h)
  · omega
  · refine rn rfl ?_
    refine goal_did rfl rfl (dA_capNil rfl rfl rfl rfl rfl) ?_
    refine rn rfl ?_
    rw [hw]
    refine goal_cond rfl (fun h2 => ?_) (fun h2 => ?_) <;> (try simp only [gt_iff_lt, ge_iff_le, bne_iff_ne, ne_eq, bne_eq_false_iff_eq, beq_iff_eq, beq_eq_false_iff_ne, Bool.not_eq_true', Bool.not_eq_false', decide_eq_true_eq, decide_eq_false_iff_not, List.length_map] at h2)
    · refine rn rfl ?_
      refine goal_did rfl rfl (dA_capNil rfl rfl rfl rfl rfl) ?_
      refine rn rfl ?_
      refine goal_did rfl rfl (dA_sliceNil rfl rfl rfl rfl rfl rfl rfl) ?_
      refine rn rfl ?_
      refine goal_did rfl rfl (dA_growMake n (List.replicate n (eS ([] : Str))) rfl rfl rfl (by omega) rfl rfl rfl rfl rfl rfl rfl rfl (by show n * 16 ≤ _; omega) (by omega) rfl) ?_
      refine rn rfl ?_
      refine goal_did rfl rfl (dA_sliceOwn 0 0 n 0 0 n rfl rfl rfl rfl rfl rfl rfl Bnd.none_ (Bnd.some_ rfl rfl) (.inl ⟨rfl, rfl⟩) (by omega) (by omega) (by omega) (by simp) rfl rfl rfl rfl) ?_
      refine rn rfl ?_
      exact fin_is [0] rfl ⟨_, _, rfl, rfl, fun h0 => by omega⟩
    · refine rn rfl ?_
      exact fin_adopt 4 0 1 [0] rfl ⟨_, _, rfl, rfl, fun _ => ⟨rfl, rfl⟩⟩

theorem concatS_ct (xss : List (List Str)) (hn : xss.length ≤ 1000) (hl : xss.flatten.length ≤ 4194304) :
    ACalls pk 44 [.one (.fs (xss.map fun xs => [.fs (xs.map eS)]))] [] (fun r o => r = .one (.os 0 0 xss.flatten.length xss.flatten.length) ∧ o = [ownS xss.flatten]) := by
  have hpre : ∀ i, (xss.take i).flatten.length ≤ xss.flatten.length := fun i => by
    conv => rhs; rw [← List.take_append_drop i xss, List.flatten_append, List.length_append]
    omega
  have hsucc : ∀ (i : Nat) (xs : List Str), xss[i]? = some xs → (xss.take (i + 1)).flatten = (xss.take i).flatten ++ xs := fun i xs h => by
    rw [← take_snoc' h, List.flatten_append]; simp
  refine acalls_of_body Tryd.func44 rfl (by kernel_rfl) rfl ?_
  refine rn rfl ?_
  refine goal_loop_keep (fun m σ => ∃ (n L q : Int) (i : Nat), n = i ∧ L = xss.length ∧ i ≤ xss.length ∧ m = xss.length - i ∧ q = ((xss.take i).flatten.length : Nat) ∧
      σ = ⟨[(11, .one (.int .i64 n)), (10, .one (.int .i64 L)), (9, .one (.fs (xss.map fun xs => [.fs (xs.map eS)]))), (3, .one (.int .i64 q)), (0, .one (.fs (xss.map fun xs => [.fs (xs.map eS)])))], [], []⟩) xss.length [11, 10, 9, 3, 0] [] rfl
    ⟨_, _, _, 0, rfl, by simp, by omega, by omega, rfl, rfl⟩ ?_
  rintro m σ ⟨n, L, q, i, rfl, rfl, hi, rfl, rfl, rfl⟩
  refine rn rfl ?_
  refine goal_cond rfl (fun h => ?_) (fun h => ?_) <;> (try simp only [gt_iff_lt, ge_iff_le, bne_iff_ne, ne_eq, bne_eq_false_iff_eq, beq_iff_eq, beq_eq_false_iff_ne, Bool.not_eq_true', Bool.not_eq_false', decide_eq_true_eq, decide_eq_false_iff_not, List.length_map] at h)
  · obtain ⟨xs, hxs⟩ := at_some (xs := xss) (i := i) (by omega)
    have h1 := hpre (i + 1)
    have h2 := hsucc i xs hxs
    rw [h2, List.length_append] at h1
    have hw : IntKind.i64.wrap (((xss.take i).flatten.length : Nat) + (xs.length : Int)) = (((xss.take i).flatten ++ xs).length : Nat) := by rw [List.length_append, wrap64] <;> omega
    refine rn rfl ?_
    refine goal_did rfl rfl (dA_index [.fs (xs.map eS)] rfl rfl rfl rfl rfl rfl rfl (by omega) (by simp; omega) (map_at (enc := fun xs : List Str => [C.fs (xs.map eS)]) (by simpa using hxs)) rfl) ?_
    refine rn rfl ?_
    refine goal_cond rfl (fun h0 => ?_) (fun _ => ?_)
    · simp only [List.length_map, decide_eq_true_eq] at h0; rw [hw] at h0; omega
    · refine rn rfl ?_
      refine round_keep (xss.length - (i + 1)) [11, 10, 9, 3, 0] [] (by omega) rfl ⟨_, _, _, i + 1, wrap64 (by omega) (by omega), rfl, by omega, rfl, ?_, rfl⟩
      rw [List.length_map, hw, h2]
  · rw [show i = xss.length by omega, List.take_length]
    refine rn rfl ?_
    refine round_ext ?_
    refine rn rfl ?_
    refine goal_step (step_callRaw rfl rfl rfl rfl rfl rfl (growS_ct xss.flatten.length hl)) ?_
    rintro σ2 ⟨r, o', ⟨rows0, kc0, rfl, rfl, hz⟩, hσ⟩
    obtain rfl := Option.some.inj hσ
    clear hσ
    refine rn rfl ?_
    refine goal_loop_keep (fun m σ => ∃ (n L : Int) (i l kc : Nat) (rows : List (List C)), n = i ∧ L = xss.length ∧ i ≤ xss.length ∧ m = xss.length - i ∧ l = (xss.take i).flatten.length ∧ ((rows = (xss.take i).flatten.map eS ∧ kc = l) ∨ (i = 0 ∧ rows = rows0 ∧ kc = kc0)) ∧
        σ = ⟨[(27, .one (.int .i64 n)), (26, .one (.int .i64 L)), (25, .one (.fs (xss.map fun xs => [.fs (xs.map eS)]))), (6, .one (.os 0 0 l kc))], [some ⟨1, rows, true, false, false⟩], []⟩) xss.length [27, 26, 25, 6] [0] rfl
      ⟨_, ((xss.map fun xs => [C.fs (xs.map eS)]).length : Int), 0, 0, kc0, rows0, rfl, by simp, by omega, by omega, rfl, .inr ⟨rfl, rfl, rfl⟩, rfl⟩ ?_
    rintro m σ ⟨n, L, i, l, kc, rows, rfl, rfl, hi, rfl, rfl, hrows, rfl⟩
    have hold : (xss.take i).flatten.map eS = rows.take (xss.take i).flatten.length := by
      rcases hrows with ⟨rfl, _⟩ | ⟨rfl, _, _⟩
      · exact (List.take_of_length_le (by rw [List.length_map]; exact Nat.le_refl _)).symm
      · simp
    have hle : (xss.take i).flatten.length ≤ rows.length := by
      have := congrArg List.length hold
      simp only [List.length_map, List.length_take] at this; omega
    refine rn rfl ?_
    refine goal_cond rfl (fun h => ?_) (fun h => ?_) <;> (try simp only [gt_iff_lt, ge_iff_le, bne_iff_ne, ne_eq, bne_eq_false_iff_eq, beq_iff_eq, beq_eq_false_iff_ne, Bool.not_eq_true', Bool.not_eq_false', decide_eq_true_eq, decide_eq_false_iff_not, List.length_map] at h)
    · obtain ⟨xs, hxs⟩ := at_some (xs := xss) (i := i) (by omega)
      have h1 := hpre (i + 1)
      have h2 := hsucc i xs hxs
      rw [h2, List.length_append] at h1
      refine rn rfl ?_
      refine goal_did rfl rfl (dA_index [.fs (xs.map eS)] rfl rfl rfl rfl rfl rfl rfl (by omega) (by simp; omega) (map_at (enc := fun xs : List Str => [C.fs (xs.map eS)]) (by simpa using hxs)) rfl) ?_
      refine rn rfl ?_
      refine goal_did rfl rfl (dA_append (old := (xss.take i).flatten.map eS) (rows := xs.map eS) (((xss.take i).flatten ++ xs).map eS) (((xss.take i).flatten ++ xs).length) true (Dst.own rfl rfl rfl rfl rfl hle hold) (Src.fs rfl) rfl rfl rfl rfl rfl rfl rfl rfl (rows_len eS_len _) (rows_len eS_len _) (by simp only [List.length_map]; show _ * 16 ≤ _; omega) (by simp only [List.length_map]; omega) (by rw [List.map_append]) (by rw [List.length_map]) (fun _ => noOwnR_map _ eS_noOwn _)) ?_
      refine rn rfl ?_
      refine round_keep (xss.length - (i + 1)) [27, 26, 25, 6] [1] (by omega) rfl ⟨_, _, i + 1, ((xss.take i).flatten ++ xs).length, ((xss.take i).flatten ++ xs).length, ((xss.take i).flatten ++ xs).map eS, wrap64 (by omega) (by omega), rfl, by omega, rfl, by rw [h2], .inl ⟨by rw [h2], rfl⟩, rfl⟩
    · rw [show i = xss.length by omega, List.take_length] at hrows hold ⊢
      refine rn rfl ?_
      refine round_ext ?_
      have hfin : rows = xss.flatten.map eS ∧ kc = xss.flatten.length := by
        rcases hrows with hr | ⟨h0, hr, hk⟩
        · exact hr
        · have hx : xss = [] := List.eq_nil_of_length_eq_zero (by omega)
          subst hx
          obtain ⟨q1, q2⟩ := hz rfl
          exact ⟨by rw [hr, q1]; rfl, by rw [hk, q2]; rfl⟩
      obtain ⟨rfl, rfl⟩ := hfin
      exact rn rfl (fin_is [0] rfl ⟨rfl, rfl⟩)

theorem give_one {s : Sig} {pl : List Int} {qs : List Pair} {i : Nat} {p : Param} (h : singleQ p = true) : ((giveQ s pl qs i p).given = true → ∃ v, (giveQ s pl qs i p).list = [v]) ∧ ((giveQ s pl qs i p).given = false → (giveQ s pl qs i p).list = []) ∧
    (p.kind = 0 → (giveQ s pl qs i p).given = decide (i < pl.length)) := by
  rw [single_kind] at h
  unfold giveQ
  rw [if_neg (by omega)]
  split
  · rename_i hn
    simp only [Bool.and_eq_true] at hn
    have hk := named_kind.1 hn.1
    split
    · exact ⟨fun _ => ⟨_, rfl⟩, (fun h0 => by cases h0), (fun h0 => by omega)⟩
    · exact ⟨(fun h0 => by cases h0), (fun _ => rfl), (fun h0 => by omega)⟩
  · unfold place1
    by_cases hb : (placedQ p && decide (i < pl.length)) = true
    · rw [if_pos hb]
      simp only [Bool.and_eq_true] at hb
      exact ⟨fun _ => ⟨_, rfl⟩, (fun h0 => by cases h0), fun _ => hb.2.symm⟩
    · rw [if_neg hb]
      have h2 : (p.kind == 2) = false := by simp; omega
      simp only [h2]
      refine ⟨(fun h0 => by cases h0), (fun _ => rfl), fun h0 => ?_⟩
      have hp : placedQ p = true := placed_kind.2 (.inl h0)
      rw [hp] at hb
      show false = _
      simpa using hb

theorem bound_at {s : Sig} {f : Flat} (hs : OkS s) (hf : OkF f) {i : Nat} {p : Param} {x : Slot} (hp : s[i]? = some p) (hx : (boundQ s f).1[i]? = some x) : x = giveQ s f.places f.named i p := by
  rw [bound_closed hs hf.nodup] at hx
  simp only [closedQ, List.getElem?_mapIdx, hp, Option.map_some, Option.some.injEq] at hx
  exact hx.symm

/-- What a call that is accepted gives to one parameter. -/
structure Given (s : Sig) (f : Flat) (b : Bnds) : Prop where
  sig : OkS s
  flat : OkF f
  acc : accQ s f = true
  eq : b = (boundQ s f).1

section

variable {s : Sig} {f : Flat} {b : Bnds}

theorem Given.len (h : Given s f b) : b.length = s.length := by rw [h.eq, boundQ_len]

theorem Given.at (h : Given s f b) {i : Nat} {p : Param} {x : Slot} (hp : s[i]? = some p) (hx : b[i]? = some x) : x = giveQ s f.places f.named i p := by
  rw [h.eq] at hx
  exact bound_at h.sig h.flat hp hx

theorem Given.get (h : Given s f b) {i : Nat} {p : Param} (hp : s[i]? = some p) : b[i]? = some (giveQ s f.places f.named i p) := by
  obtain ⟨x, hx⟩ := at_some (xs := b) (i := i) (by rw [h.len]; exact lt_of_some hp)
  rw [hx, h.at hp hx]

/-- A parameter that is found by its place alone has got a value only by its place; then all ahead of it have. -/
theorem Given.before (h : Given s f b) {i j : Nat} {p q : Param} (hp : s[i]? = some p) (hq : s[j]? = some q) (hk : p.kind = 0) (hji : j < i) (hg : (giveQ s f.places f.named i p).given = true) : (giveQ s f.places f.named j q).given = true := by
  have h1 := (give_one (s := s) (pl := f.places) (qs := f.named) (i := i) (single_kind.2 (.inl hk))).2.2 hk
  rw [hg] at h1
  have hlt : i < f.places.length := by simpa using h1.symm
  have hP := (h.sig.placed_iff hp).1 (placed_kind.2 (.inl hk))
  have hpl := (h.sig.placed_iff hq).2 (by omega)
  have hs : singleQ q = true := by rw [single_kind]; rw [placed_kind] at hpl; omega
  rw [give_given hs]
  have : byPl f.places j q = true := by simp [byPl, hpl]; omega
  rw [this]; rfl

/-- The walk of 'unbind', prefix by prefix. -/
structure UnbAt (s : Sig) (b : Bnds) (i : Nat) (F : Flat) (op : Bool) (V R : List Int) (X Y : List Pair) : Prop where
  places : F.places = V ++ R
  named : F.named = X ++ Y
  vlen : V.length ≤ min i (placesQ s)
  vals : ∀ (j : Nat) (x : Slot), j < V.length → b[j]? = some x → x.given = true ∧ V[j]? = some (hd0 x.list)
  opn : op = true → V.length = min i (placesQ s)
  shut : op = false → V.length < placesQ s ∧ V.length < i ∧ ∀ x, b[V.length]? = some x → x.given = false
  rest : ∀ (j : Nat) (p : Param) (x : Slot), j < i → s[j]? = some p → b[j]? = some x → p.kind = 2 → R = x.list
  rest0 : (∀ (j : Nat) (p : Param), j < i → s[j]? = some p → p.kind ≠ 2) → R = []
  map : ∀ (j : Nat) (p : Param) (x : Slot), j < i → s[j]? = some p → b[j]? = some x → p.kind = 4 → Y = x.pairs
  map0 : (∀ (j : Nat) (p : Param), j < i → s[j]? = some p → p.kind ≠ 4) → Y = []
  mem : ∀ q : Pair, q ∈ X ↔ ∃ (j : Nat) (p : Param) (x : Slot), j < i ∧ s[j]? = some p ∧ b[j]? = some x ∧ x.given = true ∧ (p.kind = 3 ∨ (p.kind = 1 ∧ V.length < j)) ∧ q = ⟨p.name, hd0 x.list⟩
  nodup : (namesOf X).Nodup

theorem Given.unbAt (h : Given s f b) : ∀ i, i ≤ s.length → ∃ F op V R X Y, ((s.zip b).take i).foldl stU (zF, true) = (F, op) ∧ UnbAt s b i F op V R X Y
  | 0, _ => ⟨zF, true, [], [], [], [], by simp, ⟨rfl, rfl, by simp, fun j x hj => by simp at hj, fun _ => by simp, (fun h0 => by cases h0), fun j p x hj => by omega, fun _ => rfl, fun j p x hj => by omega, fun _ => rfl, fun q => by
      constructor
      · intro h0; simp at h0
      · rintro ⟨j, p, x, hj, _⟩; omega, by simp [namesOf]⟩⟩
  | i + 1, hi => by
    obtain ⟨F, op, V, R, X, Y, hfold, I⟩ := Given.unbAt h i (by omega)
    obtain ⟨p, hp⟩ := at_some (xs := s) (i := i) (by omega)
    have hx := h.get hp
    generalize hxe : giveQ s f.places f.named i p = x at hx
    have hz : (s.zip b)[i]? = some (p, x) := List.getElem?_zip_eq_some.2 ⟨hp, hx⟩
    have hst : ((s.zip b).take (i + 1)).foldl stU (zF, true) = stU (F, op) (p, x) := by rw [foldl_take_succ _ _ hz, hfold]
    rw [hst]
    have hP := h.sig.placed_iff hp
    have hkr := h.sig.kindRange (List.mem_of_getElem? hp)
    have upto : ∀ (j : Nat) (q : Param), j < i + 1 → s[j]? = some q → j < i ∨ (j = i ∧ q = p) := fun j q hj hq => by
      by_cases hji : j = i
      · subst hji; rw [hp] at hq; cases hq; exact .inr ⟨rfl, rfl⟩
      · exact .inl (by omega)
    have xat : ∀ (j : Nat) (y : Slot), j = i → b[j]? = some y → y = x := fun j y hj hy => by subst hj; rw [hx] at hy; cases hy; rfl
    have before : ∀ (j : Nat) (q : Param), j < i → s[j]? = some q → q.kind ≤ p.kind := fun j q hj hq => h.sig.sorted (i - j) j q p hq (by rw [show j + (i - j) = i by omega]; exact hp)
    have notin : ∀ q ∈ X, q.name ≠ p.name := fun q hq he => by
      obtain ⟨j, r, y, hj, hr, _, _, _, rfl⟩ := (I.mem q).1 hq
      have := name_inj h.sig hr hp he
      omega
    have memStay : (x.given = true → ¬ (p.kind = 3 ∨ (p.kind = 1 ∧ V.length < i))) → ∀ (V' : List Int), V.length ≤ V'.length → (∀ j q, j < i → s[j]? = some q → q.kind = 1 → V.length < j → V'.length < j) → ∀ q : Pair, q ∈ X ↔ ∃ (j : Nat) (p : Param) (x : Slot), j < i + 1 ∧ s[j]? = some p ∧ b[j]? = some x ∧ x.given = true ∧ (p.kind = 3 ∨ (p.kind = 1 ∧ V'.length < j)) ∧ q = ⟨p.name, hd0 x.list⟩ := fun hno V' hV hV' q => by
      rw [I.mem q]
      constructor
      · rintro ⟨j, r, y, hj, hr, hy, hg, hk, rfl⟩
        refine ⟨j, r, y, by omega, hr, hy, hg, ?_, rfl⟩
        rcases hk with hk | ⟨hk, hl⟩
        · exact .inl hk
        · exact .inr ⟨hk, hV' j r hj hr hk hl⟩
      · rintro ⟨j, r, y, hj, hr, hy, hg, hk, rfl⟩
        rcases upto j r hj hr with hji | ⟨rfl, rfl⟩
        · refine ⟨j, r, y, hji, hr, hy, hg, ?_, rfl⟩
          rcases hk with hk | ⟨hk, hl⟩
          · exact .inl hk
          · exact .inr ⟨hk, by omega⟩
        · exfalso
          have := xat j y rfl hy
          subst this
          refine hno hg ?_
          rcases hk with hk | ⟨hk, hl⟩
          · exact .inl hk
          · exact .inr ⟨hk, by omega⟩
    by_cases hk2 : p.kind = 2
    · have hR : R = [] := I.rest0 fun j q hj hq hk => by
        have := h.sig.one hq hp (by omega) (by simp [singleQ, placedQ, hk2]); omega
      have hnp : ¬ i < placesQ s := fun h0 => by have := hP.2 h0; rw [placed_kind] at this; omega
      have hs' : stU (F, op) (p, x) = (⟨F.places ++ x.list, F.named⟩, op) := by simp [stU, hk2]
      rw [hs']
      refine ⟨_, op, V, x.list, X, Y, rfl, ⟨by rw [I.places, hR, List.append_nil], I.named, by have := I.vlen; omega, I.vals, fun h0 => by rw [I.opn h0]; omega, fun h0 => ?_, fun j q y hj hq hy hk => ?_, fun h0 => absurd hk2 (h0 i p (by omega) hp), fun j q y hj hq hy hk => ?_, fun h0 => I.map0 fun j q hj hq => h0 j q (by omega) hq, memStay (fun _ h0 => by omega) V (Nat.le_refl _) (fun j q _ _ _ hl => hl), I.nodup⟩⟩
      · obtain ⟨a1, a2, a3⟩ := I.shut h0
        exact ⟨a1, by omega, a3⟩
      · rcases upto j q hj hq with hji | ⟨rfl, rfl⟩
        · have := h.sig.one hq hp (by omega) (by simp [singleQ, placedQ, hk2]); omega
        · rw [xat j y rfl hy]
      · rcases upto j q hj hq with hji | ⟨rfl, rfl⟩
        · exact I.map j q y hji hq hy hk
        · omega
    by_cases hk4 : p.kind = 4
    · have hY : Y = [] := I.map0 fun j q hj hq hk => by
        have := h.sig.one hq hp (by omega) (by simp [singleQ, placedQ, hk4]); omega
      have hnp : ¬ i < placesQ s := fun h0 => by have := hP.2 h0; rw [placed_kind] at this; omega
      have hs' : stU (F, op) (p, x) = (⟨F.places, F.named ++ x.pairs⟩, op) := by simp [stU, hk4]
      rw [hs']
      refine ⟨_, op, V, R, X, x.pairs, rfl, ⟨I.places, by rw [I.named, hY, List.append_nil], by have := I.vlen; omega, I.vals, fun h0 => by rw [I.opn h0]; omega, fun h0 => ?_, fun j q y hj hq hy hk => ?_, fun h0 => I.rest0 fun j q hj hq => h0 j q (by omega) hq, fun j q y hj hq hy hk => ?_, fun h0 => absurd hk4 (h0 i p (by omega) hp), memStay (fun _ h0 => by omega) V (Nat.le_refl _) (fun j q _ _ _ hl => hl), I.nodup⟩⟩
      · obtain ⟨a1, a2, a3⟩ := I.shut h0
        exact ⟨a1, by omega, a3⟩
      · rcases upto j q hj hq with hji | ⟨rfl, rfl⟩
        · exact I.rest j q y hji hq hy hk
        · omega
      · rcases upto j q hj hq with hji | ⟨rfl, rfl⟩
        · have := h.sig.one hq hp (by omega) (by simp [singleQ, placedQ, hk4]); omega
        · rw [xat j y rfl hy]
    have restStay : ∀ (j : Nat) (q : Param) (y : Slot), j < i + 1 → s[j]? = some q → b[j]? = some y → q.kind = 2 → R = y.list := fun j q y hj hq hy hk => by
      rcases upto j q hj hq with hji | ⟨rfl, rfl⟩
      · exact I.rest j q y hji hq hy hk
      · exact absurd hk hk2
    have rest0Stay : (∀ (j : Nat) (q : Param), j < i + 1 → s[j]? = some q → q.kind ≠ 2) → R = [] := fun h0 => I.rest0 fun j q hj hq => h0 j q (by omega) hq
    have mapStay : ∀ (j : Nat) (q : Param) (y : Slot), j < i + 1 → s[j]? = some q → b[j]? = some y → q.kind = 4 → Y = y.pairs := fun j q y hj hq hy hk => by
      rcases upto j q hj hq with hji | ⟨rfl, rfl⟩
      · exact I.map j q y hji hq hy hk
      · exact absurd hk hk4
    have map0Stay : (∀ (j : Nat) (q : Param), j < i + 1 → s[j]? = some q → q.kind ≠ 4) → Y = [] := fun h0 => I.map0 fun j q hj hq => h0 j q (by omega) hq
    have hsg : singleQ p = true := single_kind.2 (by omega)
    cases hg : x.given with
    | false =>
      have hs' : stU (F, op) (p, x) = (F, op && !placedQ p) := by simp [stU, hk2, hk4, hg]
      rw [hs']
      refine ⟨_, _, V, R, X, Y, rfl, ⟨I.places, I.named, by have := I.vlen; omega, I.vals, fun h0 => ?_, fun h0 => ?_, restStay, rest0Stay, mapStay, map0Stay, memStay (fun h0 => by rw [hg] at h0; cases h0) V (Nat.le_refl _) (fun j q _ _ _ hl => hl), I.nodup⟩⟩
      · simp only [Bool.and_eq_true, Bool.not_eq_true'] at h0
        have hnp : ¬ i < placesQ s := fun h1 => by rw [hP.2 h1] at h0; cases h0.2
        rw [I.opn h0.1]; omega
      · cases ho : op with
        | false =>
          obtain ⟨a1, a2, a3⟩ := I.shut ho
          exact ⟨a1, by omega, a3⟩
        | true =>
          rw [ho] at h0
          simp only [Bool.true_and, Bool.not_eq_false'] at h0
          have hip := hP.1 h0
          have hv := I.opn ho
          have hv' : V.length = i := by omega
          refine ⟨by omega, by omega, fun y hy => ?_⟩
          rw [hv'] at hy
          rw [xat i y rfl hy]; exact hg
    | true =>
      by_cases hpo : (placedQ p && op) = true
      · have hs' : stU (F, op) (p, x) = (⟨F.places ++ [hd0 x.list], F.named⟩, op) := by simp [stU, hk2, hk4, hg, hpo]
        rw [hs']
        simp only [Bool.and_eq_true] at hpo
        have hip := hP.1 hpo.1
        have hv := I.opn hpo.2
        have hv' : V.length = i := by omega
        have hR : R = [] := I.rest0 fun j q hj hq hk => by
          have := before j q hj hq
          have h9 := hpo.1
          rw [placed_kind] at h9; omega
        refine ⟨_, op, V ++ [hd0 x.list], R, X, Y, rfl, ⟨by rw [I.places, hR]; simp, I.named, by simp; omega, fun j y hj hy => ?_, fun _ => by simp; omega, fun h0 => (by rw [hpo.2] at h0; cases h0), restStay, rest0Stay, mapStay, map0Stay, ?_, I.nodup⟩⟩
        · simp only [List.length_append, List.length_cons, List.length_nil] at hj
          by_cases hjv : j < V.length
          · obtain ⟨a1, a2⟩ := I.vals j y hjv hy
            exact ⟨a1, by rw [List.getElem?_append_left hjv]; exact a2⟩
          · have hji : j = i := by omega
            have := xat j y hji hy
            subst this
            exact ⟨hg, by rw [List.getElem?_append_right (by omega)]; simp [hji, hv']⟩
        · refine memStay (fun _ h0 => ?_) (V ++ [hd0 x.list]) (by simp) (fun j q hj _ _ hl => by omega)
          have h9 := hpo.1
          rw [placed_kind] at h9
          omega
      · have hs' : stU (F, op) (p, x) = (⟨F.places, F.named ++ [⟨p.name, hd0 x.list⟩]⟩, op) := by simp [stU, hk2, hk4, hg, hpo]
        rw [hs']
        have hY : Y = [] := I.map0 fun j q hj hq hk => by
          have := before j q hj hq; omega
        have hkk : p.kind = 3 ∨ (p.kind = 1 ∧ V.length < i) := by
          by_cases hk3 : p.kind = 3
          · exact .inl hk3
          · have hpl : placedQ p = true := by rw [placed_kind]; rw [single_kind] at hsg; omega
            have ho : op = false := by
              cases ho : op with
              | false => rfl
              | true => rw [hpl, ho] at hpo; exact absurd rfl hpo
            obtain ⟨a1, a2, a3⟩ := I.shut ho
            refine .inr ⟨?_, a2⟩
            refine Classical.byContradiction fun hk1 => ?_
            have hk0 : p.kind = 0 := by rw [placed_kind] at hpl; omega
            obtain ⟨q, hq⟩ := at_some (xs := s) (i := V.length) (by omega)
            have hgq := h.before hp hq hk0 a2 (by rw [hxe]; exact hg)
            have := a3 _ (h.get hq)
            rw [hgq] at this; cases this
        refine ⟨_, op, V, R, X ++ [⟨p.name, hd0 x.list⟩], Y, rfl, ⟨I.places, by rw [I.named, hY]; simp, by have := I.vlen; omega, I.vals, fun h0 => ?_, fun h0 => ?_, restStay, rest0Stay, mapStay, map0Stay, fun q => ?_, ?_⟩⟩
        · have hnp : ¬ i < placesQ s := fun h1 => by rw [hP.2 h1, h0] at hpo; exact hpo rfl
          rw [I.opn h0]; omega
        · obtain ⟨a1, a2, a3⟩ := I.shut h0
          exact ⟨a1, by omega, a3⟩
        · rw [List.mem_append, List.mem_singleton, I.mem q]
          constructor
          · rintro (⟨j, r, y, hj, hr, hy, hgy, hk, rfl⟩ | rfl)
            · exact ⟨j, r, y, by omega, hr, hy, hgy, hk, rfl⟩
            · exact ⟨i, p, x, by omega, hp, hx, hg, hkk, rfl⟩
          · rintro ⟨j, r, y, hj, hr, hy, hgy, hk, rfl⟩
            rcases upto j r hj hr with hji | ⟨rfl, rfl⟩
            · exact .inl ⟨j, r, y, hji, hr, hy, hgy, hk, rfl⟩
            · right; rw [xat j y rfl hy]
        · unfold namesOf
          rw [List.map_append, List.map_cons, List.map_nil]
          refine List.nodup_append.2 ⟨I.nodup, by simp, fun a ha c hc => ?_⟩
          simp only [List.mem_singleton] at hc
          obtain ⟨q, hq, rfl⟩ := List.mem_map.1 ha
          rw [hc]
          exact notin q hq

end

theorem find_uniq {qs : List Pair} {q : Pair} (hnd : (namesOf qs).Nodup) (hq : q ∈ qs) : qs.find? (nameIs q.name) = some q := by
  cases h : qs.find? (nameIs q.name) with
  | none =>
    rw [List.find?_eq_none] at h
    exact absurd (by simp [nameIs]) (h q hq)
  | some r =>
    have h1 := List.mem_of_find?_eq_some h
    have h2 := List.find?_some h
    simp only [nameIs, beq_iff_eq] at h2
    obtain ⟨i, hi⟩ := List.getElem?_of_mem h1
    obtain ⟨j, hj⟩ := List.getElem?_of_mem hq
    have hij : i = j := by
      refine (List.getElem?_inj (l := namesOf qs) (by have := lt_of_some hi; simpa [namesOf] using this) hnd).1 ?_
      unfold namesOf
      rw [List.getElem?_map, List.getElem?_map, hi, hj]
      simp [h2]
    subst hij
    rw [hi] at hj
    exact hj

section

variable {s : Sig} {f g : Flat}

end

theorem sub_length {α : Type} [DecidableEq α] : ∀ (xs ys : List α), xs.Nodup → (∀ x ∈ xs, x ∈ ys) → xs.length ≤ ys.length
  | [], ys, _, _ => by simp
  | x :: xs, ys, hd, hm => by
    rw [List.nodup_cons] at hd
    have h1 := sub_length xs (ys.erase x) hd.2 fun y hy => by
      have hne : y ≠ x := fun h0 => hd.1 (h0 ▸ hy)
      exact (List.mem_erase_of_ne hne).2 (hm y (by simp [hy]))
    have h2 := List.length_erase_of_mem (hm x (by simp))
    have h3 : 0 < ys.length := List.length_pos_of_mem (hm x (by simp))
    simp only [List.length_cons]
    omega

theorem give_rest {s : Sig} {pl : List Int} {qs : List Pair} {i : Nat} {p : Param} (hk : p.kind = 2) : giveQ s pl qs i p = ⟨false, pl.drop (placesQ s), []⟩ := by
  unfold giveQ
  rw [if_neg (by omega)]
  have h1 : namedQ p = false := by simp [namedQ, hk]
  have h2 : placedQ p = false := by simp [placedQ, hk]
  rw [h1]
  simp [place1, h2, hk]

theorem give_single {s : Sig} {pl : List Int} {qs : List Pair} {i : Nat} {p : Param} (h : singleQ p = true) : giveQ s pl qs i p =
    if byPl pl i p then ⟨true, [pl.getD i 0], []⟩ else if namedQ p then (match qs.find? (nameIs p.name) with
      | some q => ⟨true, [q.value], []⟩
      | none => zL) else zL := by
  rw [single_kind] at h
  unfold giveQ
  rw [if_neg (by omega)]
  cases hb : byPl pl i p with
  | true =>
    have hb' := hb
    unfold byPl at hb'
    simp [place1, hb']
  | false =>
    cases hn : namedQ p with
    | true =>
      cases qs.find? (nameIs p.name) <;> simp
    | false =>
      have hb' := hb
      unfold byPl at hb'
      have h2 : (p.kind == 2) = false := by simp; omega
      simp [place1, hb', h2]

theorem give_shape {s : Sig} {pl : List Int} {qs : List Pair} {i : Nat} {p : Param} (h : singleQ p = true) :
    ((giveQ s pl qs i p).given = true → giveQ s pl qs i p = ⟨true, [hd0 (giveQ s pl qs i p).list], []⟩) ∧ ((giveQ s pl qs i p).given = false → giveQ s pl qs i p = zL) := by
  rw [give_single h]
  split
  · simp [hd0]
  · split
    · split
      · simp [hd0]
      · simp [zL]
    · simp [zL]

theorem give_vals {s : Sig} {f : Flat} (hf : OkF f) {i : Nat} {p : Param} : ∀ v ∈ (giveQ s f.places f.named i p).list, okVal v = true := by
  intro v hv
  unfold giveQ at hv
  split at hv
  · simp at hv
  · split at hv
    · split at hv
      · rename_i q hq
        simp only [List.mem_singleton] at hv
        subst hv
        have := hf.pairs q (List.mem_of_find?_eq_some hq)
        simp only [okPair, Bool.and_eq_true] at this
        exact this.2
      · simp [zL] at hv
    · unfold place1 at hv
      split at hv
      · rename_i h1
        simp only [Bool.and_eq_true, decide_eq_true_eq] at h1
        simp only [List.mem_singleton] at hv
        subst hv
        rw [List.getD_eq_getElem?_getD, List.getElem?_eq_getElem h1.2]
        exact hf.vals _ (List.getElem_mem h1.2)
      · split at hv
        · exact hf.vals v (List.mem_of_mem_drop hv)
        · simp [zL] at hv

section

variable {s : Sig} {f : Flat} {b : Bnds}

theorem Given.unb (h : Given s f b) : ∃ op V R X Y, UnbAt s b s.length (unbQ s b) op V R X Y := by
  obtain ⟨F, op, V, R, X, Y, hfold, I⟩ := h.unbAt s.length (Nat.le_refl _)
  refine ⟨op, V, R, X, Y, ?_⟩
  have : unbQ s b = F := by
    unfold unbQ
    rw [List.take_of_length_le (by simp [h.len])] at hfold
    rw [hfold]
  rw [this]; exact I

theorem Given.gap (h : Given s f b) {op : Bool} {V R : List Int} {X Y : List Pair} {F : Flat} (I : UnbAt s b s.length F op V R X Y) (hlt : V.length < placesQ s) :
    f.places.length ≤ V.length ∧ R = [] ∧ ∀ x, b[V.length]? = some x → x.given = false := by
  have hPl := placesQ_le s
  have ho : op = false := by
    cases ho : op with
    | false => rfl
    | true => have := I.opn ho; omega
  obtain ⟨a1, a2, a3⟩ := I.shut ho
  obtain ⟨q, hq⟩ := at_some (xs := s) (i := V.length) (by omega)
  have hpl := (h.sig.placed_iff hq).2 hlt
  have hg := a3 _ (h.get hq)
  rw [give_given (by rw [single_kind]; rw [placed_kind] at hpl; omega)] at hg
  simp only [Bool.or_eq_false_iff] at hg
  have hle : f.places.length ≤ V.length := by
    have := hg.1
    unfold byPl at this
    rw [hpl] at this
    simpa using this
  refine ⟨hle, ?_, a3⟩
  by_cases h2 : ∃ (j : Nat) (p : Param), s[j]? = some p ∧ p.kind = 2
  · obtain ⟨j, p, hp, hk⟩ := h2
    rw [I.rest j p _ (lt_of_some hp) hp (h.get hp) hk, give_rest hk]
    exact List.drop_eq_nil_of_le (by omega)
  · exact I.rest0 fun j p _ hp hk => h2 ⟨j, p, hp, hk⟩

theorem Given.mapOf (h : Given s f b) {op : Bool} {V R : List Int} {X Y : List Pair} {F : Flat} (I : UnbAt s b s.length F op V R X Y) {q : Pair} (hq : q ∈ Y) :
    ∃ (j : Nat) (p : Param), s[j]? = some p ∧ p.kind = 4 ∧ takesQ s q.name = (j : Int) ∧ q ∈ f.named := by
  by_cases h4 : ∃ (j : Nat) (p : Param), s[j]? = some p ∧ p.kind = 4
  · obtain ⟨j, p, hp, hk⟩ := h4
    have hY := I.map j p _ (lt_of_some hp) hp (h.get hp) hk
    unfold giveQ at hY
    rw [if_pos hk] at hY
    simp only at hY
    rw [hY, List.mem_filter] at hq
    exact ⟨j, p, hp, hk, by simpa using hq.2, hq.1⟩
  · have := I.map0 fun j p _ hp hk => h4 ⟨j, p, hp, hk⟩
    rw [this] at hq; cases hq

theorem Given.again (h : Given s f b) : Given s (unbQ s b) b := by
  obtain ⟨op, V, R, X, Y, I⟩ := h.unb
  have hPl := placesQ_le s
  have hsl := h.sig.len
  have hfp := h.flat.places
  have hfn := h.flat.named
  have hV : V.length ≤ placesQ s := by have := I.vlen; omega
  have gap := fun hlt => h.gap I hlt
  have xmem : ∀ q ∈ X, ∃ (j : Nat) (p : Param), s[j]? = some p ∧ namedQ p = true ∧ q.name = p.name ∧ (giveQ s f.places f.named j p).given = true ∧ (p.kind = 3 ∨ (p.kind = 1 ∧ V.length < j)) ∧ q.value = hd0 (giveQ s f.places f.named j p).list := fun q hq => by
    obtain ⟨j, p, x, _, hp, hx, hg, hk, rfl⟩ := (I.mem q).1 hq
    have := h.at hp hx
    subst this
    exact ⟨j, p, hp, named_kind.2 (by omega), rfl, hg, hk, rfl⟩
  have hRsub : ∀ v ∈ R, okVal v = true := fun v hv => by
    by_cases h2 : ∃ (j : Nat) (p : Param), s[j]? = some p ∧ p.kind = 2
    · obtain ⟨j, p, hp, hk⟩ := h2
      rw [I.rest j p _ (lt_of_some hp) hp (h.get hp) hk] at hv
      exact give_vals h.flat v hv
    · rw [I.rest0 fun j p _ hp hk => h2 ⟨j, p, hp, hk⟩] at hv; cases hv
  have hRlen : V.length + R.length ≤ 8 := by
    by_cases h2 : ∃ (j : Nat) (p : Param), s[j]? = some p ∧ p.kind = 2
    · obtain ⟨j, p, hp, hk⟩ := h2
      have hR := I.rest j p _ (lt_of_some hp) hp (h.get hp) hk
      rw [give_rest hk] at hR
      have : R.length = f.places.length - placesQ s := by rw [hR]; simp
      omega
    · rw [I.rest0 fun j p _ hp hk => h2 ⟨j, p, hp, hk⟩]; simp; omega
  have hdis : ∀ q ∈ X, ∀ r ∈ Y, q.name ≠ r.name := fun q hq r hr he => by
    obtain ⟨j, p, hp, hn, hqn, _⟩ := xmem q hq
    obtain ⟨k, p', hp', hk', ht, _⟩ := h.mapOf I hr
    have := takes_named h.sig hp hn
    rw [← hqn, he, ht] at this
    have hjk : k = j := by omega
    subst hjk
    rw [hp] at hp'; cases hp'
    rw [named_kind] at hn; omega
  have hYnd : (namesOf Y).Nodup := by
    by_cases h4 : ∃ (j : Nat) (p : Param), s[j]? = some p ∧ p.kind = 4
    · obtain ⟨j, p, hp, hk⟩ := h4
      have hY := I.map j p _ (lt_of_some hp) hp (h.get hp) hk
      unfold giveQ at hY
      rw [if_pos hk] at hY
      simp only at hY
      rw [hY]
      exact h.flat.nodup.sublist (List.filter_sublist.map _)
    · rw [I.map0 fun j p _ hp hk => h4 ⟨j, p, hp, hk⟩]; simp [namesOf]
  have hnd : (namesOf (X ++ Y)).Nodup := by
    unfold namesOf
    rw [List.map_append]
    refine List.nodup_append.2 ⟨I.nodup, hYnd, fun a ha c hc he => ?_⟩
    obtain ⟨q, hq, rfl⟩ := List.mem_map.1 ha
    obtain ⟨r, hr, rfl⟩ := List.mem_map.1 hc
    exact hdis q hq r hr he
  have xnamed : ∀ q ∈ X, q.name ∈ namesOf f.named := fun q hq => by
    obtain ⟨j, p, hp, hn, hqn, hg, hk, _⟩ := xmem q hq
    rw [give_given (single_kind.2 (by omega))] at hg
    simp only [Bool.or_eq_true, Bool.and_eq_true] at hg
    rcases hg with hg | hg
    · exfalso
      simp only [byPl, Bool.and_eq_true, decide_eq_true_eq] at hg
      have hjP := (h.sig.placed_iff hp).1 hg.1
      rcases hk with hk | ⟨hk, hl⟩
      · have := hg.1; rw [placed_kind] at this; omega
      · have := (gap (by omega)).1; omega
    · rw [hqn]; exact any_names.1 hg.2
  have hU : OkF (unbQ s b) := by
    refine ⟨fun q hq => ?_, by rw [I.named]; exact hnd, fun v hv => ?_, by rw [I.places, List.length_append]; exact hRlen, ?_⟩
    · rw [I.named] at hq
      rcases List.mem_append.1 hq with hq | hq
      · obtain ⟨j, p, hp, hn, hqn, hg, hk, hv⟩ := xmem q hq
        have h1 := h.sig.okName (List.mem_of_getElem? hp)
        have h2 := (give_shape (s := s) (pl := f.places) (qs := f.named) (i := j) (p := p) (single_kind.2 (by omega))).1 hg
        have h3 := give_vals (s := s) h.flat (i := j) (p := p) (hd0 (giveQ s f.places f.named j p).list) (by rw [h2]; simp [hd0])
        simp [okPair, hqn, h1, hv, h3]
      · obtain ⟨_, _, _, _, _, hm⟩ := h.mapOf I hq
        exact h.flat.pairs q hm
    · rw [I.places] at hv
      rcases List.mem_append.1 hv with hv | hv
      · obtain ⟨j, hj⟩ := List.getElem?_of_mem hv
        have hjl := lt_of_some hj
        obtain ⟨p, hp⟩ := at_some (xs := s) (i := j) (by omega)
        obtain ⟨a1, a2⟩ := I.vals j _ hjl (h.get hp)
        have hpl := (h.sig.placed_iff hp).2 (by omega)
        have hsg : singleQ p = true := by rw [single_kind]; rw [placed_kind] at hpl; omega
        have h2 := (give_shape (s := s) (pl := f.places) (qs := f.named) (i := j) (p := p) hsg).1 a1
        rw [hj] at a2
        cases a2
        exact give_vals (s := s) h.flat (i := j) (p := p) _ (by rw [h2]; simp [hd0])
      · exact hRsub v hv
    · rw [I.named]
      have := sub_length (namesOf (X ++ Y)) (namesOf f.named) hnd fun n hn => by
        unfold namesOf at hn
        rw [List.map_append] at hn
        rcases List.mem_append.1 hn with hn | hn
        · obtain ⟨q, hq, rfl⟩ := List.mem_map.1 hn
          exact xnamed q hq
        · obtain ⟨q, hq, rfl⟩ := List.mem_map.1 hn
          obtain ⟨_, _, _, _, _, hm⟩ := h.mapOf I hq
          exact List.mem_map_of_mem hm
      simp only [namesOf, List.length_map] at this
      omega
  have hplU : ∀ (i : Nat) (p : Param), s[i]? = some p → placedQ p = true → (i < (unbQ s b).places.length ↔ i < V.length) := fun i p hp hpl => by
    have hiP := (h.sig.placed_iff hp).1 hpl
    rw [I.places, List.length_append]
    constructor
    · intro hi
      refine Classical.byContradiction fun hc => ?_
      have := (gap (by omega)).2.1
      rw [this] at hi
      simp at hi; omega
    · omega
  have hB : ∀ (i : Nat) (p : Param), s[i]? = some p → giveQ s (unbQ s b).places (unbQ s b).named i p = giveQ s f.places f.named i p := fun i p hp => by
    have hkr := h.sig.kindRange (List.mem_of_getElem? hp)
    by_cases hk4 : p.kind = 4
    · have hY := I.map i p _ (lt_of_some hp) hp (h.get hp) hk4
      have e1 : ∀ qs pl, giveQ s pl qs i p = ⟨false, [], qs.filter fun q => takesQ s q.name == (i : Int)⟩ := fun qs pl => by unfold giveQ; rw [if_pos hk4]
      rw [e1] at hY
      simp only at hY
      rw [e1, e1, I.named, List.filter_append]
      have hX : X.filter (fun q => takesQ s q.name == (i : Int)) = [] := by
        rw [List.filter_eq_nil_iff]
        intro q hq ht
        obtain ⟨j, r, hr, hn, hqn, _⟩ := xmem q hq
        have := takes_named h.sig hr hn
        rw [← hqn] at this
        simp only [beq_iff_eq] at ht
        have hij : i = j := by omega
        subst hij
        rw [hp] at hr; cases hr
        rw [named_kind] at hn; omega
      rw [hX, List.nil_append, hY, List.filter_filter]
      simp
    by_cases hk2 : p.kind = 2
    · have hR := I.rest i p _ (lt_of_some hp) hp (h.get hp) hk2
      rw [give_rest hk2] at hR
      simp only at hR
      rw [give_rest hk2, give_rest hk2, I.places, ← hR]
      congr 1
      by_cases hlt : V.length < placesQ s
      · rw [(gap hlt).2.1, List.append_nil]; exact List.drop_eq_nil_of_le (by omega)
      · rw [show placesQ s = V.length by omega, List.drop_left]
    have hsg : singleQ p = true := single_kind.2 (by omega)
    have hsh := give_shape (s := s) (pl := f.places) (qs := f.named) (i := i) (p := p) hsg
    have hget := h.get hp
    generalize giveQ s f.places f.named i p = g at hsh hget ⊢
    rw [give_single hsg]
    by_cases hb : byPl (unbQ s b).places i p = true
    · rw [if_pos hb]
      simp only [byPl, Bool.and_eq_true, decide_eq_true_eq] at hb
      have hiV := (hplU i p hp hb.1).1 hb.2
      obtain ⟨a1, a2⟩ := I.vals i g hiV hget
      rw [hsh.1 a1]
      have : (unbQ s b).places.getD i 0 = hd0 g.list := by
        rw [List.getD_eq_getElem?_getD, I.places, List.getElem?_append_left hiV, a2]; rfl
      rw [this]
    · rw [if_neg hb]
      have hnV : placedQ p = true → V.length ≤ i := fun hpl => Nat.le_of_not_lt fun h0 => hb (by
        simp only [byPl, Bool.and_eq_true, decide_eq_true_eq]; exact ⟨hpl, (hplU i p hp hpl).2 h0⟩)
      have hgap : placedQ p = true → g.given = true → V.length < i := fun hpl hg => by
        have h1 := hnV hpl
        have hiP := (h.sig.placed_iff hp).1 hpl
        have h2 := (gap (by omega)).2.2
        refine Classical.byContradiction fun hc => ?_
        have : i = V.length := by omega
        have := h2 g (by rw [← this]; exact hget)
        rw [hg] at this; cases this
      cases hg : g.given with
      | true =>
        have hk : p.kind = 3 ∨ (p.kind = 1 ∧ V.length < i) := by
          by_cases hk3 : p.kind = 3
          · exact .inl hk3
          · have hpl : placedQ p = true := by rw [placed_kind]; rw [single_kind] at hsg; omega
            have hVi := hgap hpl hg
            refine .inr ⟨?_, hVi⟩
            refine Classical.byContradiction fun hk1 => ?_
            have hk0 : p.kind = 0 := by rw [placed_kind] at hpl; omega
            have hiP := (h.sig.placed_iff hp).1 hpl
            obtain ⟨q, hq⟩ := at_some (xs := s) (i := V.length) (by omega)
            have hgi : (giveQ s f.places f.named i p).given = true := by rw [← h.at hp hget]; exact hg
            have hgq := h.before hp hq hk0 hVi hgi
            have := (gap (by omega)).2.2 _ (h.get hq)
            rw [hgq] at this; cases this
        have hn : namedQ p = true := named_kind.2 (by omega)
        rw [if_pos hn]
        have hm : (⟨p.name, hd0 g.list⟩ : Pair) ∈ X := (I.mem _).2 ⟨i, p, g, lt_of_some hp, hp, hget, hg, hk, rfl⟩
        have hf := find_uniq (qs := (unbQ s b).named) (q := ⟨p.name, hd0 g.list⟩) hU.nodup (by rw [I.named]; exact List.mem_append_left _ hm)
        simp only at hf
        rw [hf]
        exact (hsh.1 hg).symm
      | false =>
        rw [hsh.2 hg]
        split
        · rename_i hn
          have : (unbQ s b).named.find? (nameIs p.name) = none := by
            rw [List.find?_eq_none]
            intro q hq hqn
            simp only [nameIs, beq_iff_eq] at hqn
            rw [I.named] at hq
            rcases List.mem_append.1 hq with hq | hq
            · obtain ⟨j, r, x, _, hr, hx, hgx, _, rfl⟩ := (I.mem q).1 hq
              have hji := name_inj h.sig hr hp hqn
              subst hji
              rw [hget] at hx; cases hx
              rw [hg] at hgx; cases hgx
            · obtain ⟨j, r, hr, hk, ht, _⟩ := h.mapOf I hq
              have := takes_named h.sig hp hn
              rw [← hqn, ht] at this
              have hji : j = i := by omega
              subst hji
              rw [hp] at hr; cases hr
              exact hk4 hk
          rw [this]
        · rfl
  have hacc : accQ s (unbQ s b) = true := by
    have hf3 := ((acc_iff h.sig h.flat).1 h.acc).2.2
    refine (acc_iff h.sig hU).2 ⟨fun hlt => ?_, fun q hq => ?_, ?_⟩
    · by_cases h2 : ∃ (j : Nat) (p : Param), s[j]? = some p ∧ p.kind = 2
      · obtain ⟨j, p, hp, hk⟩ := h2
        exact List.any_eq_true.2 ⟨p, List.mem_of_getElem? hp, by simp [kIs, hk]⟩
      · have hR := I.rest0 fun j p _ hp hk => h2 ⟨j, p, hp, hk⟩
        rw [I.places, hR] at hlt
        simp at hlt; omega
    · rw [wrong_iff2 h.sig]
      rw [I.named] at hq
      rcases List.mem_append.1 hq with hq | hq
      · obtain ⟨j, p, hp, hn, hqn, hg, hk, hv⟩ := xmem q hq
        refine ⟨.inl ⟨j, p, hp, hn, hqn.symm⟩, fun i r hr hrn hre => ?_⟩
        have hij := name_inj h.sig hr hp (by rw [hre, hqn])
        subst hij
        rw [hp] at hr; cases hr
        unfold byPl
        cases hpl : placedQ p with
        | false => rfl
        | true =>
          simp only [Bool.true_and, decide_eq_false_iff_not]
          rw [hplU i p hp hpl]
          rcases hk with hk | ⟨hk, hl⟩
          · rw [placed_kind] at hpl; omega
          · omega
      · obtain ⟨j, r, hr, hk, ht, _⟩ := h.mapOf I hq
        refine ⟨.inr ⟨r, List.mem_of_getElem? hr, hk⟩, fun i p hp hn he => ?_⟩
        have := takes_named h.sig hp hn
        rw [he, ht] at this
        have hji : j = i := by omega
        subst hji
        rw [hp] at hr; cases hr
        rw [named_kind] at hn; omega
    · have : s.mapIdx (giveQ s (unbQ s b).places (unbQ s b).named) = s.mapIdx (giveQ s f.places f.named) := by
        apply List.ext_getElem?
        intro i
        rw [List.getElem?_mapIdx, List.getElem?_mapIdx]
        cases hp : s[i]? with
        | none => rfl
        | some p => simp only [Option.map_some, hB i p hp]
      rw [this]; exact hf3
  refine ⟨h.sig, hU, hacc, ?_⟩
  rw [bound_closed h.sig hU.nodup]
  apply List.ext_getElem?
  intro i
  simp only [closedQ, List.getElem?_mapIdx]
  cases hp : s[i]? with
  | none =>
    have : s.length ≤ i := by rw [List.getElem?_eq_none_iff] at hp; exact hp
    rw [List.getElem?_eq_none (by rw [h.len]; exact this)]; rfl
  | some p => simp only [Option.map_some, hB i p hp, h.get hp]

end

theorem svalidShape_ct (x : Shp) (hx : LenX x) : ACalls pk 34 [.agg (eX x)] [] (fun r o => r = .one (.bool (okX x)) ∧ o = []) := by
  have hl := hx.len
  refine acalls_of_body Tryd.func34 rfl (by kernel_rfl) rfl ?_
  refine rn rfl ?_
  refine goal_loop_keep (fun m σ => ∃ (q : Int) (i : Nat), q = i ∧ i ≤ x.names.length ∧ m = x.names.length - i ∧ (∀ j, j < i → stepN x.names j = true) ∧
      σ = ⟨[(3, .one (.int .i64 q)), (1, .one (.op 0 0 0))], [some ⟨2, [eX x], false, false, true⟩], []⟩) x.names.length [3, 1] [0] rfl
    ⟨_, 0, rfl, by omega, by omega, fun j hj => by omega, rfl⟩ ?_
  rintro m σ ⟨q, i, rfl, hi, rfl, hall, rfl⟩
  refine rn rfl ?_
  refine goal_cond rfl (fun h => ?_) (fun h => ?_) <;> (try simp only [gt_iff_lt, ge_iff_le, bne_iff_ne, ne_eq, bne_eq_false_iff_eq, beq_iff_eq, beq_eq_false_iff_ne, Bool.not_eq_true', Bool.not_eq_false', decide_eq_true_eq, decide_eq_false_iff_not, List.length_map] at h)
  · obtain ⟨n, hn⟩ := at_some (xs := x.names) (i := i) (by omega)
    refine rn rfl ?_
    refine goal_draw' [0] 25 rfl ?_
    refine drn [0, 1, 2] (by kernel_rfl) (by kernel_rfl) rfl rfl ?_
    refine AH_did 3 rfl (by kernel_rfl) (by kernel_rfl) (by kernel_rfl) rfl rfl (dA_index (eS n) rfl rfl rfl rfl rfl rfl rfl (by omega) (by (try simp); omega) (map_at (by simpa using hn)) rfl) ?_
    refine drn [4] (by kernel_rfl) (by kernel_rfl) rfl rfl ?_
    refine AH_one (i := 5) (by kernel_rfl) (step_call [] rfl rfl rfl rfl rfl rfl (validName_ct n (hx.names n (List.mem_of_getElem? hn)))) (by simp) ?_
    rintro σ2 ⟨r, o', ⟨rfl, rfl⟩, hσ⟩
    obtain rfl := Option.some.inj hσ
    clear hσ
    refine drn [6, 7] (by kernel_rfl) (by kernel_rfl) rfl rfl ?_
    refine AH_guard (i := 8) rfl rfl rfl (fun h1 => ?_) (fun h1 => ?_) <;> (try simp only [gt_iff_lt, ge_iff_le, bne_iff_ne, ne_eq, bne_eq_false_iff_eq, beq_iff_eq, beq_eq_false_iff_ne, Bool.not_eq_true', Bool.not_eq_false', decide_eq_true_eq, decide_eq_false_iff_not, List.length_map] at h1)
    · refine drn [8, 9, 10, 11, 12, 13, 14, 15, 16, 17, 18, 19, 20, 21, 22, 23, 24] (by kernel_rfl) (by kernel_rfl) rfl rfl ?_
      refine AH_end (by kernel_rfl) ?_
      refine rn rfl ?_
      refine rn rfl (round_ret (fin_is [] rfl ⟨?_, rfl⟩))
      rw [okX_no (lt_of_some hn)]
      simp [stepN, hn, h1]
    · refine drn [8, 9, 10] (by kernel_rfl) (by kernel_rfl) rfl rfl ?_
      refine AH_guard (i := 11) rfl rfl rfl (fun h2 => ?_) (fun h2 => ?_) <;> (try simp only [gt_iff_lt, ge_iff_le, bne_iff_ne, ne_eq, bne_eq_false_iff_eq, beq_iff_eq, beq_eq_false_iff_ne, Bool.not_eq_true', Bool.not_eq_false', decide_eq_true_eq, decide_eq_false_iff_not, List.length_map] at h2)
      · obtain ⟨k, rfl⟩ : ∃ k, i = k + 1 := ⟨i - 1, by omega⟩
        obtain ⟨l, hl'⟩ := at_some (xs := x.names) (i := k) (by omega)
        have hw : IntKind.i64.wrap (((k + 1 : Nat) : Int) - 1) = (k : Int) := by rw [wrap64 (by omega) (by omega)]; omega
        refine drn [11, 12, 13, 16, 17, 18, 19] (by kernel_rfl) (by kernel_rfl) rfl rfl ?_
        refine AH_did 14 rfl (by kernel_rfl) (by kernel_rfl) (by kernel_rfl) rfl rfl (dA_index (eS n) rfl rfl rfl rfl rfl rfl rfl (by omega) (by (try simp); omega) (map_at (by simpa using hn)) rfl) ?_
        refine drn [15] (by kernel_rfl) (by kernel_rfl) rfl rfl ?_
        refine AH_did 20 rfl (by kernel_rfl) (by kernel_rfl) (by kernel_rfl) rfl rfl (dA_index (eS l) rfl rfl rfl rfl rfl rfl rfl (by rw [hw]; omega) (by rw [hw]; (try simp); omega) (map_at (by rw [hw]; simpa using hl')) rfl) ?_
        refine drn [21, 22, 23, 24] (by kernel_rfl) (by kernel_rfl) rfl rfl ?_
        refine AH_end (by kernel_rfl) ?_
        refine rn rfl ?_
        refine goal_cond rfl (fun h3 => ?_) (fun h3 => ?_)
        · refine rn rfl (round_ret (fin_is [] rfl ⟨?_, rfl⟩))
          have h3' : ltS l n = false := by
            have h4 : ltS n l = true ∨ n = l := by simpa [ltS] using h3
            rcases h4 with h4 | h4
            · exact ltS_asymm h4
            · rw [h4]; exact ltS_irrefl l
          rw [okX_no (lt_of_some hn)]
          simp [stepN, hn, hl', h3']
        · have h3' : ltS l n = true := by
            have h4 : ltS n l = false ∧ ¬ n = l := by simpa [ltS] using h3
            exact ltS_total h4.2 h4.1
          refine rn rfl ?_
          refine round_keep (x.names.length - (k + 1 + 1)) [3, 1] [0] (by omega) rfl ⟨_, k + 1 + 1, wrap64 (by omega) (by omega), by omega, rfl, stepN_all hn hall (by simp [stepN, hn, hl', h1, h3']), rfl⟩
      · refine drn [11, 12, 13, 14, 15, 16, 17, 18, 19, 20, 21, 22, 23, 24] (by kernel_rfl) (by kernel_rfl) rfl rfl ?_
        refine AH_end (by kernel_rfl) ?_
        refine rn rfl ?_
        refine rn rfl ?_
        refine round_keep (x.names.length - (i + 1)) [3, 1] [0] (by omega) rfl ⟨_, i + 1, wrap64 (by omega) (by omega), by omega, rfl, stepN_all hn hall ?_, rfl⟩
        have : i = 0 := by omega
        subst this
        simp [stepN, hn, h1]
  · refine rn rfl (round_ext ?_)
    have hok : okNs x.names = true := okNs_all.2 fun j hj => hall j (by omega)
    refine rn rfl ?_
    refine goal_step (step_call [] rfl rfl rfl rfl rfl rfl (sin_ct x.count 0 8)) ?_
    rintro σ2 ⟨r, o', ⟨rfl, rfl⟩, hσ⟩
    obtain rfl := Option.some.inj hσ
    clear hσ
    refine rn rfl ?_
    refine goal_guard rfl rfl rfl (fun h1 => ?_) (fun h1 => ?_) <;> (try simp only [gt_iff_lt, ge_iff_le, bne_iff_ne, ne_eq, bne_eq_false_iff_eq, beq_iff_eq, beq_eq_false_iff_ne, Bool.not_eq_true', Bool.not_eq_false', decide_eq_true_eq, decide_eq_false_iff_not, List.length_map] at h1)
    · refine rn rfl (fin_is [] rfl ⟨?_, rfl⟩)
      simp [okX, hok, h1]; omega
    · refine rn rfl (fin_is [] rfl ⟨?_, rfl⟩)
      simp [okX, hok, h1]

structure SmallX (x : Shp) : Prop where
  len : x.names.length ≤ 10
  names : ∀ n ∈ x.names, n.length ≤ 7

theorem SmallX.lenX {x : Shp} (h : SmallX x) : LenX x := ⟨by have := h.len; omega, fun n hn => by have := h.names n hn; omega⟩

theorem shape_smallX {f : Flat} (h1 : f.named.length ≤ 9) (h2 : ∀ p ∈ f.named, p.name.length ≤ 7) (c : Int) : SmallX ⟨c, namesOf (sortL f.named)⟩ := by
  have h3 := sortL_length f.named
  refine ⟨by simp [namesOf]; omega, fun n hn => ?_⟩
  obtain ⟨q, hq, rfl⟩ := List.mem_map.1 ((sortL_names _ _).1 hn)
  exact h2 q hq

theorem shapeOfO_ct (f : Flat) (h2 : f.named.length ≤ 1048576) :
    ACalls pk 70 [.agg (eF f)] [] (fun r o => r = rX ⟨f.places.length, namesOf (sortL f.named)⟩ ∧ o = oX ⟨f.places.length, namesOf (sortL f.named)⟩) := by
  have hsl := sortL_length f.named
  refine acalls_of_body Tryd.func70 rfl (by kernel_rfl) rfl ?_
  refine rn rfl ?_
  refine goal_step (step_call [] rfl rfl rfl rfl rfl rfl (sortedPairsD_ct f.named (by omega))) ?_
  rintro σ2 ⟨r, o', ⟨rfl, rfl⟩, hσ⟩
  obtain rfl := Option.some.inj hσ
  clear hσ
  refine rn rfl ?_
  generalize sortL f.named = S at hsl ⊢
  refine rn rfl ?_
  refine goal_loop_keep (fun m σ => ∃ (n : Int) (i l : Nat) (acc : List Str), n = i ∧ i ≤ S.length ∧ m = S.length - i ∧ l = acc.length ∧ acc = namesOf (S.take i) ∧
      σ = ⟨[(5, .one (.int .i64 n)), (4, .one (.fs (S.map eP))), (3, .one (.op 1 0 0)), (2, .one (.op 0 0 0))],
        [some ⟨2, [[.int .i64 0, .fs []]], false, false, true⟩, some ⟨2, [[.int .i64 (f.places.map eI).length, .os 2 0 l l]], false, false, true⟩, ownS acc], []⟩) S.length [5, 4, 3, 2] [1, 3, 2] rfl
      ⟨_, 0, 0, [], rfl, by omega, by omega, rfl, rfl, rfl⟩ ?_
  rintro m σ ⟨n, i, l, acc, rfl, hi, rfl, rfl, hacc, rfl⟩
  have hlen : acc.length = i := by rw [hacc]; simp [namesOf]; omega
  refine rn rfl ?_
  refine goal_cond rfl (fun h3 => ?_) (fun h3 => ?_) <;> (try simp only [gt_iff_lt, ge_iff_le, bne_iff_ne, ne_eq, bne_eq_false_iff_eq, beq_iff_eq, beq_eq_false_iff_ne, Bool.not_eq_true', Bool.not_eq_false', decide_eq_true_eq, decide_eq_false_iff_not, List.length_map] at h3)
  · obtain ⟨p, hp⟩ := at_some (xs := S) (i := i) (by omega)
    refine rn rfl ?_
    refine goal_drawL [1] [10] 11 rfl ?_
    refine drnL [0, 1, 2, 3] (by kernel_rfl) (by kernel_rfl) rfl rfl ?_
    refine AHL_did 4 rfl (by kernel_rfl) (by kernel_rfl) (by kernel_rfl) (by kernel_rfl) rfl rfl (dA_index (eP p) rfl rfl rfl rfl rfl rfl rfl (by omega) (by (try simp); omega) (map_at (by simpa using hp)) rfl) ?_
    refine drnL [5, 6] (by kernel_rfl) (by kernel_rfl) rfl rfl ?_
    refine AHL_oneDid 7 rfl (by kernel_rfl) rfl rfl (dA_step rfl) (mdOk rfl) ?_
    refine AHL_oneDid 8 rfl (by kernel_rfl) rfl rfl (dA_append (old := (acc).map eS) (rows := ([p.name] : List Str).map eS) (((acc) ++ ([p.name] : List Str)).map eS) (acc.length + 1) true (Dst.own rfl rfl rfl rfl rfl (by first | (simp; done) | (simp; omega)) (whole (by first | (simp; done) | (simp; omega)))) (Src.os rfl rfl (Nat.le_refl 1) rfl) rfl rfl rfl rfl rfl rfl rfl rfl (rows_len eS_len _) (rows_len eS_len _) (by (try simp only [List.length_map, List.length_append, List.length_cons, List.length_nil, List.length_take, List.length_drop]); show _ * 16 ≤ _; omega) (by first | (simp; done) | (simp; omega)) (by simp) (by first | (simp; done) | (simp; omega)) (fun _ => noOwnR_map _ eS_noOwn _)) (mdOk rfl) ?_
    refine drnL [9] (by kernel_rfl) (by kernel_rfl) rfl rfl ?_
    refine AHL_lateDid 10 rfl (by kernel_rfl) rfl rfl (dA_step rfl) ?_
    refine AH_end (by kernel_rfl) ?_
    refine rn rfl ?_
    refine round_keep (S.length - (i + 1)) [5, 4, 3, 2] [0, 1, 4] (by omega) rfl ⟨_, i + 1, acc.length + 1, acc ++ [p.name], wrap64 (by omega) (by omega), by omega, rfl, by simp, by rw [namesOf_take_succ hp, hacc], rfl⟩
  · refine rn rfl ?_
    refine round_ext ?_
    have hi' : i = S.length := by omega
    have hacc' : acc = namesOf S := by rw [hacc, hi', List.take_length]
    rw [← hacc']
    refine rn rfl (fin_is [2] rfl ⟨?_, rfl⟩)
    simp [rX]

theorem someShape_ct (bs : Str) (k : Int) (hb : bs.length ≤ 2000) (hk : 0 ≤ k) (hk' : k ≤ 1073700000) :
    ACalls pk 41 [.one (.op 0 0 0)] [oR bs k] (fun r o => ∃ x k', SmallX x ∧ k ≤ k' ∧ k' ≤ k + 50 ∧ r = .agg (eX x) ∧ o = [oR bs k']) := by
  refine acalls_of_body Tryd.func41 rfl (by kernel_rfl) rfl ?_
  refine rn rfl ?_
  refine goal_step (step_callE [0] rfl rfl rfl rfl rfl rfl (rfl) (goodFlat_ct bs k hb hk (by omega))) ?_
  rintro σ2 ⟨r, o', ⟨f, k1, hf, hk1, hk2, rfl, rfl⟩, hσ⟩
  obtain rfl := Option.some.inj hσ
  clear hσ
  refine rn rfl ?_
  have hf1 := hf.places
  have hf2 := hf.named
  have hsx : SmallX ⟨f.places.length, namesOf (sortL f.named)⟩ := shape_smallX (by omega) hf.names _
  refine goal_step (step_callE [] rfl rfl rfl rfl rfl rfl (cons_eq (asFl f) rfl) (shapeOfO_ct f (by omega))) ?_
  rintro σ2 ⟨r, o', ⟨rfl, rfl⟩, hσ⟩
  obtain rfl := Option.some.inj hσ
  clear hσ
  refine rn rfl ?_
  have hx9 : (namesOf (sortL f.named)).length ≤ 9 := by have h3 := sortL_length f.named; simp [namesOf]; omega
  generalize namesOf (sortL f.named) = names at hsx hx9
  generalize ((f.places.length : Nat) : Int) = c at hsx
  have hxl := hsx.len
  simp only at hxl
  refine rn rfl ?_
  refine goal_step (step_callE [0] rfl rfl rfl rfl rfl rfl (rfl) (pick_ct bs k1 20 hb (by omega) (by omega) (by omega))) ?_
  rintro σ2 ⟨r, o', ⟨⟨z, rfl, _, _⟩, rfl⟩, hσ⟩
  obtain rfl := Option.some.inj hσ
  clear hσ
  refine rn rfl ?_
  refine goal_cond rfl (fun h1 => ?_) (fun h1 => ?_) <;> (try simp only [gt_iff_lt, ge_iff_le, bne_iff_ne, ne_eq, bne_eq_false_iff_eq, beq_iff_eq, beq_eq_false_iff_ne, Bool.not_eq_true', Bool.not_eq_false', decide_eq_true_eq, decide_eq_false_iff_not, List.length_map] at h1)
  · refine rn rfl ?_
    refine goal_step (step_callE [0] rfl rfl rfl rfl rfl rfl (rfl) (one_ct bs (k1 + 1) [-1, 9, 8] hb (by omega) (by omega) (by decide) (by decide))) ?_
    rintro σ2 ⟨r, o', ⟨⟨v, hv, rfl⟩, rfl⟩, hσ⟩
    obtain rfl := Option.some.inj hσ
    clear hσ
    refine rn rfl ?_
    refine rn rfl (fin_is [] rfl ⟨⟨v, names⟩, k1 + 1 + 1, ⟨hxl, hsx.names⟩, by omega, by omega, ?_, rfl⟩)
    exact asX ⟨v, names⟩
  · refine rn rfl ?_
    refine goal_cond rfl (fun h2 => ?_) (fun h2 => ?_) <;> (try simp only [gt_iff_lt, ge_iff_le, bne_iff_ne, ne_eq, bne_eq_false_iff_eq, beq_iff_eq, beq_eq_false_iff_ne, Bool.not_eq_true', Bool.not_eq_false', decide_eq_true_eq, decide_eq_false_iff_not, List.length_map] at h2)
    · refine rn rfl ?_
      refine goal_drawL [5] [7] 8 rfl ?_
      refine drnL [0, 1, 2] (by kernel_rfl) (by kernel_rfl) rfl rfl ?_
      refine AHL_one (i := 3) (by kernel_rfl) rfl (step_callE [0] rfl rfl rfl rfl rfl rfl (rfl) (anyName_ct bs (k1 + 1) hb (by omega) (by omega))) (by simp) ?_
      rintro σ2 ⟨r, o', ⟨⟨nm, hnm, rfl⟩, rfl⟩, hσ⟩
      obtain rfl := Option.some.inj hσ
      clear hσ
      refine AHL_oneDid 4 rfl (by kernel_rfl) rfl rfl (dA_step rfl) (mdOk rfl) ?_
      refine AHL_oneDid 5 rfl (by kernel_rfl) rfl rfl (dA_append (old := (names).map eS) (rows := ([nm] : List Str).map eS) (((names) ++ ([nm] : List Str)).map eS) (names.length + 1) true (Dst.own rfl rfl rfl rfl rfl (by first | (simp; done) | (simp; omega)) (whole (by first | (simp; done) | (simp; omega)))) (Src.os rfl rfl (Nat.le_refl 1) rfl) rfl rfl rfl rfl rfl rfl rfl rfl (rows_len eS_len _) (rows_len eS_len _) (by (try simp only [List.length_map, List.length_append, List.length_cons, List.length_nil, List.length_take, List.length_drop]); show _ * 16 ≤ _; omega) (by first | (simp; done) | (simp; omega)) (by simp) (by first | (simp; done) | (simp; omega)) (fun _ => noOwnR_map _ eS_noOwn _)) (mdOk rfl) ?_
      refine drnL [6] (by kernel_rfl) (by kernel_rfl) rfl rfl ?_
      refine AHL_lateDid 7 rfl (by kernel_rfl) rfl rfl (dA_step rfl) ?_
      refine AH_end (by kernel_rfl) ?_
      refine rn rfl ?_
      refine rn rfl (fin_is [] rfl ⟨⟨c, names ++ [nm]⟩, k1 + 1 + 2, ⟨by have h9 : names.length ≤ 9 := hx9; simp; omega, fun n hn => ?_⟩, by omega, by omega, ?_, rfl⟩)
      · rcases List.mem_append.1 hn with hn | hn
        · exact hsx.names n hn
        · simp only [List.mem_singleton] at hn; rw [hn]; exact hnm
      · rw [takeAll eS _ _ (by simp)]; rfl
    · refine rn rfl ?_
      refine rn rfl (fin_is [] rfl ⟨⟨c, names⟩, k1 + 1, hsx, by omega, by omega, ?_, rfl⟩)
      exact asX ⟨c, names⟩

def piecesQ (c : UInt8) (s : Str) : List Str := if s = [] then [] else cutC c s

theorem splitAt_ct (s : Str) (c : UInt8) (hl : s.length ≤ 1048576) : ACalls pk 32 [.one (.str s), .one (.int .u8 c.toNat)] [] (fun r o => r = .one (.os 0 0 (piecesQ c s).length (piecesQ c s).length) ∧ o = [ownS (piecesQ c s)]) := by
  refine acalls_of_body Tryd.func32 rfl (by kernel_rfl) rfl ?_
  refine rn rfl ?_
  cases hs : (s == []) with
  | true =>
    have h0 : s = [] := by simpa using hs
    subst h0
    refine goal_cond rfl (fun _ => ?_) (fun h => by simp at h)
    refine rn rfl ?_
    exact fin_is [0] rfl ⟨rfl, rfl⟩
  | false =>
    have h0 : ¬ s = [] := by simpa using hs
    have hp : piecesQ c s = cutC c s := by unfold piecesQ; rw [if_neg h0]
    rw [hp]
    refine goal_cond rfl (fun h => by cases h) (fun _ => ?_)
    refine rn rfl ?_
    refine goal_loop_keep (fun m σ => ∃ (q f : Int) (i a n : Nat) (out : List Str), q = i ∧ f = a ∧ a ≤ i ∧ i ≤ s.length ∧ m = s.length - i ∧ n = out.length ∧ out.length ≤ i ∧ out ++ cutF c ((s.drop a).take (i - a)) (s.drop i) = cutC c s ∧
      σ = ⟨[(7, .one (.int .i64 q)), (6, .one (.int .i64 f)), (5, .one (.os 0 0 n n)), (1, .one (.int .u8 c.toNat)), (0, .one (.str s))], [ownS out], []⟩) s.length [7, 6, 5, 1, 0] [0] rfl
      ⟨_, 0, 0, 0, 0, [], rfl, rfl, by omega, by omega, by omega, rfl, by simp, by simp [cutC], rfl⟩ ?_
    rintro m σ ⟨q, f, i, a, n, out, rfl, rfl, hai, hi, rfl, rfl, hol, hcut, rfl⟩
    refine rn rfl ?_
    refine goal_cond rfl (fun h => ?_) (fun h => ?_) <;> (try simp only [gt_iff_lt, ge_iff_le, bne_iff_ne, ne_eq, bne_eq_false_iff_eq, beq_iff_eq, beq_eq_false_iff_ne, Bool.not_eq_true', Bool.not_eq_false', decide_eq_true_eq, decide_eq_false_iff_not, List.length_map] at h)
    · obtain ⟨x, hx⟩ := at_some (xs := s) (i := i) (by omega)
      rw [drop_at hx] at hcut
      refine rn rfl ?_
      refine goal_did rfl rfl (dA_strIndex x rfl rfl rfl rfl rfl rfl (by omega) (by simpa using hx)) ?_
      refine rn rfl ?_
      cases hxc : ((x.toNat : Int) == (c.toNat : Int)) with
      | true =>
        have hxe : x = c := by
          have := beq_iff_eq.1 hxc
          exact UInt8.toNat_inj.1 (by omega)
        subst hxe
        rw [cutF_eq] at hcut
        refine goal_cond rfl (fun _ => ?_) (fun h1 => by simp at h1)
        refine rn rfl ?_
        refine goal_did rfl rfl (dA_strSlice a i ((s.drop a).take (i - a)) rfl rfl rfl rfl (Bnd.some_ rfl rfl) (Bnd.some_ rfl rfl) hai hi rfl rfl) ?_
        refine rn rfl ?_
        refine goal_did rfl rfl (dA_append (old := (out).map eS) (rows := ([(s.drop a).take (i - a)] : List Str).map eS) (((out) ++ ([(s.drop a).take (i - a)] : List Str)).map eS) (out.length + 1) true (Dst.own rfl rfl rfl rfl rfl (by first | (simp; done) | (simp; omega)) (whole (by first | (simp; done) | (simp; omega)))) (Src.os rfl rfl (Nat.le_refl 1) rfl) rfl rfl rfl rfl rfl rfl rfl rfl (rows_len eS_len _) (rows_len eS_len _) (by (try simp only [List.length_map, List.length_append, List.length_cons, List.length_nil, List.length_take, List.length_drop]); show _ * 16 ≤ _; omega) (by first | (simp; done) | (simp; omega)) (by simp) (by first | (simp; done) | (simp; omega)) (fun _ => noOwnR_map _ eS_noOwn _)) ?_
        refine rn rfl ?_
        refine round_keep (s.length - (i + 1)) [7, 6, 5, 1, 0] [2] (by omega) rfl ⟨_, _, i + 1, i + 1, _, out ++ [(s.drop a).take (i - a)], wrap64 (by omega) (by omega), wrap64 (by omega) (by omega), by omega, by omega, rfl, by simp, by simp; omega, ?_, rfl⟩
        rw [← hcut, Nat.sub_self]; simp
      | false =>
        have hxe : x ≠ c := fun h1 => by subst h1; simp at hxc
        rw [cutF_ne hxe] at hcut
        refine goal_cond rfl (fun h1 => by simp at h1) (fun _ => ?_)
        refine rn rfl ?_
        refine round_keep (s.length - (i + 1)) [7, 6, 5, 1, 0] [0] (by omega) rfl ⟨_, _, i + 1, a, _, out, wrap64 (by omega) (by omega), rfl, by omega, by omega, rfl, rfl, by omega, ?_, rfl⟩
        rw [← hcut]
        congr 2
        have : (s.drop a)[i - a]? = some x := by rw [List.getElem?_drop]; rw [show a + (i - a) = i by omega]; exact hx
        rw [show i + 1 - a = (i - a) + 1 by omega, take_snoc this]
    · have hil : i = s.length := by omega
      subst hil
      rw [List.drop_length, cutF_nil] at hcut
      refine rn rfl ?_
      refine round_ext ?_
      refine rn rfl ?_
      refine goal_did rfl rfl (dA_strSlice a s.length ((s.drop a).take (s.length - a)) rfl rfl rfl rfl (Bnd.some_ rfl rfl) Bnd.none_ hai (Nat.le_refl _) rfl rfl) ?_
      refine rn rfl ?_
      refine goal_did rfl rfl (dA_append (old := (out).map eS) (rows := ([(s.drop a).take (s.length - a)] : List Str).map eS) (((out) ++ ([(s.drop a).take (s.length - a)] : List Str)).map eS) (out.length + 1) true (Dst.own rfl rfl rfl rfl rfl (by first | (simp; done) | (simp; omega)) (whole (by first | (simp; done) | (simp; omega)))) (Src.os rfl rfl (Nat.le_refl 1) rfl) rfl rfl rfl rfl rfl rfl rfl rfl (rows_len eS_len _) (rows_len eS_len _) (by (try simp only [List.length_map, List.length_append, List.length_cons, List.length_nil, List.length_take, List.length_drop]); show _ * 16 ≤ _; omega) (by first | (simp; done) | (simp; omega)) (by simp) (by first | (simp; done) | (simp; omega)) (fun _ => noOwnR_map _ eS_noOwn _)) ?_
      refine rn rfl ?_
      rw [← hcut]
      refine fin_is [2] rfl ⟨?_, rfl⟩
      rw [show (out ++ [(s.drop a).take (s.length - a)]).length = out.length + 1 by simp]

def ShT (x : Shp) : Str := Lib.join (Lib.itoa x.count :: x.names) [32]

def ShF (x : Shp) : Str := if okX x then ShT x else []

theorem join_snoc (x : Str) (r : List Str) (n sep : Str) : Lib.join (x :: (r ++ [n])) sep = Lib.join (x :: r) sep ++ sep ++ n := by
  rw [Lib.join_cons, Lib.join_cons]
  simp [Lib.joinTail]

theorem joinTail_len : ∀ (r : List Str) (k : Nat), (∀ n ∈ r, n.length ≤ k) → (Lib.joinTail [32] r).length ≤ (k + 1) * r.length := by
  intro r k hr
  induction r with
  | nil => simp [Lib.joinTail]
  | cons y r ih =>
    have h1 := hr y (by simp)
    have h2 := ih (fun n hn => hr n (by simp [hn]))
    have e : Lib.joinTail [32] (y :: r) = [32] ++ y ++ Lib.joinTail [32] r := by simp [Lib.joinTail]
    rw [e, List.length_append, List.length_append, List.length_cons, List.length_nil, List.length_cons, Nat.mul_add]
    omega

theorem join_len (r : List Str) (x : Str) (k : Nat) (hx : x.length ≤ k) (hr : ∀ n ∈ r, n.length ≤ k) : (Lib.join (x :: r) [32]).length ≤ (k + 1) * (r.length + 1) := by
  rw [Lib.join_cons, List.length_append, Nat.mul_add]
  have := joinTail_len r k hr
  omega

theorem itoa_short {n : Int} (h0 : 0 ≤ n) (h1 : n ≤ 8) : Lib.itoa n = [UInt8.ofNat (48 + n.toNat)] := by
  have := itoa_nat n.toNat
  rw [show ((n.toNat : Nat) : Int) = n by omega] at this
  rw [this, Lib.decDigits_one (by omega)]

theorem okX_parts {x : Shp} (h : okX x = true) : okNs x.names = true ∧ 0 ≤ x.count ∧ x.count ≤ 8 ∧ x.names.length ≤ 8 ∧ ∀ n ∈ x.names, okName n = true := by
  unfold okX inR at h
  simp only [Bool.and_eq_true, decide_eq_true_eq] at h
  exact ⟨h.1.1, h.1.2.1, h.1.2.2, h.2, (okNs_iff.1 h.1.1).1⟩

theorem okName_len {n : Str} (h : okName n = true) : n.length ≤ 6 := by
  unfold okName inR at h
  simp only [Bool.and_eq_true, decide_eq_true_eq] at h
  omega

theorem sshapeText_ct (x : Shp) (h0 : 0 ≤ x.count) (h1 : x.count ≤ 8) (hn : x.names.length ≤ 8) (hk : ∀ n ∈ x.names, n.length ≤ 100) : ACalls pk 46 [.agg (eX x)] [] (fun r o => r = .one (.str (ShT x)) ∧ o = []) := by
  have hi := itoa_short h0 h1
  refine acalls_of_body Tryd.func46 rfl (by kernel_rfl) rfl ?_
  refine rn rfl ?_
  refine goal_step (step_call [] rfl rfl rfl rfl rfl rfl (number_ct x.count (by omega) (by omega))) ?_
  rintro σ2 ⟨r, o', ⟨rfl, rfl⟩, hσ⟩
  obtain rfl := Option.some.inj hσ
  clear hσ
  refine rn rfl ?_
  refine goal_loop_keep (fun m σ => ∃ (q : Int) (i : Nat) (acc : Str), q = i ∧ i ≤ x.names.length ∧ m = x.names.length - i ∧ acc = Lib.join (Lib.itoa x.count :: x.names.take i) [32] ∧
    σ = ⟨[(4, .one (.int .i64 q)), (3, .one (.str acc)), (1, .one (.op 0 0 0))], [some ⟨2, [eX x], false, false, true⟩], []⟩) x.names.length [4, 3, 1] [0] rfl
    ⟨_, 0, Lib.itoa x.count, rfl, by omega, by omega, by rw [List.take_zero, Lib.join_one], rfl⟩ ?_
  rintro m σ ⟨q, i, acc, rfl, hle, rfl, hacc, rfl⟩
  have hal : acc.length ≤ 1000 := by
    have := join_len (x.names.take i) (Lib.itoa x.count) 100 (by rw [hi]; simp) (fun n h => hk n (List.mem_of_mem_take h))
    rw [← hacc] at this
    have h2 : (x.names.take i).length ≤ 8 := by rw [List.length_take]; omega
    have h3 : (100 + 1) * ((x.names.take i).length + 1) ≤ 101 * 9 := Nat.mul_le_mul_left _ (by omega)
    omega
  refine rn rfl ?_
  refine goal_cond rfl (fun h => ?_) (fun h => ?_) <;> (try simp only [gt_iff_lt, ge_iff_le, bne_iff_ne, ne_eq, bne_eq_false_iff_eq, beq_iff_eq, beq_eq_false_iff_ne, Bool.not_eq_true', Bool.not_eq_false', decide_eq_true_eq, decide_eq_false_iff_not, List.length_map] at h)
  · obtain ⟨n, hn'⟩ := at_some (xs := x.names) (i := i) (by omega)
    have hnl := hk n (List.mem_of_getElem? hn')
    refine rn rfl ?_
    refine goal_did rfl rfl (dA_concat (acc ++ [32]) rfl rfl rfl (by simp; omega) rfl rfl) ?_
    refine rn rfl ?_
    refine goal_did rfl rfl (dA_index (eS n) rfl rfl rfl rfl rfl rfl rfl (by omega) (by (try simp); omega) (map_at (by simpa using hn')) rfl) ?_
    refine rn rfl ?_
    refine goal_did rfl rfl (dA_concat (acc ++ [32] ++ n) rfl rfl rfl (by simp; omega) rfl rfl) ?_
    refine rn rfl ?_
    refine round_keep (x.names.length - (i + 1)) [4, 3, 1] [0] (by omega) rfl ⟨_, i + 1, _, wrap64 (by omega) (by omega), by omega, rfl, ?_, rfl⟩
    rw [← take_snoc hn', join_snoc, ← hacc]
  · rw [show i = x.names.length by omega, List.take_length] at hacc
    have e : ShT x = acc := hacc.symm
    rw [e]
    refine rn rfl ?_
    refine round_ext ?_
    exact rn rfl (fin_is [] rfl ⟨rfl, rfl⟩)

theorem iShapeText_ct (x : Shp) (hx : LenX x) : ACalls pk 18 [.agg (eX x)] [] (fun r o => r = .one (.str (ShF x)) ∧ o = []) := by
  refine acalls_of_body Tryd.func18 rfl (by kernel_rfl) rfl ?_
  refine rn rfl ?_
  refine goal_step (step_call [] rfl rfl rfl rfl rfl rfl (ivalidShape_ct x hx)) ?_
  rintro σ2 ⟨r, o', ⟨rfl, rfl⟩, hσ⟩
  obtain rfl := Option.some.inj hσ
  clear hσ
  refine rn rfl ?_
  cases hv : okX x with
  | false =>
    have e : ShF x = [] := by unfold ShF; rw [hv]; rfl
    rw [e]
    refine goal_cond rfl (fun _ => ?_) (fun h => by simp at h)
    exact rn rfl (fin_is [] rfl ⟨rfl, rfl⟩)
  | true =>
    have e : ShF x = ShT x := by unfold ShF; rw [hv]; rfl
    rw [e]
    refine goal_cond rfl (fun h => by simp at h) (fun _ => ?_)
    obtain ⟨k1, k2, k3, k4, k5⟩ := okX_parts hv
    have hfl : [[Lib.itoa x.count], x.names].flatten = Lib.itoa x.count :: x.names := by simp
    have hc := concatS_ct [[Lib.itoa x.count], x.names] (by simp) (by rw [hfl]; simp; omega)
    rw [hfl] at hc
    have hjl := join_len x.names (Lib.itoa x.count) 100 (by rw [itoa_short k2 k3]; simp) (fun n h => by have := okName_len (k5 n h); omega)
    have hj := join_ct (Lib.itoa x.count :: x.names) [32] (by simp; omega) (by
      have : (100 + 1) * (x.names.length + 1) ≤ 101 * 9 := Nat.mul_le_mul_left _ (by omega)
      omega)
    refine rn rfl ?_
    refine goal_draw' [0] 10 rfl ?_
    refine drn [0, 1, 4, 5] (by kernel_rfl) (by kernel_rfl) rfl rfl ?_
    refine AH_one (i := 2) (by kernel_rfl) (step_call [] rfl rfl rfl rfl rfl rfl (itoa_ct x.count (by omega) (by omega))) (by simp) ?_
    rintro σ2 ⟨r, o', ⟨rfl, rfl⟩, hσ⟩
    obtain rfl := Option.some.inj hσ
    clear hσ
    refine AH_oneDid 3 rfl (by kernel_rfl) rfl (dA_step rfl) (mdOk rfl) ?_
    refine AH_oneDid 6 rfl (by kernel_rfl) rfl (dA_step rfl) (mdOk rfl) ?_
    refine AH_one (i := 7) (by kernel_rfl) (step_call [] rfl rfl rfl rfl rfl rfl (hc)) (by simp) ?_
    rintro σ2 ⟨r, o', ⟨rfl, rfl⟩, hσ⟩
    obtain rfl := Option.some.inj hσ
    clear hσ
    refine AH_one (i := 8) (by kernel_rfl) (step_callE [] rfl rfl rfl rfl rfl rfl (congrArg (fun z => [T.one (C.fs z), T.one (C.str [32])]) (takeAll eS _ _ rfl)) (hj)) (by simp) ?_
    rintro σ2 ⟨r, o', ⟨rfl, rfl⟩, hσ⟩
    obtain rfl := Option.some.inj hσ
    clear hσ
    refine drn [9] (by kernel_rfl) (by kernel_rfl) rfl rfl ?_
    refine AH_end (by kernel_rfl) ?_
    refine rn rfl ?_
    exact rn rfl (fin_is [] rfl ⟨rfl, rfl⟩)

def digQ (d : Str) : Option Nat := (List.range 9).find? fun n => d == Lib.itoa (n : Int)

theorem digQ_some {d : Str} {n : Nat} (h : digQ d = some n) : n ≤ 8 ∧ d = Lib.itoa (n : Int) := by
  unfold digQ at h
  have h1 := List.mem_of_find?_eq_some h
  have h2 := List.find?_some h
  rw [List.mem_range] at h1
  exact ⟨by omega, by simpa using h2⟩

theorem itoa_inj {m n : Nat} (hm : m ≤ 8) (hn : n ≤ 8) (h : Lib.itoa (m : Int) = Lib.itoa (n : Int)) : m = n := by
  rw [itoa_short (by omega) (by omega), itoa_short (by omega) (by omega)] at h
  simp only [Int.toNat_natCast, List.cons.injEq, and_true] at h
  have := congrArg UInt8.toNat h
  rw [UInt8.toNat_ofNat', UInt8.toNat_ofNat'] at this
  omega

theorem digQ_of {d : Str} {n : Nat} (hn : n ≤ 8) (h : d = Lib.itoa (n : Int)) : digQ d = some n := by
  cases hd : digQ d with
  | some m =>
    obtain ⟨h1, h2⟩ := digQ_some hd
    rw [itoa_inj h1 hn (by rw [← h2, h])]
  | none =>
    exfalso
    unfold digQ at hd
    rw [List.find?_eq_none] at hd
    have := hd n (by rw [List.mem_range]; omega)
    simp [h] at this

def PShF (t : Str) : Shp × Bool := match cutC 32 t with
  | [] => (⟨0, []⟩, false)
  | d :: names => match digQ d with
    | some n => if okX ⟨(n : Int), names⟩ then (⟨(n : Int), names⟩, true) else (⟨0, []⟩, false)
    | none => (⟨0, []⟩, false)

theorem psh_yes {t d : Str} {names : List Str} {n : Int} (hc : cutC 32 t = d :: names) (hd : d = Lib.itoa n) (hv : okX ⟨n, names⟩ = true) : PShF t = (⟨n, names⟩, true) := by
  obtain ⟨_, h1, h2, _⟩ := okX_parts hv
  simp only at h1 h2
  have hn : ((n.toNat : Nat) : Int) = n := by omega
  have := digQ_of (d := d) (n := n.toNat) (by omega) (by rw [hn]; exact hd)
  unfold PShF
  rw [hc]
  simp only
  rw [this]
  simp only [hn]
  rw [if_pos hv]

theorem psh_no {t d : Str} {names : List Str} (hc : cutC 32 t = d :: names) (h : ∀ n : Int, d = Lib.itoa n → okX ⟨n, names⟩ = true → False) : PShF t = (⟨0, []⟩, false) := by
  unfold PShF
  rw [hc]
  simp only
  cases hd : digQ d with
  | none => rfl
  | some n =>
    obtain ⟨_, h2⟩ := digQ_some hd
    simp only
    rw [if_neg (fun h0 => h n h2 h0)]

theorem cut_ex (c : UInt8) (t : Str) : ∃ d names, cutC c t = d :: names ∧ names.length ≤ t.length ∧ d.length ≤ t.length ∧ ∀ n ∈ names, n.length ≤ t.length := by
  have h1 := cutF_ne_nil c t []
  obtain ⟨h2, h3⟩ := cutF_len c t []
  unfold cutC
  cases hc : cutF c [] t with
  | nil => exact absurd hc h1
  | cons d names =>
    rw [hc] at h2 h3
    refine ⟨d, names, rfl, by simpa using h2, ?_, fun n hn => ?_⟩
    · simpa using h3 d (by simp)
    · simpa using h3 n (by simp [hn])

theorem atoi_small {d : Str} {names : List Str} {m : Int} (hv : okX ⟨m, names⟩ = true) (hm : d = Lib.itoa m) : Lib.atoiAll d = .ok m := by
  obtain ⟨_, h1, h2, _⟩ := okX_parts hv
  simp only at h1 h2
  have := atoi_digit (n := m.toNat) (by omega)
  rw [show ((m.toNat : Nat) : Int) = m by omega] at this
  rw [hm]; exact this

theorem clonS_ct (xs : List Str) (hl : xs.length ≤ 16777216) :
    ACalls pk 37 [.one (.fs (xs.map eS))] [] (fun r o => r = .one (.os 0 0 xs.length xs.length) ∧ o = [ownS xs]) := by
  refine acalls_of_body Tryd.func37 rfl (by kernel_rfl) rfl ?_
  refine rn rfl ?_
  refine goal_step (step_call [] rfl rfl rfl rfl rfl rfl (cloneS_ct xs hl)) ?_
  rintro σ2 ⟨r, o', ⟨rfl, rfl⟩, hσ⟩
  obtain rfl := Option.some.inj hσ
  clear hσ
  refine rn rfl ?_
  refine goal_step (step_call [0] rfl rfl rfl rfl rfl rfl (clipS_ct xs xs.length (Nat.le_refl _))) ?_
  rintro σ2 ⟨r, o', ⟨rfl, rfl⟩, hσ⟩
  obtain rfl := Option.some.inj hσ
  clear hσ
  refine rn rfl ?_
  exact rn rfl (fin_is [0] rfl ⟨rfl, rfl⟩)

theorem iParseShape_ct (t : Str) (hl : t.length ≤ 1048576) : ACalls pk 13 [.one (.str t)] [] (fun r o => r = .tup [rX (PShF t).1, .one (.bool (PShF t).2)] ∧ o = oX (PShF t).1) := by
  obtain ⟨d, names, hc, hnl, hdl, hns⟩ := cut_ex 32 t
  have hsp := split_ct t [32] (by omega) (by simp)
  rw [split_cut, hc] at hsp
  refine acalls_of_body Tryd.func13 rfl (by kernel_rfl) rfl ?_
  refine rn rfl ?_
  refine goal_step (step_call [] rfl rfl rfl rfl rfl rfl (hsp)) ?_
  rintro σ2 ⟨r, o', ⟨rfl, rfl⟩, hσ⟩
  obtain rfl := Option.some.inj hσ
  clear hσ
  refine rn rfl ?_
  refine goal_did rfl rfl (dA_index (eS d) rfl rfl rfl rfl rfl rfl rfl (by omega) (by simp only [List.length_map, List.length_cons]; omega) rfl rfl) ?_
  refine rn rfl ?_
  refine goal_step (step_call [] rfl rfl rfl rfl rfl rfl (ird_ct d (by omega))) ?_
  rintro σ2 ⟨r, o', ⟨⟨n, ok, rfl, h1, h2, h3, h4⟩, rfl⟩, hσ⟩
  obtain rfl := Option.some.inj hσ
  clear hσ
  have lx : LenX ⟨n, names⟩ := ⟨by simp only; omega, fun m hm => by have := hns m hm; omega⟩
  refine rn rfl ?_
  refine goal_did rfl rfl (dA_slice 1 (names.length + 1) (names.map eS) rfl rfl rfl rfl rfl (Bnd.some_ rfl rfl) (by simp [Bnd]) (rows_len eS_len _) (by omega) (by simp) rfl (by simp [List.take_of_length_le])) ?_
  refine rn rfl ?_
  refine goal_step (step_call [] rfl rfl rfl rfl rfl rfl (clonS_ct names (by omega))) ?_
  rintro σ2 ⟨r, o', ⟨rfl, rfl⟩, hσ⟩
  obtain rfl := Option.some.inj hσ
  clear hσ
  refine rn rfl ?_
  cases ok with
  | false =>
    have e : PShF t = (⟨0, []⟩, false) := psh_no hc fun m hm hv => by
      have := (h2 m (atoi_small hv hm) hm.symm).1
      cases this
    rw [e]
    refine goal_guard rfl rfl rfl (fun _ => ?_) (fun h => by simp at h)
    refine rn rfl ?_
    exact fin_weak (Weak.adoptO 0 1 1) (fin_is [3] rfl ⟨rfl, rfl⟩)
  | true =>
    have hd : d = Lib.itoa n := h1 rfl
    refine goal_guard rfl rfl rfl (fun h => by simp at h) (fun _ => ?_)
    refine rn rfl ?_
    refine goal_step (step_lendE [] rfl rfl rfl rfl rfl rfl rfl (cons_eq (asX ⟨n, names⟩) rfl) (ivalidShape_ct ⟨n, names⟩ lx) (by rintro r o ⟨rfl, rfl⟩; exact ⟨rfl, rfl⟩)) ?_
    rintro σ2 ⟨r, o', ⟨rfl, rfl⟩, hσ⟩
    obtain rfl := Option.some.inj hσ
    clear hσ
    refine rn rfl ?_
    cases hv : okX ⟨n, names⟩ with
    | false =>
      have e : PShF t = (⟨0, []⟩, false) := psh_no hc fun m hm hv' => by
        have := (h2 m (atoi_small hv' hm) hm.symm).2
        rw [this, hv'] at hv; cases hv
      rw [e]
      refine goal_guard rfl rfl rfl (fun _ => ?_) (fun h => by simp at h)
      refine rn rfl ?_
      exact fin_weak (Weak.adoptO 0 1 1) (fin_is [3] rfl ⟨rfl, rfl⟩)
    | true =>
      have e := psh_yes hc hd hv
      rw [e]
      have ht : ShF ⟨n, names⟩ = t := by
        unfold ShF ShT
        rw [if_pos hv]
        simp only
        rw [← hd, ← hc]
        unfold cutC
        rw [join_cut]; simp
      refine goal_guard rfl rfl rfl (fun h => by simp at h) (fun _ => ?_)
      refine rn rfl ?_
      refine goal_step (step_lendE [] rfl rfl rfl rfl rfl rfl rfl (cons_eq (asX ⟨n, names⟩) rfl) (iShapeText_ct ⟨n, names⟩ lx) (by rintro r o ⟨rfl, rfl⟩; exact ⟨rfl, rfl⟩)) ?_
      rintro σ2 ⟨r, o', ⟨rfl, rfl⟩, hσ⟩
      obtain rfl := Option.some.inj hσ
      clear hσ
      refine rn rfl ?_
      rw [ht]
      refine goal_cond rfl (fun h => by simp at h) (fun _ => ?_)
      refine rn rfl ?_
      exact fin_is [1] rfl ⟨rfl, rfl⟩

theorem iParseShapeD_ct (t : Str) (hl : t.length ≤ 1048576) : ACalls pk 13 [.one (.str t)] [] (fun r o => r = .tup [.agg (eX (PShF t).1), .one (.bool (PShF t).2)] ∧ o = []) :=
  (iParseShape_ct t hl).told [] (by rintro r o ⟨rfl, rfl⟩; exact ⟨_, _, rfl, congrArg (fun x => T.tup [x, .one (.bool (PShF t).2)]) (asX _), rfl⟩)

theorem RdS_digit {m : Nat} (h : m ≤ 8) : RdS (Lib.itoa (m : Int)) = ((m : Int), true) := by
  have hi := itoa_short (n := (m : Int)) (by omega) (by omega)
  simp only [Int.toNat_natCast] at hi
  have hc : (UInt8.ofNat (48 + m)).toNat = 48 + m := by rw [UInt8.toNat_ofNat']; omega
  have ha : sgnAt [UInt8.ofNat (48 + m)] = 0 := by
    unfold sgnAt
    simp only [hc]
    rw [if_neg (by simp; omega)]
  have hs : stepD 0 (UInt8.ofNat (48 + m)) = some m := by
    unfold stepD
    rw [hc, if_neg (by omega), if_neg (by omega), if_neg (by omega)]
    congr 1; omega
  unfold RdS
  rw [hi, ha, List.drop_zero, foldD_cons, hs]
  simp only [Option.bind_some, foldD_nil]
  have hg : sgQ [UInt8.ofNat (48 + m)] m = (m : Int) := by unfold sgQ; rw [ha]; rfl
  rw [hg, hi]; simp

theorem splitAtD_ct (s : Str) (c : UInt8) (hl : s.length ≤ 1048576) : ACalls pk 32 [.one (.str s), .one (.int .u8 c.toNat)] [] (fun r o => r = .one (.fs ((piecesQ c s).map eS)) ∧ o = []) :=
  (splitAt_ct s c hl).told [] (by rintro r o ⟨rfl, rfl⟩; exact ⟨_, _, rfl, congrArg (fun x => T.one (C.fs x)) (takeAll eS _ _ rfl), rfl⟩)

theorem sParseShape_ct (t : Str) (hl : t.length ≤ 1048576) : ACalls pk 12 [.one (.str t)] [] (fun r o => r = .tup [.agg (eX (PShF t).1), .one (.bool (PShF t).2)] ∧ o = []) := by
  obtain ⟨d, names, hc, hnl, hdl, hns⟩ := cut_ex 32 t
  have hsp := splitAtD_ct t 32 hl
  unfold piecesQ at hsp
  by_cases h0 : t = []
  · have e : PShF t = (⟨0, []⟩, false) := by
      subst h0
      have : cutC 32 [] = [[]] := rfl
      refine psh_no this fun n hn hv => ?_
      obtain ⟨_, h1, h2, _⟩ := okX_parts hv
      rw [itoa_short h1 h2] at hn
      cases hn
    rw [if_pos h0] at hsp
    rw [e]
    refine acalls_of_body Tryd.func12 rfl (by kernel_rfl) rfl ?_
    refine rn rfl ?_
    refine goal_step (step_call [] rfl rfl rfl rfl rfl rfl (hsp)) ?_
    rintro σ2 ⟨r, o', ⟨rfl, rfl⟩, hσ⟩
    obtain rfl := Option.some.inj hσ
    clear hσ
    refine rn rfl ?_
    refine goal_cond rfl (fun _ => ?_) (fun h => by simp at h)
    exact rn rfl (fin_is [] rfl ⟨rfl, rfl⟩)
  rw [if_neg h0, hc] at hsp
  have hR := srd_ct d (by omega)
  have lx : LenX ⟨(RdS d).1, names⟩ := ⟨by simp only; omega, fun m hm => by have := hns m hm; omega⟩
  have hok : (RdS d).2 = true → d = Lib.itoa (RdS d).1 := fun h => by
    unfold RdS at h ⊢
    cases hf : foldD 0 (d.drop (sgnAt d)) with
    | none => rw [hf] at h; cases h
    | some n => rw [hf] at h; simpa using h
  have hof : ∀ m : Int, d = Lib.itoa m → okX ⟨m, names⟩ = true → RdS d = (m, true) := fun m hm hv => by
    obtain ⟨_, h1, h2, _⟩ := okX_parts hv
    simp only at h1 h2
    have := RdS_digit (m := m.toNat) (by omega)
    rw [show ((m.toNat : Nat) : Int) = m by omega] at this
    rw [hm]; exact this
  generalize RdS d = R at *
  obtain ⟨n, ok⟩ := R
  simp only at hR lx hok hof
  refine acalls_of_body Tryd.func12 rfl (by kernel_rfl) rfl ?_
  refine rn rfl ?_
  refine goal_step (step_call [] rfl rfl rfl rfl rfl rfl (hsp)) ?_
  rintro σ2 ⟨r, o', ⟨rfl, rfl⟩, hσ⟩
  obtain rfl := Option.some.inj hσ
  clear hσ
  refine rn rfl ?_
  refine goal_cond rfl (fun h => by simp at h; omega) (fun _ => ?_)
  refine rn rfl ?_
  refine goal_did rfl rfl (dA_index (eS d) rfl rfl rfl rfl rfl rfl rfl (by omega) (by simp only [List.length_map, List.length_cons]; omega) rfl rfl) ?_
  refine rn rfl ?_
  refine goal_step (step_call [] rfl rfl rfl rfl rfl rfl (hR)) ?_
  rintro σ2 ⟨r, o', ⟨rfl, rfl⟩, hσ⟩
  obtain rfl := Option.some.inj hσ
  clear hσ
  refine rn rfl ?_
  refine goal_did rfl rfl (dA_slice 1 (names.length + 1) (names.map eS) rfl rfl rfl rfl rfl (Bnd.some_ rfl rfl) (by simp [Bnd]) (rows_len eS_len _) (by omega) (by simp) rfl (by simp [List.take_of_length_le])) ?_
  refine rn rfl ?_
  cases ok with
  | false =>
    have e : PShF t = (⟨0, []⟩, false) := psh_no hc fun m hm hv => by
      have := hof m hm hv
      cases this
    rw [e]
    refine goal_guard rfl rfl rfl (fun _ => ?_) (fun h => by simp at h)
    exact rn rfl (fin_is [] rfl ⟨rfl, rfl⟩)
  | true =>
    refine goal_guard rfl rfl rfl (fun h => by simp at h) (fun _ => ?_)
    refine rn rfl ?_
    refine goal_step (step_call [] rfl rfl rfl rfl rfl rfl (svalidShape_ct ⟨n, names⟩ lx)) ?_
    rintro σ2 ⟨r, o', ⟨rfl, rfl⟩, hσ⟩
    obtain rfl := Option.some.inj hσ
    clear hσ
    refine rn rfl ?_
    cases hv : okX ⟨n, names⟩ with
    | false =>
      have e : PShF t = (⟨0, []⟩, false) := psh_no hc fun m hm hv' => by
        have := hof m hm hv'
        cases this
        rw [hv'] at hv; cases hv
      rw [e]
      refine goal_cond rfl (fun _ => ?_) (fun h => by simp at h)
      exact rn rfl (fin_is [] rfl ⟨rfl, rfl⟩)
    | true =>
      rw [psh_yes hc (hok rfl) hv]
      refine goal_cond rfl (fun h => by simp at h) (fun _ => ?_)
      exact rn rfl (fin_is [] rfl ⟨rfl, rfl⟩)

theorem sShapeText_ct (x : Shp) (hx : LenX x) : ACalls pk 19 [.agg (eX x)] [] (fun r o => r = .one (.str (ShF x)) ∧ o = []) := by
  refine acalls_of_body Tryd.func19 rfl (by kernel_rfl) rfl ?_
  refine rn rfl ?_
  refine goal_step (step_call [] rfl rfl rfl rfl rfl rfl (svalidShape_ct x hx)) ?_
  rintro σ2 ⟨r, o', ⟨rfl, rfl⟩, hσ⟩
  obtain rfl := Option.some.inj hσ
  clear hσ
  refine rn rfl ?_
  cases hv : okX x with
  | false =>
    have e : ShF x = [] := by unfold ShF; rw [hv]; rfl
    rw [e]
    refine goal_cond rfl (fun _ => ?_) (fun h => by simp at h)
    exact rn rfl (fin_is [] rfl ⟨rfl, rfl⟩)
  | true =>
    have e : ShF x = ShT x := by unfold ShF; rw [hv]; rfl
    rw [e]
    refine goal_cond rfl (fun h => by simp at h) (fun _ => ?_)
    obtain ⟨k1, k2, k3, k4, k5⟩ := okX_parts hv
    refine rn rfl ?_
    refine goal_step (step_call [] rfl rfl rfl rfl rfl rfl (sshapeText_ct x k2 k3 k4 (fun n h => by have := okName_len (k5 n h); omega))) ?_
    rintro σ2 ⟨r, o', ⟨rfl, rfl⟩, hσ⟩
    obtain rfl := Option.some.inj hσ
    clear hσ
    refine rn rfl ?_
    exact rn rfl (fin_is [] rfl ⟨rfl, rfl⟩)

theorem psh_len (t : Str) : (PShF t).1.names.length ≤ 8 := by
  unfold PShF
  split
  · simp
  · split
    · split
      · rename_i h
        exact (okX_parts h).2.2.2.1
      · simp
    · simp

theorem one_len {xs : List Str} {v : Str} (hv : v ∈ xs) (h : xs.all (fun x => decide (x.length ≤ 3)) = true) : v.length ≤ 3 := by
  rw [List.all_eq_true] at h
  simpa using h v hv

theorem mutate_ct (bs : Str) (k : Int) (s : Str) (hb : bs.length ≤ 2000) (hk : 0 ≤ k) (hk' : k ≤ 1073700000) (hs : s.length ≤ 100000) :
    ACalls pk 49 [.one (.op 0 0 0), .one (.str s)] [oR bs k] (fun r o => ∃ t k', t.length ≤ s.length + 3 ∧ k ≤ k' ∧ k' ≤ k + 3 ∧ r = .one (.str t) ∧ o = [oR bs k']) := by
  have hw : IntKind.i64.wrap ((s.length : Int) + 1) = (s.length : Int) + 1 := wrap64 (by omega) (by omega)
  refine acalls_of_body Tryd.func49 rfl (by kernel_rfl) rfl ?_
  refine rn rfl ?_
  refine goal_step (step_callE [0] rfl rfl rfl rfl rfl rfl (congrArg (fun z => [T.one (C.op 0 0 0), T.one (C.int .i64 z)]) hw) (pick_ct bs k ((s.length : Int) + 1) hb hk (by omega) (by omega))) ?_
  rintro σ2 ⟨r, o', ⟨⟨y, rfl, hy, _⟩, rfl⟩, hσ⟩
  obtain rfl := Option.some.inj hσ
  clear hσ
  refine rn rfl ?_
  have hy' := hy (by omega)
  obtain ⟨j, rfl⟩ : ∃ j : Nat, y = j := ⟨y.toNat, by omega⟩
  refine goal_step (step_callE [0] rfl rfl rfl rfl rfl rfl (rfl) (pick_ct bs (k + 1) 5 hb (by omega) (by omega) (by omega))) ?_
  rintro σ2 ⟨r, o', ⟨⟨z, rfl, _, _⟩, rfl⟩, hσ⟩
  obtain rfl := Option.some.inj hσ
  clear hσ
  refine rn rfl ?_
  refine goal_cond rfl (fun c0 => ?_) (fun c0 => ?_) <;> (try simp only [gt_iff_lt, ge_iff_le, bne_iff_ne, ne_eq, bne_eq_false_iff_eq, beq_iff_eq, beq_eq_false_iff_ne, Bool.not_eq_true', Bool.not_eq_false', decide_eq_true_eq, decide_eq_false_iff_not, List.length_map] at c0)
  · refine rn rfl ?_
    refine goal_cond rfl (fun _ => ?_) (fun h => by simp [c0] at h)
    refine rn rfl ?_
    refine goal_cond rfl (fun hlt => ?_) (fun hlt => ?_) <;> (try simp only [gt_iff_lt, ge_iff_le, bne_iff_ne, ne_eq, bne_eq_false_iff_eq, beq_iff_eq, beq_eq_false_iff_ne, Bool.not_eq_true', Bool.not_eq_false', decide_eq_true_eq, decide_eq_false_iff_not, List.length_map] at hlt)
    · refine rn rfl ?_
      refine goal_draw' [] 13 rfl ?_
      refine drn [0, 1, 3, 7, 8, 9] (by kernel_rfl) (by kernel_rfl) rfl rfl ?_
      refine AH_did 2 rfl (by kernel_rfl) (by kernel_rfl) (by kernel_rfl) rfl rfl (dA_strSlice 0 j (s.take j) rfl rfl rfl rfl Bnd.none_ (Bnd.some_ rfl rfl) (by omega) (by omega) rfl rfl) ?_
      refine AH_did 10 rfl (by kernel_rfl) (by kernel_rfl) (by kernel_rfl) rfl rfl (dA_strSlice (j + 1) s.length (s.drop (j + 1)) rfl rfl rfl rfl (Bnd.some_ rfl (wrap64 (by omega) (by omega))) Bnd.none_ (by omega) (Nat.le_refl _) rfl (by rw [List.take_of_length_le (by simp)])) ?_
      refine AH_oneDid 4 rfl (by kernel_rfl) rfl (dA_step rfl) (mdOk rfl) ?_
      refine AH_one (i := 5) (by kernel_rfl) (step_callE [0] rfl rfl rfl rfl rfl rfl (rfl) (of_ct bs (k + 1 + 1) [[48], [49], [32], [44], [97], [42], [61], [47], [45], [40], [41], [10]] hb (by omega) (by omega) (by decide) (by decide))) (by simp) ?_
      rintro σ2 ⟨r, o', ⟨⟨v, hv, rfl⟩, rfl⟩, hσ⟩
      obtain rfl := Option.some.inj hσ
      clear hσ
      have hv1 := one_len hv (by decide)
      refine AH_did 6 rfl (by kernel_rfl) (by kernel_rfl) (by kernel_rfl) rfl rfl (dA_concat (s.take j ++ v) rfl rfl rfl (by simp; omega) rfl rfl) ?_
      refine AH_did 11 rfl (by kernel_rfl) (by kernel_rfl) (by kernel_rfl) rfl rfl (dA_concat (s.take j ++ v ++ s.drop (j + 1)) rfl rfl rfl (by simp; omega) rfl rfl) ?_
      refine drn [12] (by kernel_rfl) (by kernel_rfl) rfl rfl ?_
      refine AH_end (by kernel_rfl) ?_
      refine rn rfl ?_
      refine rn rfl (fin_is [] rfl ⟨_, k + 1 + 1 + 1, ?_, by omega, by omega, rfl, rfl⟩)
      simp; omega
    · exact rn rfl (fin_is [] rfl ⟨s, k + 1 + 1, by omega, by omega, by omega, rfl, rfl⟩)
  · refine rn rfl ?_
    refine goal_cond rfl (fun c1 => ?_) (fun c1 => ?_) <;> (try simp only [gt_iff_lt, ge_iff_le, bne_iff_ne, ne_eq, bne_eq_false_iff_eq, beq_iff_eq, beq_eq_false_iff_ne, Bool.not_eq_true', Bool.not_eq_false', decide_eq_true_eq, decide_eq_false_iff_not, List.length_map] at c1)
    · refine rn rfl ?_
      refine goal_cond rfl (fun hlt => ?_) (fun hlt => ?_) <;> (try simp only [gt_iff_lt, ge_iff_le, bne_iff_ne, ne_eq, bne_eq_false_iff_eq, beq_iff_eq, beq_eq_false_iff_ne, Bool.not_eq_true', Bool.not_eq_false', decide_eq_true_eq, decide_eq_false_iff_not, List.length_map] at hlt)
      · refine rn rfl ?_
        refine goal_draw' [] 13 rfl ?_
        refine drn [0, 1, 3, 7, 8, 9] (by kernel_rfl) (by kernel_rfl) rfl rfl ?_
        refine AH_did 2 rfl (by kernel_rfl) (by kernel_rfl) (by kernel_rfl) rfl rfl (dA_strSlice 0 j (s.take j) rfl rfl rfl rfl Bnd.none_ (Bnd.some_ rfl rfl) (by omega) (by omega) rfl rfl) ?_
        refine AH_did 10 rfl (by kernel_rfl) (by kernel_rfl) (by kernel_rfl) rfl rfl (dA_strSlice (j + 1) s.length (s.drop (j + 1)) rfl rfl rfl rfl (Bnd.some_ rfl (wrap64 (by omega) (by omega))) Bnd.none_ (by omega) (Nat.le_refl _) rfl (by rw [List.take_of_length_le (by simp)])) ?_
        refine AH_oneDid 4 rfl (by kernel_rfl) rfl (dA_step rfl) (mdOk rfl) ?_
        refine AH_one (i := 5) (by kernel_rfl) (step_callE [0] rfl rfl rfl rfl rfl rfl (rfl) (of_ct bs (k + 1 + 1) [[48], [49], [32], [44], [97], [42], [61], [47], [45], [40], [41], [10]] hb (by omega) (by omega) (by decide) (by decide))) (by simp) ?_
        rintro σ2 ⟨r, o', ⟨⟨v, hv, rfl⟩, rfl⟩, hσ⟩
        obtain rfl := Option.some.inj hσ
        clear hσ
        have hv1 := one_len hv (by decide)
        refine AH_did 6 rfl (by kernel_rfl) (by kernel_rfl) (by kernel_rfl) rfl rfl (dA_concat (s.take j ++ v) rfl rfl rfl (by simp; omega) rfl rfl) ?_
        refine AH_did 11 rfl (by kernel_rfl) (by kernel_rfl) (by kernel_rfl) rfl rfl (dA_concat (s.take j ++ v ++ s.drop (j + 1)) rfl rfl rfl (by simp; omega) rfl rfl) ?_
        refine drn [12] (by kernel_rfl) (by kernel_rfl) rfl rfl ?_
        refine AH_end (by kernel_rfl) ?_
        refine rn rfl ?_
        refine rn rfl (fin_is [] rfl ⟨_, k + 1 + 1 + 1, ?_, by omega, by omega, rfl, rfl⟩)
        simp; omega
      · exact rn rfl (fin_is [] rfl ⟨s, k + 1 + 1, by omega, by omega, by omega, rfl, rfl⟩)
    · refine rn rfl ?_
      refine goal_cond rfl (fun c2 => ?_) (fun c2 => ?_) <;> (try simp only [gt_iff_lt, ge_iff_le, bne_iff_ne, ne_eq, bne_eq_false_iff_eq, beq_iff_eq, beq_eq_false_iff_ne, Bool.not_eq_true', Bool.not_eq_false', decide_eq_true_eq, decide_eq_false_iff_not, List.length_map] at c2)
      · refine rn rfl ?_
        refine goal_did rfl rfl (dA_strSlice 0 j (s.take j) rfl rfl rfl rfl Bnd.none_ (Bnd.some_ rfl rfl) (by omega) (by omega) rfl rfl) ?_
        refine rn rfl ?_
        exact fin_is [] rfl ⟨_, k + 1 + 1, by simp; omega, by omega, by omega, rfl, rfl⟩
      · refine rn rfl ?_
        refine goal_cond rfl (fun c3 => ?_) (fun c3 => ?_) <;> (try simp only [gt_iff_lt, ge_iff_le, bne_iff_ne, ne_eq, bne_eq_false_iff_eq, beq_iff_eq, beq_eq_false_iff_ne, Bool.not_eq_true', Bool.not_eq_false', decide_eq_true_eq, decide_eq_false_iff_not, List.length_map] at c3)
        · refine rn rfl ?_
          refine goal_step (step_callE [0] rfl rfl rfl rfl rfl rfl (rfl) (of_ct bs (k + 1 + 1) [[48], [32], [44, 32, 97], [42], [47], [41]] hb (by omega) (by omega) (by decide) (by decide))) ?_
          rintro σ2 ⟨r, o', ⟨⟨v, hv, rfl⟩, rfl⟩, hσ⟩
          obtain rfl := Option.some.inj hσ
          clear hσ
          refine rn rfl ?_
          have hv1 := one_len hv (by decide)
          refine goal_did rfl rfl (dA_concat (s ++ v) rfl rfl rfl (by omega) rfl rfl) ?_
          refine rn rfl ?_
          exact fin_is [] rfl ⟨_, k + 1 + 1 + 1, by simp; omega, by omega, by omega, rfl, rfl⟩
        · exact rn rfl (fin_is [] rfl ⟨s, k + 1 + 1, by omega, by omega, by omega, rfl, rfl⟩)

theorem psh_ok {t : Str} (h : (PShF t).2 = true) : okX (PShF t).1 = true ∧ ShF (PShF t).1 = t := by
  obtain ⟨d, names, hc, _⟩ := cut_ex 32 t
  have e : PShF t = (match digQ d with
    | some n => if okX ⟨(n : Int), names⟩ then (⟨(n : Int), names⟩, true) else (⟨0, []⟩, false)
    | none => (⟨0, []⟩, false)) := by
    unfold PShF
    rw [hc]
    all_goals (simp only; cases digQ d <;> rfl)
  rw [e] at h ⊢
  cases hd : digQ d with
  | none => rw [hd] at h; cases h
  | some n =>
    rw [hd] at h
    simp only at h ⊢
    obtain ⟨_, h2⟩ := digQ_some hd
    by_cases hv : okX ⟨(n : Int), names⟩ = true
    · rw [if_pos hv]
      refine ⟨hv, ?_⟩
      unfold ShF ShT
      simp only
      rw [if_pos hv, ← h2, ← hc]
      unfold cutC
      rw [join_cut]; simp
    · rw [if_neg hv] at h; cases h

theorem shf_len {x : Shp} : (ShF x).length ≤ 1000 := by
  unfold ShF
  split
  · rename_i h
    obtain ⟨k1, k2, k3, k4, k5⟩ := okX_parts h
    have := join_len x.names (Lib.itoa x.count) 100 (by rw [itoa_short k2 k3]; simp) (fun n h => by have := okName_len (k5 n h); omega)
    have h2 : (100 + 1) * (x.names.length + 1) ≤ 101 * 9 := Nat.mul_le_mul_left _ (by omega)
    unfold ShT
    omega
  · simp

theorem drawParseShape_ct (bs : Str) : ACalls pk 21 [.one (.fs (bs.map rowB))] [] (fun r o => ∃ t : Str, t.length ≤ 2000 ∧ r = .one (.str t) ∧ o = []) := by
  have hb : (bs.take 2000).length ≤ 2000 := by simp; omega
  refine acalls_of_body Tryd.func21 rfl (by kernel_rfl) rfl ?_
  refine rn rfl ?_
  refine goal_step (step_call [] rfl rfl rfl rfl rfl rfl (newReader_ct bs)) ?_
  rintro σ2 ⟨r, o', ⟨rfl, rfl⟩, hσ⟩
  obtain rfl := Option.some.inj hσ
  clear hσ
  refine rn rfl ?_
  refine goal_step (step_callE [0] rfl rfl rfl rfl rfl rfl rfl (someShape_ct (bs.take 2000) 0 hb (by omega) (by omega))) ?_
  rintro σ2 ⟨r, o', ⟨x, k1, hx, hk1, hk2, rfl, rfl⟩, hσ⟩
  obtain rfl := Option.some.inj hσ
  clear hσ
  have hl := shf_len (x := x)
  refine rn rfl ?_
  refine goal_step (step_call [] rfl rfl rfl rfl rfl rfl (sShapeText_ct x hx.lenX)) ?_
  rintro σ2 ⟨r, o', ⟨rfl, rfl⟩, hσ⟩
  obtain rfl := Option.some.inj hσ
  clear hσ
  refine rn rfl ?_
  refine goal_step (step_callE [0] rfl rfl rfl rfl rfl rfl (rfl) (pick_ct (bs.take 2000) k1 3 hb (by omega) (by omega) (by omega))) ?_
  rintro σ2 ⟨r, o', ⟨⟨z, rfl, _, _⟩, rfl⟩, hσ⟩
  obtain rfl := Option.some.inj hσ
  clear hσ
  refine rn rfl ?_
  refine goal_cond rfl (fun h => ?_) (fun h => ?_) <;> (try simp only [gt_iff_lt, ge_iff_le, bne_iff_ne, ne_eq, bne_eq_false_iff_eq, beq_iff_eq, beq_eq_false_iff_ne, Bool.not_eq_true', Bool.not_eq_false', decide_eq_true_eq, decide_eq_false_iff_not, List.length_map] at h)
  · refine rn rfl ?_
    refine goal_step (step_callE [0] rfl rfl rfl rfl rfl rfl (rfl) (mutate_ct (bs.take 2000) (k1 + 1) (ShF x) hb (by omega) (by omega) (by omega))) ?_
    rintro σ2 ⟨r, o', ⟨t, k2, ht, _, _, rfl, rfl⟩, hσ⟩
    obtain rfl := Option.some.inj hσ
    clear hσ
    refine rn rfl ?_
    exact rn rfl (fin_is [] rfl ⟨t, by omega, rfl, rfl⟩)
  · exact rn rfl (fin_is [] rfl ⟨_, by omega, rfl, rfl⟩)

theorem fnParseShape_ct (bs : Str) (hl : bs.length ≤ 9223372036854775807) : ACalls pk 6 [.one (.fs (bs.map rowB))] [] (fun r o => r = .one (.bool true) ∧ o = []) := by
  refine acalls_of_body Tryd.func6 rfl (by kernel_rfl) rfl ?_
  refine rn rfl ?_
  refine goal_cond rfl (fun h => ?_) (fun h => ?_) <;> (try simp only [gt_iff_lt, ge_iff_le, bne_iff_ne, ne_eq, bne_eq_false_iff_eq, beq_iff_eq, beq_eq_false_iff_ne, Bool.not_eq_true', Bool.not_eq_false', decide_eq_true_eq, decide_eq_false_iff_not, List.length_map] at h)
  · exact rn rfl (fin_is [] rfl ⟨rfl, rfl⟩)
  · refine rn rfl ?_
    refine goal_step (step_call [] rfl rfl rfl rfl rfl rfl (drawParseShape_ct bs)) ?_
    rintro σ2 ⟨r, o', ⟨t, ht, rfl, rfl⟩, hσ⟩
    obtain rfl := Option.some.inj hσ
    clear hσ
    have hI := iParseShapeD_ct t (by omega)
    have hS := sParseShape_ct t (by omega)
    have hn := psh_len t
    have hk : LenX (PShF t).1 := ⟨by omega, fun n hn' => by
      cases hb : (PShF t).2 with
      | true => have := okName_len ((okX_parts (psh_ok hb).1).2.2.2.2 n hn'); omega
      | false =>
        have hz : (PShF t).1 = ⟨0, []⟩ := by
          obtain ⟨d, names, hc, _⟩ := cut_ex 32 t
          unfold PShF at hb ⊢
          rw [hc] at hb ⊢
          simp only at hb ⊢
          split
          · rename_i m hm
            rw [hm] at hb
            simp only at hb
            split
            · rename_i hv; rw [if_pos hv] at hb; cases hb
            · rfl
          · rfl
        rw [hz] at hn'
        simp at hn'⟩
    have hq := equalShape_ct (PShF t).1 (by omega)
    have hT := iShapeText_ct (PShF t).1 hk
    have hV := ivalidShape_ct (PShF t).1 hk
    have ho := psh_ok (t := t)
    generalize (PShF t).1 = x at *
    generalize (PShF t).2 = ok at *
    refine rn rfl ?_
    refine goal_step (step_call [] rfl rfl rfl rfl rfl rfl (hI)) ?_
    rintro σ2 ⟨r, o', ⟨rfl, rfl⟩, hσ⟩
    obtain rfl := Option.some.inj hσ
    clear hσ
    refine rn rfl ?_
    refine rn rfl ?_
    refine goal_step (step_call [] rfl rfl rfl rfl rfl rfl (hS)) ?_
    rintro σ2 ⟨r, o', ⟨rfl, rfl⟩, hσ⟩
    obtain rfl := Option.some.inj hσ
    clear hσ
    refine rn rfl ?_
    refine rn rfl ?_
    refine goal_step (step_call [] rfl rfl rfl rfl rfl rfl (hq)) ?_
    rintro σ2 ⟨r, o', ⟨rfl, rfl⟩, hσ⟩
    obtain rfl := Option.some.inj hσ
    clear hσ
    refine rn rfl ?_
    refine goal_guard rfl rfl rfl (fun h1 => by cases h1) (fun _ => ?_)
    refine rn rfl ?_
    refine goal_guard rfl rfl rfl (fun h2 => by simp at h2) (fun _ => ?_)
    refine rn rfl ?_
    refine goal_cond rfl (fun h3 => ?_) (fun h3 => ?_)
    · refine rn rfl ?_
      refine goal_step (step_call [] rfl rfl rfl rfl rfl rfl (hq)) ?_
      rintro σ2 ⟨r, o', ⟨rfl, rfl⟩, hσ⟩
      obtain rfl := Option.some.inj hσ
      clear hσ
      refine rn rfl ?_
      refine goal_guard rfl rfl rfl (fun _ => ?_) (fun h4 => by cases h4)
      refine rn rfl (fin_is [] rfl ⟨?_, rfl⟩)
      simp
    · have hok : ok = true := by simpa using h3
      obtain ⟨o1, o2⟩ := ho hok
      rw [o2] at hT
      rw [o1] at hV
      refine rn rfl ?_
      refine goal_step (step_call [] rfl rfl rfl rfl rfl rfl (hT)) ?_
      rintro σ2 ⟨r, o', ⟨rfl, rfl⟩, hσ⟩
      obtain rfl := Option.some.inj hσ
      clear hσ
      refine rn rfl ?_
      refine goal_guard rfl rfl rfl (fun _ => ?_) (fun h4 => by simp at h4)
      refine rn rfl ?_
      refine goal_step (step_call [] rfl rfl rfl rfl rfl rfl (hV)) ?_
      rintro σ2 ⟨r, o', ⟨rfl, rfl⟩, hσ⟩
      obtain rfl := Option.some.inj hσ
      clear hσ
      refine rn rfl ?_
      exact rn rfl (fin_is [] rfl ⟨rfl, rfl⟩)

section
open Go Go.ChangeShapes Go.WideShapes Go.ChangeAt Go.RowKit
theorem var_heap {P : Program} {W : World} {name : String} {g : Nat} {cs : Array Value} (hn : P.globalNamed name = some g) (h : W.var? P name = some cs) : ∃ t fr, W.heap[g]? = some (.cells cs t fr) := by
  unfold World.var? at h
  rw [hn, Option.bind_some] at h
  split at h
  · rename_i cs' t fr hh
    cases h
    exact ⟨t, fr, hh⟩
  · cases h

theorem err_row (u : TypeId) (h : Tryd.prog.typeName? 3 u = some "*errors.errorString") : u = 172 := by
  have hs : "*" ++ "errors.errorString" = "*errors.errorString" := by decide
  exact typeName_ptr_named (nm := "errors.errorString") (by rw [hs]; kernel_rfl) (by kernel_rfl) (by decide) u (by rw [hs]; exact h)

theorem glob_entry {W : World} {a b d : String × DataW Unit} {r : List (String × DataW Unit)} (hsh : W.ShapedOpen Tryd.prog)
    (hL : laidMet Tryd.prog (a :: b :: ("internal/strconv.uint64pow10", Rows.laid_internal_strconv_uint64pow10) :: d :: ("strconv.ErrRange", Rows.laid_strconv_ErrRange) :: ("strconv.ErrSyntax", Rows.laid_strconv_ErrSyntax) :: r) W) : GlobOk W [] := by
  have hp : Lib.TabIs Tryd.prog W "internal/strconv.uint64pow10" .u64 Lib.pow10Tab := Lib.tabIs_of_head (g := 3) (t := 161) (e := 148) (n := 20) (by kernel_rfl) (by kernel_rfl) (by kernel_rfl) (by kernel_rfl) (by kernel_rfl) (by kernel_rfl) (show laidMet _ (("internal/strconv.uint64pow10", Lib.tabData .u64 Lib.pow10Tab) :: _) W from hL.tail.tail)
  obtain ⟨a1, s1, h1, -⟩ := laid_sentinel hL.tail.tail.tail.tail (show Tryd.prog.globalNamed "strconv.ErrRange" = some 2 by kernel_rfl) (show (Tryd.prog.globals[2]?).map (·.type) = some 60 by kernel_rfl) Tryd.underlying60 err_row Tryd.underlying172 Tryd.underlying174 rfl rfl Tryd.underlying9 (by kernel_rfl) (by kernel_rfl)
  obtain ⟨a2, s2, h2, -⟩ := laid_sentinel hL.tail.tail.tail.tail.tail (show Tryd.prog.globalNamed "strconv.ErrSyntax" = some 1 by kernel_rfl) (show (Tryd.prog.globals[1]?).map (·.type) = some 60 by kernel_rfl) Tryd.underlying60 err_row Tryd.underlying172 Tryd.underlying174 rfl rfl Tryd.underlying9 (by kernel_rfl) (by kernel_rfl)
  obtain ⟨m, hm⟩ := Go.Proofs.cell_of_shapedOpen_int (g := 0) (zero := #[.int .i64 0]) (t := 3) hsh (of_decide_eq_true (by kernel_rfl)) (by kernel_rfl) rfl (by kernel_rfl) (by kernel_rfl) Tryd.underlying3
  obtain ⟨t1, f1, e1⟩ := var_heap (by kernel_rfl) h1
  obtain ⟨t2, f2, e2⟩ := var_heap (by kernel_rfl) h2
  obtain ⟨t3, f3, e3⟩ := var_heap (g := 3) (by kernel_rfl) hp
  intro g hg
  refine ⟨by rintro ⟨id, ad, esz, cap, n, he, _⟩; simp at he, ?_⟩
  simp only [GL, List.mem_cons, List.not_mem_nil, or_false] at hg
  rcases hg with rfl | rfl | rfl | rfl
  · unfold World.cell? at hm
    split at hm
    · rename_i cs t fr hh
      split at hm
      · cases hm
      · exact ⟨_, hh, cs, t, fr, rfl, fun _ => ⟨m, by simpa using hm⟩, fun h => by omega, fun h => by omega⟩
    · cases hm
  · exact ⟨_, e2, _, _, _, rfl, fun h => by omega, fun _ => ⟨_, _, rfl⟩, fun h => by omega⟩
  · exact ⟨_, e1, _, _, _, rfl, fun h => by omega, fun _ => ⟨_, _, rfl⟩, fun h => by omega⟩
  · exact ⟨_, e3, _, _, _, rfl, fun h => by omega, fun h => by omega, fun _ => rfl⟩

/-- The wrap that keeps the world's shape and the listed variables. -/
theorem returnsInHanded_and_shaped {H : Type} {enc : TypeId × Value → H} {a : Assume} {C : Checked} {os : Os} {f : FuncId} {fn : Func} {s : ChangeSpec} {conds : List PathCond} {apart fresh handsOn again : Bool} {X : World → Array Value → Prop}
    (hX : ∀ (w w' : World) (args : Array Value), w.heap = w'.heap → X w args → X w' args)
    (own : ownKnob C.prog.godebug = none) (started : os.Started) (noInit : C.prog.inits.idxOf? f = none) (hfn : C.prog.funcs[f]? = some fn)
    (witness : ∃ (w : World) (tape : Tape) (i : Input), w.os = os ∧ (w.forCall tape i).Shaped C.prog ∧ i.vars = [] ∧ Input.okWide C.prog (w.forCall tape i) .any w.heap.size f i ∧
      ((s.pre enc C.prog fn conds apart (w.forCall tape i).memory i.args ∧ X (w.forCall tape i).memory i.args) ∧ sizedMet enc C.prog fn (OpenSpec.ofChange s) apart (w.forCall tape i).memory i.args) ∧ a.holds C.prog (lone (Frame.enter C.prog f i.args .normal) [] (w.forCall tape i)))
    (contract : ∀ (W : World) (base : Nat) (args : Array Value) (ds gs : List (DataW H)) (before : List MemPlace),
      (∀ (j : Nat) t v, fn.params[j]? = some t → args[j]? = some v → Value.okWide C.prog W .any base t v) →
      DataW.Whole enc C.prog fn.params.toList s.vars apart W args.toList ds gs before →
      X W args → W.ShapedOpen C.prog →
      Calls C.prog f args W fun e W' => ∃ v, e = .returned v ∧ s.post enc C.prog fn apart fresh handsOn again W args v W') :
    ReturnsInHanded a C os f .any (fun w args => (s.pre enc C.prog fn conds apart w args ∧ X w args) ∧ sizedMet enc C.prog fn (OpenSpec.ofChange s) apart w args) (s.post enc C.prog fn apart fresh handsOn again) := by
  refine returnsInHanded_of_calls own started noInit witness ?_
  intro w tape i _ hsh _ hok hpre hholds
  obtain ⟨_, _, _, fn', hfn', _, _, _, _, hval⟩ := hok
  have e : fn' = fn := Option.some.inj (hfn'.symm.trans hfn)
  subst e
  obtain ⟨⟨⟨ds, gs, before, hw, hc⟩, hx⟩, hz⟩ := hpre
  have hw' := DataW.Whole.of_heap (w' := w.forCall tape i) (by rfl) hw
  refine (contract (w.forCall tape i) w.heap.size i.args ds gs before hval hw' (hX _ _ _ (by rfl) hx) hsh).mono fun e W' ⟨v, he, hp⟩ => ?_
  subst he
  exact ChangeSpec.post_blind hp
end

end Go.Proofs.YtbenojnoepkgbaaDoor
