/- Part 5 of the proof: an abstract machine over the model; contracts of the functions that the law reaches. -/
import Derived.Test.YtocdfakomfifbaaGreatKECP4
set_option linter.unusedVariables false
set_option linter.unusedSimpArgs false
namespace Go.Proofs.YtocdfakomfifbaaGreat
open Go
set_option maxRecDepth 100000
set_option maxHeartbeats 1000000

section
open Go Go.RowKit Go.Shelf
theorem rowsX_put2 {f : C → C} (hb : ∀ b, f (.bool b) = .bool b) (hf : ∀ xs, f (.fs xs) = .fs xs) (hx : ∀ v xs, f (.fx v xs) = .fx v xs) {V : VF} {cm : Option C} {s : Sig} {b : Bnds} {i : Nat} {p : Param} {y : Slot} (v : Option Value) {r r0 : List C}
    (hp : s[i]? = some p) (hr : mapC f r = rowX v (cm.map f) p y) : mapR f (((rowsX V cm s b).set i r0).set i r) = rowsX (updV V i v) (cm.map f) s (b.set i y) := by
  rw [List.set_set]; exact rowsX_put hb hf hx v hp hr

def rowsZ (V W : VF) (b : Bnds) : List (List C) := b.mapIdx fun i x => [.bool x.given, lcell (V i) (x.list.map eI), lcell (W i) (x.pairs.map eP)]

def oRowsR (rows : List (List C)) : Option AObj := some ⟨3, rows, true, false, false⟩

structure FOk (lo : Nat) (tag : Nat → Nat) (V W : VF) (b : Bnds) : Prop where
  v : VOk lo tag V b
  at_ : ∀ i v, W i = some v → ∃ ad n c, v = .slice (some ad) n c ∧ lo ≤ ad.block ∧ tag ad.block = 2 * i + 2
  none_ : ∀ i x, b[i]? = some x → W i = none → x.pairs = []

/-- Only a map has pairs. -/
def NoP (s : Sig) (b : Bnds) : Prop := ∀ (i : Nat) (p : Param) (x : Slot), s[i]? = some p → b[i]? = some x → p.kind ≠ 4 → x.pairs = []

theorem NoP.set {s : Sig} {b : Bnds} (h : NoP s b) {j : Nat} {y : Slot} (hy : y.pairs = [] ∨ ∃ p, s[j]? = some p ∧ p.kind = 4) : NoP s (b.set j y) := by
  intro i p x hp hx hk
  rw [List.getElem?_set] at hx
  by_cases hj : j = i
  · subst hj
    rw [if_pos rfl] at hx
    split at hx
    · cases hx
      rcases hy with hy | ⟨q, hq, hqk⟩
      · exact hy
      · rw [hp] at hq; cases hq; exact absurd hqk hk
    · cases hx
  · rw [if_neg hj] at hx; exact h i p x hp hx hk

theorem NoP.step {s : Sig} {st : Bnds × List Problem} {q : Pair} (h : NoP s st.1) : NoP s (stepB s st q).1 := by
  unfold stepB
  split
  · exact h
  · split
    · rename_i p x hp hx
      split
      · rename_i hk
        exact h.set (.inr ⟨p, hp, hk⟩)
      · split
        · exact h
        · exact h.set (.inl rfl)
    · exact h

theorem NoP.fold {s : Sig} : ∀ (qs : List Pair) (st : Bnds × List Problem), NoP s st.1 → NoP s (qs.foldl (stepB s) st).1
  | [], st, h => h
  | q :: qs, st, h => NoP.fold qs _ h.step

theorem NoP.bound (s : Sig) (f : Flat) : NoP s (boundQ s f).1 := by
  refine NoP.fold _ _ ?_
  intro i p x hp hx _
  simp only [phase1, List.getElem?_mapIdx, hp, Option.map_some, Option.some.injEq] at hx
  subst hx
  unfold place1
  split
  · rfl
  · split <;> rfl

theorem rowsZ_free {V : VF} {s : Sig} {b : Bnds} {ps : List Pair} (hl : b.length = s.length) (hm : MapHas s b ps) : rowsX V (some (.fs (ps.map eP))) s b = rowsZ V (fun _ => none) b := by
  apply List.ext_getElem?
  intro i
  rw [rowsX_get]
  simp only [rowsZ, List.getElem?_mapIdx, List.zip, List.getElem?_zipWith]
  cases hx : b[i]? with
  | none => cases s[i]? <;> rfl
  | some x =>
    obtain ⟨p, hp⟩ := at_some (xs := s) (i := i) (by have := lt_of_some hx; omega)
    simp only [hp, Option.map_some, rowX, lcell]
    by_cases hk : p.kind = 4
    · rw [show (p.kind == 4) = true by simpa using hk]
      simp only [cellOr]
      rw [hm i p x hp hx hk]
    · rw [show (p.kind == 4) = false by simpa using hk]
      rfl

theorem rowsZ_map {f : C → C} (hb : ∀ b, f (.bool b) = .bool b) (hf : ∀ xs, f (.fs xs) = .fs xs) (hx : ∀ v xs, f (.fx v xs) = .fx v xs) {V : VF} {s : Sig} {b : Bnds} {c : C} {ps : List Pair} {m : Nat} {q : Param} {x : Slot} {PV : Value} (hl : b.length = s.length)
    (hm : s[m]? = some q) (hxm : b[m]? = some x) (hps : x.pairs = ps) (hall : ∀ (i : Nat) (p : Param), s[i]? = some p → (p.kind = 4 ↔ i = m)) :
    mapR f ((rowsX V (some c) s b).set m ([.bool x.given, lcell (V m) (x.list.map eI), c].set 2 (.fx PV (ps.map eP)))) = rowsZ V (updV (fun _ => none) m (some PV)) b := by
  rw [mapR_eq]
  apply List.ext_getElem?
  intro i
  rw [List.getElem?_map, List.getElem?_set]
  have hlen : m < (rowsX V (some c) s b).length := by rw [rowsX_len hl]; exact lt_of_some hm
  simp only [rowsZ, List.getElem?_mapIdx]
  by_cases hi : m = i
  · subst hi
    rw [if_pos rfl, if_pos hlen, hxm]
    simp only [Option.map_some, List.set_cons_succ, List.set_cons_zero, mapC, hb, lcell_re hf hx, hx, updV, if_pos rfl]
    rw [hps]; rfl
  · rw [if_neg hi, rowsX_get]
    simp only [List.zip, List.getElem?_zipWith]
    cases hxi : b[i]? with
    | none => cases s[i]? <;> rfl
    | some y =>
      obtain ⟨p, hp⟩ := at_some (xs := s) (i := i) (by have := lt_of_some hxi; omega)
      have hk : p.kind ≠ 4 := fun h => hi ((hall i p hp).1 h).symm
      simp only [hp, Option.map_some]
      rw [rowX_plain hk]
      simp only [mapC, hb, lcell_re hf hx, hf, updV]
      rw [if_neg (fun h => hi h.symm)]
      rfl

theorem lcell_noOwn (v : Option Value) (xs : List (List C)) : noOwn (lcell v xs) = true := by cases v <;> rfl

theorem rowsZ_noOwn (V W : VF) (b : Bnds) : noOwnR (rowsZ V W b) = true := by
  rw [noOwnR_mem]
  intro r hr
  obtain ⟨i, hi⟩ := List.getElem?_of_mem hr
  simp only [rowsZ, List.getElem?_mapIdx, Option.map_eq_some_iff] at hi
  obtain ⟨x, _, rfl⟩ := hi
  simp only [noOwnL, noOwn, lcell_noOwn, Bool.and_self, Bool.true_and, Bool.and_true]

theorem FOk.free {lo : Nat} {tag : Nat → Nat} {V : VF} {b : Bnds} {s : Sig} (h : VOk lo tag V b) (hl : b.length = s.length) (hn : NoP s b) (h4 : ∀ (i : Nat) (p : Param) (x : Slot), s[i]? = some p → b[i]? = some x → p.kind = 4 → x.pairs = []) : FOk lo tag V (fun _ => none) b := by
  refine ⟨h, (fun i v hv => by cases hv), fun i x hx _ => ?_⟩
  obtain ⟨p, hp⟩ := at_some (xs := s) (i := i) (by have := lt_of_some hx; omega)
  by_cases hk : p.kind = 4
  · exact h4 i p x hp hx hk
  · exact hn i p x hp hx hk

theorem FOk.map {lo : Nat} {tag : Nat → Nat} {V : VF} {b : Bnds} {s : Sig} {c : C} {m : Nat} {PV : Value} (h : VOk lo tag V b) (hl : b.length = s.length) (hn : NoP s b) (hall : ∀ (i : Nat) (p : Param), s[i]? = some p → (p.kind = 4 ↔ i = m)) (hf : FxNew lo (rowsX V (some c) s b) PV) :
    ∃ tag', FOk lo tag' V (updV (fun _ => none) m (some PV)) b := by
  obtain ⟨ad, n, cc, rfl, h1, h2⟩ := hf
  refine ⟨fun k => if k = ad.block then 2 * m + 2 else tag k, ⟨⟨fun j v hv => ?_, h.some_, h.none_⟩, fun j v hv => ?_, fun j x hx hv => ?_⟩⟩
  · obtain ⟨ad', n', c', rfl, h3, h4⟩ := h.at_ j v hv
    obtain ⟨x, hx, hxl⟩ := h.some_ j _ hv
    obtain ⟨p, hp⟩ := at_some (xs := s) (i := j) (by have := lt_of_some hx; omega)
    have hne := h2 j _ 1 _ _ (rowsX_at hp hx) (by rw [hv]; rfl) (by simpa using hxl) ad' n' c' rfl
    refine ⟨ad', n', c', rfl, h3, ?_⟩
    show (if ad'.block = ad.block then _ else _) = _
    rw [if_neg hne]; exact h4
  · simp only [updV] at hv
    split at hv
    · rename_i hj
      subst hj
      obtain rfl := Option.some.inj hv
      exact ⟨ad, n, cc, rfl, h1, by simp⟩
    · cases hv
  · simp only [updV] at hv
    split at hv
    · cases hv
    · rename_i hj
      obtain ⟨p, hp⟩ := at_some (xs := s) (i := j) (by have := lt_of_some hx; omega)
      exact hn j p x hp hx (fun h0 => hj ((hall j p hp).1 h0))

theorem ibindX_ct (lo : Nat) (s : Sig) (f : Flat) (hs : OkS s) (h1 : f.places.length ≤ 1048576) (h2 : f.named.length ≤ 1048576) :
    ACallsK lo 84 [.agg (eG s), .agg (eF f)] (fun r o => ∃ V W tag, FOk lo tag V W (bindQ s f).1 ∧ r = .tup [.agg [.os 0 0 s.length s.length], .one (.fs ((bindQ s f).2.map eB))] ∧ o = [oRowsR (rowsZ V W (bindQ s f).1)]) := by
  have hsl := hs.len
  refine acallsK_of_body Tryz.func84 rfl (by kernel_rfl) rfl ?_
  refine rn rfl ?_
  refine goal_did rfl rfl (dA_make s.length (nilRows s.length) rfl rfl rfl (by simp) (by simp) rfl rfl rfl rfl rfl (by show 56 * s.length ≤ _; omega) (by omega) rfl) ?_
  refine rn rfl ?_
  have hnil : nilRows s.length = rowsN none none s := (rowsN_none s).symm
  rw [hnil]
  refine goal_weakCod (Weak.adopt 7 0 2) ?_
  refine goal_weakCod (adoptM hs (id := 3) 6 rfl rfl rfl) ?_
  refine goal_weakCod (Weak.retell (id := 3) (cl' := false) rfl rfl (rowsN_re rfl rfl _ _ _) (by simp)) ?_
  refine goal_loop_keep (fun m σ => ∃ (n L : Int) (i : Nat) (V : VF) (tag : Nat → Nat), n = i ∧ L = s.length ∧ i ≤ s.length ∧ m = s.length - i ∧ VOk lo tag V (part1 s f.places i) ∧
      σ = ⟨[(26, .one (.int .i64 n)), (25, .one (.int .i64 L)), (24, .one (.fs (s.map eQ))), (8, .one (.fs ((leftQ s f.places i).map eI))), (7, .one (.os 5 0 0 0)), (6, .one (.op 4 0 0)), (4, .one (.op 2 0 0)), (3, .one (.op 1 0 0)), (2, .one (.op 0 0 0))],
        [oV (.fs (s.map eQ)), some ⟨2, [eF f], false, false, true⟩, oV (.fs []), oRows (rowsX V (some (.os 6 0 0 0)) s (part1 s f.places i)), oV (.os 3 0 s.length s.length), ownB [], ownP []], []⟩) s.length
    [26, 25, 24, 8, 7, 6, 4, 3, 2] [0, 1, 2, 3, 4, 5, 6] rfl ⟨_, ((s.map eQ).length : Int), 0, fun _ => none, fun _ => 0, rfl, by simp, by omega, by omega, by rw [part1_zero]; exact VOk.zero lo _, ?_⟩ ?_
  · rw [show leftQ s f.places 0 = f.places by simp [leftQ], part1_zero]
    exact keepS_eq rfl (cons_eq rfl (cons_eq rfl (cons_eq rfl (cons_eq (reO_rows ((congrArg (mapR _) (rowsX_none (some (.os 6 0 0 0)) s (List.replicate s.length zL))).trans (rowsX_re (fun _ => rfl) (fun _ => rfl) (fun _ _ => rfl) _ _ _ _))) (cons_eq rfl (cons_eq rfl (cons_eq rfl rfl)))))))
  rintro m σ ⟨n, L, i, V, tag, rfl, rfl, hi, rfl, hV, rfl⟩
  have hpll := part1_len s f.places i
  refine rn rfl ?_
  refine goal_cond rfl (fun h => ?_) (fun h => ?_) <;> (try simp only [gt_iff_lt, ge_iff_le, bne_iff_ne, ne_eq, bne_eq_false_iff_eq, beq_iff_eq, beq_eq_false_iff_ne, Bool.not_eq_true', Bool.not_eq_false', decide_eq_true_eq, decide_eq_false_iff_not, List.length_map] at h)
  · obtain ⟨p, hp⟩ := at_some (xs := s) (i := i) (by omega)
    have hz := part1_at (pl := f.places) hp
    have hrow := rowsX_at (V := V) (cm := some (.os 6 0 0 0)) hp hz
    have his := lt_of_some hp
    have hk : p.kind = 2 → (none : Option C) = none := fun _ => rfl
    refine rn rfl ?_
    refine goal_did rfl rfl (dA_index (eQ p) rfl rfl rfl rfl rfl rfl rfl (by omega) (by (try simp); omega) (map_at (by simpa using hp)) rfl) ?_
    refine rn rfl ?_
    refine goal_step (step_call [] rfl rfl rfl rfl rfl rfl ((iplaced_ct p).up)) ?_
    rintro σ2 ⟨r, o', ⟨rfl, rfl⟩, hσ⟩
    obtain rfl := Option.some.inj hσ
    clear hσ
    refine rn rfl ?_
    have hend : ∀ (b : Bnds), b = part1 s f.places (i + 1) → True := fun _ _ => trivial
    refine goal_guard rfl rfl rfl (fun hpl => ?_) (fun hpl => ?_) <;> (try simp only [gt_iff_lt, ge_iff_le, bne_iff_ne, ne_eq, bne_eq_false_iff_eq, beq_iff_eq, beq_eq_false_iff_ne, Bool.not_eq_true', Bool.not_eq_false', decide_eq_true_eq, decide_eq_false_iff_not, List.length_map] at hpl)
    · obtain ⟨hl1, hl2⟩ := left_placed hs (pl := f.places) hp hpl
      have hk4 : p.kind = 4 → (some (C.os 6 0 0 0)) = none := fun h0 => by rw [placed_kind] at hpl; omega
      have hk2 : (p.kind == 2) = false := by rw [placed_kind] at hpl; simp; omega
      rw [hl1] at *
      refine rn rfl ?_
      refine goal_cond rfl (fun hlen => ?_) (fun hlen => ?_) <;> (try simp only [gt_iff_lt, ge_iff_le, bne_iff_ne, ne_eq, bne_eq_false_iff_eq, beq_iff_eq, beq_eq_false_iff_ne, Bool.not_eq_true', Bool.not_eq_false', decide_eq_true_eq, decide_eq_false_iff_not, List.length_map] at hlen)
      · have hlt : i < f.places.length := by simp at hlen; omega
        obtain ⟨v, hv⟩ := at_some hlt
        have hv0 : (f.places.drop i)[0]? = some v := by rw [List.getElem?_drop]; simpa using hv
        have hstep := part1_step (pl := f.places) hp
        have hpl1 : place1 (placesQ s) f.places i p = ⟨true, [v], []⟩ := by
          have hg : f.places.getD i 0 = v := by rw [List.getD_eq_getElem?_getD, hv]; rfl
          unfold place1; rw [hg, if_pos (by simp [hpl, hlt])]
        rw [hpl1] at hstep
        refine rn rfl ?_
        have hr0 : (((rowsX V (some (.os 6 0 0 0)) s (part1 s f.places i)).set i [.bool true, .os 8 0 1 1, nilSl])[i]?) = some [.bool true, .os 8 0 1 1, nilSl] := List.getElem?_set_self (by rw [rowsX_len hpll]; exact his)
        refine goal_draw' [4] 10 rfl ?_
        refine drn [0, 1, 2, 3] (by kernel_rfl) (by kernel_rfl) rfl rfl ?_
        refine AH_did 4 rfl (by kernel_rfl) (by kernel_rfl) (by kernel_rfl) rfl rfl (dA_index (eI v) rfl rfl rfl rfl rfl rfl rfl (by omega) (by (try simp); omega) (map_at (by simpa using hv0)) rfl) ?_
        refine drn [5] (by kernel_rfl) (by kernel_rfl) rfl rfl ?_
        refine AH_oneDid 6 rfl (by kernel_rfl) rfl (dA_step rfl) (mdOk rfl) ?_
        refine drn [7] (by kernel_rfl) (by kernel_rfl) rfl rfl ?_
        refine AH_did 8 rfl (by kernel_rfl) (by kernel_rfl) (by kernel_rfl) rfl rfl (dA_indexOwn rfl rfl rfl rfl rfl rfl rfl rfl rfl (by omega) (by (try simp); omega)) ?_
        refine AH_oneDid 9 rfl (by kernel_rfl) rfl (dA_storeEl (rowX (V i) (some (.os 6 0 0 0)) p zL) ((rowsX V (some (.os 6 0 0 0)) s (part1 s f.places i)).set i [.bool true, .os 8 0 1 1, nilSl]) false rfl rfl rfl rfl rfl (by simpa using hrow) rfl rfl (by simp [rowX]) (by rw [show 0 + (i : Int).toNat = i by simp]; rfl) (fun h0 => by cases h0)) (mdOk rfl) ?_
        refine AH_end (by kernel_rfl) ?_
        refine rt 9 rfl ?_
        refine goal_fixX 3 8 i 1 rfl rfl hr0 rfl rfl rfl rfl rfl rfl (List.cons_ne_nil _ _) (fun LV hLV => ?_)
        obtain ⟨tag', hV'⟩ := hV.put (y := ⟨true, [v], []⟩) hpll his (by simp) hLV
        rw [hstep] at hV'
        refine rn rfl ?_
        refine goal_did rfl rfl (dA_slice 1 (f.places.drop i).length (((f.places.drop i).drop 1).map eI) rfl rfl rfl rfl rfl (Bnd.some_ rfl rfl) (by simp [Bnd]) (rows_len eI_len _) (by simp; omega) (by simp) rfl (tailRows (Nat.le_refl _))) ?_
        refine rn rfl ?_
        refine goal_cond rfl (fun h0 => by rw [hk2] at h0; cases h0) (fun _ => ?_)
        refine rn rfl ?_
        refine round_keep (s.length - (i + 1)) [26, 25, 24, 8, 7, 6, 4, 3, 2] [0, 1, 2, 3, 4, 5, 6] (by omega) rfl ⟨_, _, i + 1, _, tag', wrap64 (by omega) (by omega), rfl, by omega, rfl, hV', ?_⟩
        rw [hl2, show f.places.drop (i + 1) = (f.places.drop i).drop 1 by simp [List.drop_drop], ← hstep]
        exact keepS_eq rfl (cons_eq rfl (cons_eq rfl (cons_eq rfl (cons_eq (reO_rows (rowsX_put2 (fun _ => rfl) (fun _ => rfl) (fun _ _ => rfl) (some LV) hp (by rw [rowX_plain (by rw [placed_kind] at hpl; omega)]; rfl))) (cons_eq rfl (cons_eq rfl (cons_eq rfl rfl)))))))
      · have hge : f.places.length ≤ i := by simp at hlen; omega
        have hstep := part1_step (pl := f.places) hp
        have hpl1 : place1 (placesQ s) f.places i p = zL := by
          unfold place1
          rw [if_neg (by simp [hpl]; omega), hk2]; rfl
        have hsame : part1 s f.places (i + 1) = part1 s f.places i := by
          rw [← hstep, hpl1]
          apply List.ext_getElem?
          intro j
          rw [List.getElem?_set]
          split
          · rename_i hij; subst hij; rw [hz]; simp [lt_of_some hz]
          · rfl
        refine rn rfl ?_
        refine goal_cond rfl (fun h0 => by rw [hk2] at h0; cases h0) (fun _ => ?_)
        refine rn rfl ?_
        refine round_keep (s.length - (i + 1)) [26, 25, 24, 8, 7, 6, 4, 3, 2] [0, 1, 2, 3, 4, 5, 6] (by omega) rfl ⟨_, _, i + 1, V, tag, wrap64 (by omega) (by omega), rfl, by omega, rfl, by rw [hsame]; exact hV, ?_⟩
        rw [hl2, hsame, show f.places.drop (i + 1) = f.places.drop i by rw [List.drop_eq_nil_of_le (by omega), List.drop_eq_nil_of_le hge]]
        exact keepS_eq rfl (cons_eq rfl (cons_eq rfl (cons_eq rfl (cons_eq (reO_rows (rowsX_re (fun _ => rfl) (fun _ => rfl) (fun _ _ => rfl) _ _ _ _)) (cons_eq rfl (cons_eq rfl (cons_eq rfl rfl)))))))
    · have hstep := part1_step (pl := f.places) hp
      refine rn rfl ?_
      refine goal_cond rfl (fun hk2 => ?_) (fun hk2 => ?_) <;> (try simp only [gt_iff_lt, ge_iff_le, bne_iff_ne, ne_eq, bne_eq_false_iff_eq, beq_iff_eq, beq_eq_false_iff_ne, Bool.not_eq_true', Bool.not_eq_false', decide_eq_true_eq, decide_eq_false_iff_not, List.length_map] at hk2)
      · obtain ⟨hl1, hl2⟩ := left_rest hs (pl := f.places) hp hk2
        have hpl1 : place1 (placesQ s) f.places i p = ⟨false, f.places.drop (placesQ s), []⟩ := by
          unfold place1
          rw [if_neg (by simp [hpl]), hk2]; rfl
        rw [hpl1] at hstep
        rw [hl1]
        have hk4 : p.kind ≠ 4 := by omega
        have hVi : V i = none := by
          cases hv : V i with
          | none => rfl
          | some v =>
            obtain ⟨x, hx, hxl⟩ := hV.some_ i v hv
            rw [hz] at hx; cases hx
            exact absurd rfl hxl
        rw [hVi] at hrow
        by_cases hne : ¬ f.places.drop (placesQ s) = []
        · generalize hds : f.places.drop (placesQ s) = ds at *
          have hdl : ds.length ≤ 1048576 := by rw [← hds]; simp; omega
          have hr0 : rowX none (some (.os 6 0 0 0)) p zL = [.bool false, .fs [], .fs []] := by rw [rowX_plain hk4]; rfl
          rw [hr0] at hrow
          have hr1 : (((rowsX V (some (.os 6 0 0 0)) s (part1 s f.places i)).set i [.bool false, .os 8 0 ds.length ds.length, .fs []])[i]?) = some [.bool false, .os 8 0 ds.length ds.length, .fs []] := List.getElem?_set_self (by rw [rowsX_len hpll]; exact his)
          refine rn rfl ?_
          refine goal_draw' [4] 8 rfl ?_
          refine drn [0, 1, 2, 3] (by kernel_rfl) (by kernel_rfl) rfl rfl ?_
          refine AH_one (i := 4) (by kernel_rfl) (step_call [] rfl rfl rfl rfl rfl rfl ((clonInt_ct ds (by omega)).up)) (by simp) ?_
          rintro σ2 ⟨r, o', ⟨rfl, rfl⟩, hσ⟩
          obtain rfl := Option.some.inj hσ
          clear hσ
          refine AH_did 5 rfl (by kernel_rfl) (by kernel_rfl) (by kernel_rfl) rfl rfl (dA_indexOwn rfl rfl rfl rfl rfl rfl rfl rfl rfl (by omega) (by (try simp); omega)) ?_
          refine drn [6] (by kernel_rfl) (by kernel_rfl) rfl rfl ?_
          refine AH_oneDid 7 rfl (by kernel_rfl) rfl (dA_storeEl [.bool false, .fs [], .fs []] ((rowsX V (some (.os 6 0 0 0)) s (part1 s f.places i)).set i [.bool false, .os 8 0 ds.length ds.length, .fs []]) false rfl rfl rfl rfl rfl (by simpa using hrow) rfl rfl (by simp) (by rw [show 0 + (i : Int).toNat = i by simp]; rfl) (fun h0 => by cases h0)) (mdOk rfl) ?_
          refine AH_end (by kernel_rfl) ?_
          refine rt 12 rfl ?_
          refine goal_fixX 3 8 i 1 rfl rfl hr1 rfl rfl rfl rfl (noOwnR_map _ eI_noOwn _) (by simp) (by simpa using hne) (fun LV hLV => ?_)
          obtain ⟨tag', hV'⟩ := hV.put (y := ⟨false, ds, []⟩) hpll his hne hLV
          rw [hstep] at hV'
          refine rn rfl ?_
          refine round_keep (s.length - (i + 1)) [26, 25, 24, 8, 7, 6, 4, 3, 2] [0, 1, 2, 3, 4, 5, 6] (by omega) rfl ⟨_, _, i + 1, _, tag', wrap64 (by omega) (by omega), rfl, by omega, rfl, hV', ?_⟩
          rw [hl2, ← hstep]
          exact keepS_eq rfl (cons_eq rfl (cons_eq rfl (cons_eq rfl (cons_eq (reO_rows (rowsX_put2 (fun _ => rfl) (fun _ => rfl) (fun _ _ => rfl) (some LV) hp (by rw [rowX_plain hk4]; rfl))) (cons_eq rfl (cons_eq rfl (cons_eq rfl rfl)))))))
        · have hne : f.places.drop (placesQ s) = [] := Classical.not_not.1 hne
          have hsame : part1 s f.places (i + 1) = part1 s f.places i := by
            rw [← hstep, hne]
            exact set_same hz
          have hr0 : rowX none (some (.os 6 0 0 0)) p zL = [.bool false, .fs [], .fs []] := by rw [rowX_plain hk4]; rfl
          rw [hr0] at hrow
          rw [hne]
          refine rn rfl ?_
          refine goal_draw' [4] 8 rfl ?_
          refine drn [0, 1, 2, 3] (by kernel_rfl) (by kernel_rfl) rfl rfl ?_
          refine AH_one (i := 4) (by kernel_rfl) (step_call [] rfl rfl rfl rfl rfl rfl ((clonInt_ct [] (by simp)).up)) (by simp) ?_
          rintro σ2 ⟨r, o', ⟨rfl, rfl⟩, hσ⟩
          obtain rfl := Option.some.inj hσ
          clear hσ
          refine AH_data 56 [8] (y := .one (.fs [])) rfl rfl rfl ?_
          refine AH_did 5 rfl (by kernel_rfl) (by kernel_rfl) (by kernel_rfl) rfl rfl (dA_indexOwn rfl rfl rfl rfl rfl rfl rfl rfl rfl (by omega) (by (try simp); omega)) ?_
          refine drn [6] (by kernel_rfl) (by kernel_rfl) rfl rfl ?_
          refine AH_oneDid 7 rfl (by kernel_rfl) rfl (dA_storeEl [.bool false, .fs [], .fs []] (rowsX V (some (.os 6 0 0 0)) s (part1 s f.places i)) false rfl rfl rfl rfl rfl (by simpa using hrow) rfl rfl (by simp) (by rw [show 0 + (i : Int).toNat = i by simp]; exact (set_same hrow).symm) (fun h0 => by cases h0)) (mdOk rfl) ?_
          refine AH_end (by kernel_rfl) ?_
          refine rn rfl ?_
          refine round_keep (s.length - (i + 1)) [26, 25, 24, 8, 7, 6, 4, 3, 2] [0, 1, 2, 3, 4, 5, 6] (by omega) rfl ⟨_, _, i + 1, V, tag, wrap64 (by omega) (by omega), rfl, by omega, rfl, by rw [hsame]; exact hV, ?_⟩
          rw [hl2, hsame]
          exact keepS_eq rfl (cons_eq rfl (cons_eq rfl (cons_eq rfl (cons_eq (reO_rows (rowsX_re (fun _ => rfl) (fun _ => rfl) (fun _ _ => rfl) _ _ _ _)) (cons_eq rfl (cons_eq rfl (cons_eq rfl rfl)))))))
      · have hl := left_other hs (pl := f.places) hp hk2 hpl
        have hpl1 : place1 (placesQ s) f.places i p = zL := by
          unfold place1
          rw [if_neg (by simp [hpl]), if_neg (by simpa using hk2)]
        have hsame : part1 s f.places (i + 1) = part1 s f.places i := by
          rw [← hstep, hpl1]
          apply List.ext_getElem?
          intro j
          rw [List.getElem?_set]
          split
          · rename_i hij; subst hij; rw [hz]; simp [lt_of_some hz]
          · rfl
        refine rn rfl ?_
        refine round_keep (s.length - (i + 1)) [26, 25, 24, 8, 7, 6, 4, 3, 2] [0, 1, 2, 3, 4, 5, 6] (by omega) rfl ⟨_, _, i + 1, V, tag, wrap64 (by omega) (by omega), rfl, by omega, rfl, by rw [hsame]; exact hV, ?_⟩
        rw [hl, hsame]
        exact keepS_eq rfl (cons_eq rfl (cons_eq rfl (cons_eq rfl (cons_eq (reO_rows (rowsX_re (fun _ => rfl) (fun _ => rfl) (fun _ _ => rfl) _ _ _ _)) (cons_eq rfl (cons_eq rfl (cons_eq rfl rfl)))))))
  · have hend := left_end s f.places
    obtain rfl : i = s.length := by omega
    rw [part1_full] at *
    refine rn rfl ?_
    refine round_ext ?_
    refine rt 14 rfl ?_
    refine goal_cutR (fun σ => σ = ⟨[(7, .one (.os 5 0 (manyQ s f.places).length (manyQ s f.places).length)), (6, .one (.op 4 0 0)), (4, .one (.op 2 0 0)), (3, .one (.op 1 0 0)), (2, .one (.op 0 0 0))],
        [oV (.fs (s.map eQ)), some ⟨2, [eF f], false, false, true⟩, oV (.fs []), oRows (rowsX V (some (.os 6 0 0 0)) s (phase1 s f.places)), oV (.os 3 0 s.length s.length), ownB (manyQ s f.places), ownP []], []⟩) ?_ ?_
    · refine rn rfl ?_
      refine goal_cond rfl (fun h0 => ?_) (fun h0 => ?_) <;> simp only [List.length_map, gt_iff_lt, decide_eq_true_eq, decide_eq_false_iff_not] at h0
      · have hm : manyQ s f.places = [⟨0, []⟩] := by
          unfold manyQ; rw [if_pos]; rw [← hend]; simpa using h0
        rw [hm]
        refine rn rfl ?_
        refine goal_did rfl rfl (dA_append (old := []) (rows := ([(⟨0, []⟩ : Problem)] : List Problem).map eB) (([(⟨0, []⟩ : Problem)] : List Problem).map eB) (1) true (Dst.own rfl rfl rfl rfl rfl (Nat.le_refl 0) rfl) (Src.os rfl rfl (Nat.le_refl 1) rfl) rfl rfl rfl rfl rfl rfl rfl rfl (by simp) (rows_len eB_len _) (by (try simp only [List.length_map, List.length_append, List.length_cons, List.length_nil, List.length_take, List.length_drop]); show _ * 24 ≤ _; omega) (by first | (simp; done) | (simp; omega)) (by simp) (by first | (simp; done) | (simp; omega)) (fun _ => noOwnR_map _ eB_noOwn _)) ?_
        refine rn rfl ?_
        exact cut_nrm [7, 6, 4, 3, 2] [0, 1, 2, 3, 4, 8, 6] rfl (keepS_eq rfl (cons_eq rfl (cons_eq rfl (cons_eq rfl (cons_eq (reO_rows (rowsX_re (fun _ => rfl) (fun _ => rfl) (fun _ _ => rfl) _ _ _ _)) (cons_eq rfl (cons_eq rfl (cons_eq rfl rfl))))))))
      · have hm : manyQ s f.places = [] := by
          unfold manyQ; rw [if_neg]; rw [← hend]; simpa using h0
        rw [hm]
        refine rn rfl ?_
        exact cut_nrm [7, 6, 4, 3, 2] [0, 1, 2, 3, 4, 5, 6] rfl (keepS_eq rfl (cons_eq rfl (cons_eq rfl (cons_eq rfl (cons_eq (reO_rows (rowsX_re (fun _ => rfl) (fun _ => rfl) (fun _ _ => rfl) _ _ _ _)) (cons_eq rfl (cons_eq rfl (cons_eq rfl rfl))))))))
    rintro _ rfl
    refine rn rfl ?_
    have hml := manyQ_len s f.places
    refine goal_loop_keep (fun m σ => ∃ (n L : Int) (i k l : Nat) (ps wr : _) (b : Bnds) (V : VF) (tag : Nat → Nat), n = i ∧ L = f.named.length ∧ i ≤ f.named.length ∧ m = f.named.length - i ∧ (f.named.take i).foldl (stepB s) (phase1 s f.places, manyQ s f.places) = (b, wr) ∧ MapHas s b ps ∧ ps.length ≤ i ∧ k = wr.length ∧ l = ps.length ∧ VOk lo tag V b ∧
        σ = ⟨[(70, .one (.int .i64 n)), (69, .one (.int .i64 L)), (68, .one (.fs (f.named.map eP))), (7, .one (.os 5 0 k k)), (6, .one (.op 4 0 0)), (4, .one (.op 2 0 0)), (3, .one (.op 1 0 0)), (2, .one (.op 0 0 0))],
          [oV (.fs (s.map eQ)), some ⟨2, [eF f], false, false, true⟩, oV (.fs []), oRows (rowsX V (some (.os 6 0 l l)) s b), oV (.os 3 0 s.length s.length), ownB wr, ownP ps], []⟩) f.named.length
      [70, 69, 68, 7, 6, 4, 3, 2] [0, 1, 2, 3, 4, 5, 6] rfl ⟨_, ((f.named.map eP).length : Int), 0, (manyQ s f.places).length, 0, [], manyQ s f.places, phase1 s f.places, V, tag, rfl, by simp, by omega, by omega, rfl, phase1_map hs _, by simp, rfl, rfl, hV,
        keepS_eq rfl (cons_eq rfl (cons_eq rfl (cons_eq rfl (cons_eq (reO_rows (rowsX_re (fun _ => rfl) (fun _ => rfl) (fun _ _ => rfl) _ _ _ _)) (cons_eq rfl (cons_eq rfl (cons_eq rfl rfl)))))))⟩ ?_
    clear hV
    rintro m σ ⟨n, L, i, k, l, ps, wr, b, V, tag, rfl, rfl, hi, rfl, hfold, hmap, hpsl, rfl, rfl, hV, rfl⟩
    have hbl : b.length = s.length := by
      have := foldB_len s (f.named.take i) (phase1 s f.places, manyQ s f.places)
      rw [hfold] at this; simpa [phase1_len] using this
    have hwl : wr.length ≤ 1 + i := by
      have := foldB_wr s (f.named.take i) (phase1 s f.places, manyQ s f.places)
      rw [hfold] at this; simp only [List.length_take] at this; omega
    refine rn rfl ?_
    refine goal_cond rfl (fun h => ?_) (fun h => ?_) <;> (try simp only [gt_iff_lt, ge_iff_le, bne_iff_ne, ne_eq, bne_eq_false_iff_eq, beq_iff_eq, beq_eq_false_iff_ne, Bool.not_eq_true', Bool.not_eq_false', decide_eq_true_eq, decide_eq_false_iff_not, List.length_map] at h)
    · obtain ⟨q, hq⟩ := at_some (xs := f.named) (i := i) (by omega)
      have hst := foldl_take_succ (stepB s) (phase1 s f.places, manyQ s f.places) hq
      rw [hfold] at hst
      refine rn rfl ?_
      refine goal_did rfl rfl (dA_index (eP q) rfl rfl rfl rfl rfl rfl rfl (by omega) (by (try simp); omega) (map_at (by simpa using hq)) rfl) ?_
      refine rn rfl ?_
      refine goal_step (step_call [] rfl rfl rfl rfl rfl rfl ((itakes_ct s q.name (by omega)).up)) ?_
      rintro σ2 ⟨r, o', ⟨rfl, rfl⟩, hσ⟩
      obtain rfl := Option.some.inj hσ
      clear hσ
      refine rn rfl ?_
      refine goal_cond rfl (fun hneg => ?_) (fun hneg => ?_) <;> (try simp only [gt_iff_lt, ge_iff_le, bne_iff_ne, ne_eq, bne_eq_false_iff_eq, beq_iff_eq, beq_eq_false_iff_ne, Bool.not_eq_true', Bool.not_eq_false', decide_eq_true_eq, decide_eq_false_iff_not, List.length_map] at hneg)
      · rw [stepB_neg hneg] at hst
        refine rn rfl ?_
        refine goal_did rfl rfl (dA_append (old := (wr).map eB) (rows := ([⟨1, q.name⟩] : List Problem).map eB) (((wr) ++ ([⟨1, q.name⟩] : List Problem)).map eB) (wr.length + 1) true (Dst.own rfl rfl rfl rfl rfl (by first | (simp; done) | (simp; omega)) (whole (by first | (simp; done) | (simp; omega)))) (Src.os rfl rfl (Nat.le_refl 1) rfl) rfl rfl rfl rfl rfl rfl rfl rfl (rows_len eB_len _) (rows_len eB_len _) (by (try simp only [List.length_map, List.length_append, List.length_cons, List.length_nil, List.length_take, List.length_drop]); show _ * 24 ≤ _; omega) (by first | (simp; done) | (simp; omega)) (by simp) (by first | (simp; done) | (simp; omega)) (fun _ => noOwnR_map _ eB_noOwn _)) ?_
        refine rn rfl ?_
        refine round_keep (f.named.length - (i + 1)) [70, 69, 68, 7, 6, 4, 3, 2] [0, 1, 2, 3, 4, 9, 6] (by omega) rfl ⟨_, _, i + 1, wr.length + 1, ps.length, ps, wr ++ [⟨1, q.name⟩], b, V, tag, wrap64 (by omega) (by omega), rfl, by omega, rfl, hst, hmap, by omega, by simp, rfl, hV, ?_⟩
        exact keepS_eq rfl (cons_eq rfl (cons_eq rfl (cons_eq rfl (cons_eq (reO_rows (rowsX_re (fun _ => rfl) (fun _ => rfl) (fun _ _ => rfl) _ _ _ _)) (cons_eq rfl (cons_eq rfl (cons_eq rfl rfl)))))))
      · obtain ⟨p, hp, hlt, hpk⟩ := takesQ_some hneg
        have hat : takesQ s q.name = ((takesQ s q.name).toNat : Nat) := by omega
        generalize (takesQ s q.name).toNat = j at hp hat
        rw [hat] at hlt ⊢
        have hjs : j < s.length := by omega
        obtain ⟨x, hx⟩ := at_some (xs := b) (i := j) (by omega)
        have hrow := rowsX_at (V := V) (cm := some (.os 6 0 ps.length ps.length)) hp hx
        refine rn rfl ?_
        refine goal_did rfl rfl (dA_index (eQ p) rfl rfl rfl rfl rfl rfl rfl (by omega) (by simp; omega) (map_at (by simpa using hp)) rfl) ?_
        refine rn rfl ?_
        refine goal_cond rfl (fun hk => ?_) (fun hk => ?_) <;> (try simp only [gt_iff_lt, ge_iff_le, bne_iff_ne, ne_eq, bne_eq_false_iff_eq, beq_iff_eq, beq_eq_false_iff_ne, Bool.not_eq_true', Bool.not_eq_false', decide_eq_true_eq, decide_eq_false_iff_not, List.length_map] at hk)
        · have hk' : p.kind = 4 := hk
          rw [rowX_map hk'] at hrow
          have hxp := hmap j p x hp hx hk'
          rw [stepB_map hat hp hx hk', hxp] at hst
          refine rn rfl ?_
          refine goal_drawL [3, 4, 7] [14] 15 rfl ?_
          refine drnL [0, 1, 2, 3, 4, 5, 9] (by kernel_rfl) (by kernel_rfl) rfl rfl ?_
          refine AHL_did 6 rfl (by kernel_rfl) (by kernel_rfl) (by kernel_rfl) (by kernel_rfl) rfl rfl (dA_indexOwn rfl rfl rfl rfl rfl rfl rfl rfl rfl (by omega) (by (try simp); omega)) ?_
          refine drnL [7] (by kernel_rfl) (by kernel_rfl) rfl rfl ?_
          refine AHL_did 8 rfl (by kernel_rfl) (by kernel_rfl) (by kernel_rfl) (by kernel_rfl) rfl rfl (dA_loadEl [.bool x.given, lcell (V j) (x.list.map eI), .os 6 0 ps.length ps.length] rfl rfl rfl rfl (by simpa using hrow) rfl rfl rfl) ?_
          refine AHL_oneDid 10 rfl (by kernel_rfl) rfl rfl (dA_step rfl) (mdOk rfl) ?_
          refine AHL_oneDid 11 rfl (by kernel_rfl) rfl rfl (dA_append (old := (ps).map eP) (rows := ([q] : List Pair).map eP) (((ps) ++ ([q] : List Pair)).map eP) (ps.length + 1) true (Dst.own rfl rfl rfl rfl rfl (by first | (simp; done) | (simp; omega)) (whole (by first | (simp; done) | (simp; omega)))) (Src.os rfl rfl (Nat.le_refl 1) rfl) rfl rfl rfl rfl rfl rfl rfl rfl (rows_len eP_len _) (rows_len eP_len _) (by (try simp only [List.length_map, List.length_append, List.length_cons, List.length_nil, List.length_take, List.length_drop]); show _ * 24 ≤ _; omega) (by first | (simp; done) | (simp; omega)) (by simp) (by first | (simp; done) | (simp; omega)) (fun _ => noOwnR_map _ eP_noOwn _)) (mdOk rfl) ?_
          refine AHL_did 12 rfl (by kernel_rfl) (by kernel_rfl) (by kernel_rfl) (by kernel_rfl) rfl rfl (dA_indexOwn rfl rfl rfl rfl rfl rfl rfl rfl rfl (by omega) (by (try simp); omega)) ?_
          refine drnL [13] (by kernel_rfl) (by kernel_rfl) rfl rfl ?_
          refine AHL_lateDid 14 rfl (by kernel_rfl) rfl rfl (dA_storeEl [.bool x.given, lcell (V j) (x.list.map eI), .os 6 0 ps.length ps.length] (rowsX V (some (.os 9 0 (ps.length + 1) (ps.length + 1))) s (b.set j ⟨x.given, x.list, ps ++ [q]⟩)) false rfl rfl rfl rfl rfl (by simpa using hrow) rfl rfl (by simp) (by refine storePX hs hp hx hk' ?_; simp) (fun h0 => by cases h0)) ?_
          refine AH_end (by kernel_rfl) ?_
          refine rn rfl ?_
          refine round_keep (f.named.length - (i + 1)) [70, 69, 68, 7, 6, 4, 3, 2] [0, 1, 2, 3, 4, 5, 9] (by omega) rfl ⟨_, _, i + 1, wr.length, ps.length + 1, ps ++ [q], wr, _, V, tag, wrap64 (by omega) (by omega), rfl, by omega, rfl, hst, MapHas.put hs hp hk' rfl, by simp; omega, rfl, by simp, hV.same hx rfl, ?_⟩
          exact keepS_eq rfl (cons_eq rfl (cons_eq rfl (cons_eq rfl (cons_eq (reO_rows (rowsX_re (fun _ => rfl) (fun _ => rfl) (fun _ _ => rfl) _ _ _ _)) (cons_eq rfl (cons_eq rfl (cons_eq rfl rfl)))))))
        · have hk4 : p.kind ≠ 4 := hk
          have hk2 : p.kind ≠ 2 := by
            rcases hpk with h0 | h0
            · have := named_kind.1 h0.1; omega
            · omega
          rw [rowX_plain hk4] at hrow
          refine rn rfl ?_
          refine goal_did rfl rfl (dA_indexOwn rfl rfl rfl rfl rfl rfl rfl rfl rfl (by omega) (by (try simp); omega)) ?_
          refine goal_did rfl rfl (dA_step rfl) ?_
          refine goal_did rfl rfl (dA_loadEl [.bool x.given, lcell (V j) (x.list.map eI), .fs (x.pairs.map eP)] rfl rfl rfl rfl (by simpa using hrow) rfl rfl rfl) ?_
          refine rn rfl ?_
          refine goal_cond rfl (fun hg => ?_) (fun hg => ?_) <;> (try simp only [gt_iff_lt, ge_iff_le, bne_iff_ne, ne_eq, bne_eq_false_iff_eq, beq_iff_eq, beq_eq_false_iff_ne, Bool.not_eq_true', Bool.not_eq_false', decide_eq_true_eq, decide_eq_false_iff_not, List.length_map] at hg)
          · rw [stepB_twice hat hp hx hk4 hg] at hst
            refine rn rfl ?_
            refine goal_did rfl rfl (dA_append (old := (wr).map eB) (rows := ([⟨2, q.name⟩] : List Problem).map eB) (((wr) ++ ([⟨2, q.name⟩] : List Problem)).map eB) (wr.length + 1) true (Dst.own rfl rfl rfl rfl rfl (by first | (simp; done) | (simp; omega)) (whole (by first | (simp; done) | (simp; omega)))) (Src.os rfl rfl (Nat.le_refl 1) rfl) rfl rfl rfl rfl rfl rfl rfl rfl (rows_len eB_len _) (rows_len eB_len _) (by (try simp only [List.length_map, List.length_append, List.length_cons, List.length_nil, List.length_take, List.length_drop]); show _ * 24 ≤ _; omega) (by first | (simp; done) | (simp; omega)) (by simp) (by first | (simp; done) | (simp; omega)) (fun _ => noOwnR_map _ eB_noOwn _)) ?_
            refine rn rfl ?_
            refine round_keep (f.named.length - (i + 1)) [70, 69, 68, 7, 6, 4, 3, 2] [0, 1, 2, 3, 4, 9, 6] (by omega) rfl ⟨_, _, i + 1, wr.length + 1, ps.length, ps, wr ++ [⟨2, q.name⟩], b, V, tag, wrap64 (by omega) (by omega), rfl, by omega, rfl, hst, hmap, by omega, by simp, rfl, hV, ?_⟩
            exact keepS_eq rfl (cons_eq rfl (cons_eq rfl (cons_eq rfl (cons_eq (reO_rows (rowsX_re (fun _ => rfl) (fun _ => rfl) (fun _ _ => rfl) _ _ _ _)) (cons_eq rfl (cons_eq rfl (cons_eq rfl rfl)))))))
          · rw [stepB_set hat hp hx hk4 hg] at hst
            refine rn rfl ?_
            refine goal_did rfl rfl (dA_indexOwn rfl rfl rfl rfl rfl rfl rfl rfl rfl (by omega) (by (try simp); omega)) ?_
            have hjl : j < (rowsX V (some (.os 6 0 ps.length ps.length)) s b).length := by rw [rowsX_len hbl]; exact hjs
            have hr1 : ((rowsX V (some (.os 6 0 ps.length ps.length)) s b).set j [.bool true, .os 8 0 1 1, nilSl])[j]? = some [.bool true, .os 8 0 1 1, nilSl] := List.getElem?_set_self hjl
            refine goal_did rfl rfl (dA_storeEl [.bool x.given, lcell (V j) (x.list.map eI), .fs (x.pairs.map eP)] ((rowsX V (some (.os 6 0 ps.length ps.length)) s b).set j [.bool true, .os 8 0 1 1, nilSl]) false rfl rfl rfl rfl rfl (by simpa using hrow) rfl rfl (by simp) (by rw [show 0 + (j : Int).toNat = j by simp]; rfl) (fun h0 => by cases h0)) ?_
            refine rt 27 rfl ?_
            refine goal_fixX 3 8 j 1 rfl rfl hr1 rfl rfl rfl rfl rfl rfl (List.cons_ne_nil _ _) (fun LV hLV => ?_)
            obtain ⟨tag', hV'⟩ := hV.put (y := ⟨true, [q.value], []⟩) hbl hjs (by simp) hLV
            refine rn rfl ?_
            refine round_keep (f.named.length - (i + 1)) [70, 69, 68, 7, 6, 4, 3, 2] [0, 1, 2, 3, 4, 5, 6] (by omega) rfl ⟨_, _, i + 1, wr.length, ps.length, ps, wr, _, _, tag', wrap64 (by omega) (by omega), rfl, by omega, rfl, hst, MapHas.set hmap hp hk4, by omega, rfl, rfl, hV', ?_⟩
            exact keepS_eq rfl (cons_eq rfl (cons_eq rfl (cons_eq rfl (cons_eq (reO_rows (rowsX_put2 (fun _ => rfl) (fun _ => rfl) (fun _ _ => rfl) (some LV) hp (by rw [rowX_plain hk4]; rfl))) (cons_eq rfl (cons_eq rfl (cons_eq rfl rfl)))))))
    · rw [show i = f.named.length by omega, List.take_length] at hfold
      have hbq : boundQ s f = (b, wr) := hfold
      refine rn rfl ?_
      refine round_ext ?_
      refine rn rfl ?_
      refine goal_loop_keep (fun m σ => ∃ (n L : Int) (i k : Nat) (w3 : List Problem), n = i ∧ L = s.length ∧ i ≤ s.length ∧ m = s.length - i ∧ w3 = wr ++ ((s.zip b).take i).filterMap lackQ ∧ k = w3.length ∧
          σ = ⟨[(134, .one (.int .i64 n)), (133, .one (.int .i64 L)), (132, .one (.fs (s.map eQ))), (7, .one (.os 5 0 k k)), (6, .one (.op 4 0 0)), (4, .one (.op 2 0 0)), (3, .one (.op 1 0 0)), (2, .one (.op 0 0 0))],
            [oV (.fs (s.map eQ)), some ⟨2, [eF f], false, false, true⟩, oV (.fs []), oRows (rowsX V (some (.os 6 0 ps.length ps.length)) s b), oV (.os 3 0 s.length s.length), ownB w3, ownP ps], []⟩) s.length
        [134, 133, 132, 7, 6, 4, 3, 2] [0, 1, 2, 3, 4, 5, 6] rfl ⟨_, ((s.map eQ).length : Int), 0, wr.length, wr, rfl, by simp, by omega, by omega, by simp, rfl, keepS_eq rfl (cons_eq rfl (cons_eq rfl (cons_eq rfl (cons_eq (reO_rows (rowsX_re (fun _ => rfl) (fun _ => rfl) (fun _ _ => rfl) _ _ _ _)) (cons_eq rfl (cons_eq rfl (cons_eq rfl rfl)))))))⟩ ?_
      rintro m σ ⟨n, L, i, k, w3, rfl, rfl, hi, rfl, hw3, rfl, rfl⟩
      have hw3l : w3.length ≤ wr.length + i := by
        rw [hw3, List.length_append]
        have := List.length_filterMap_le lackQ ((s.zip b).take i)
        rw [List.length_take] at this; omega
      refine rn rfl ?_
      refine goal_cond rfl (fun h => ?_) (fun h => ?_) <;> (try simp only [gt_iff_lt, ge_iff_le, bne_iff_ne, ne_eq, bne_eq_false_iff_eq, beq_iff_eq, beq_eq_false_iff_ne, Bool.not_eq_true', Bool.not_eq_false', decide_eq_true_eq, decide_eq_false_iff_not, List.length_map] at h)
      · obtain ⟨p, hp⟩ := at_some (xs := s) (i := i) (by omega)
        obtain ⟨x, hx⟩ := at_some (xs := b) (i := i) (by omega)
        have hz : (s.zip b)[i]? = some (p, x) := by simp [List.getElem?_zip_eq_some, hp, hx]
        have hst := filterMap_take_succ (g := lackQ) hz
        have hrow := rowsX_at (V := V) (cm := some (.os 6 0 ps.length ps.length)) hp hx
        refine rn rfl ?_
        refine goal_did rfl rfl (dA_index (eQ p) rfl rfl rfl rfl rfl rfl rfl (by omega) (by (try simp); omega) (map_at (by simpa using hp)) rfl) ?_
        refine rn rfl ?_
        by_cases hk4 : p.kind = 4
        · rw [rowX_map hk4] at hrow
          refine goal_drawL [3, 4] [12] 13 rfl ?_
          refine drnL [0, 1, 2, 3, 4, 5] (by kernel_rfl) (by kernel_rfl) rfl rfl ?_
          refine AHL_did 6 rfl (by kernel_rfl) (by kernel_rfl) (by kernel_rfl) (by kernel_rfl) rfl rfl (dA_indexOwn rfl rfl rfl rfl rfl rfl rfl rfl rfl (by omega) (by (try simp); omega)) ?_
          refine drnL [7] (by kernel_rfl) (by kernel_rfl) rfl rfl ?_
          refine AHL_did 8 rfl (by kernel_rfl) (by kernel_rfl) (by kernel_rfl) (by kernel_rfl) rfl rfl (dA_loadEl [.bool x.given, lcell (V i) (x.list.map eI), .os 6 0 ps.length ps.length] rfl rfl rfl rfl (by simpa using hrow) rfl rfl rfl) ?_
          refine AHL_one (i := 9) (by kernel_rfl) rfl (step_call [6] rfl rfl rfl rfl rfl rfl ((clipPairS_ct ps ps.length (Nat.le_refl _)).up)) (by simp) ?_
          rintro σ2 ⟨r, o', ⟨rfl, rfl⟩, hσ⟩
          obtain rfl := Option.some.inj hσ
          clear hσ
          refine AHL_did 10 rfl (by kernel_rfl) (by kernel_rfl) (by kernel_rfl) (by kernel_rfl) rfl rfl (dA_indexOwn rfl rfl rfl rfl rfl rfl rfl rfl rfl (by omega) (by (try simp); omega)) ?_
          refine drnL [11] (by kernel_rfl) (by kernel_rfl) rfl rfl ?_
          refine AHL_lateDid 12 rfl (by kernel_rfl) rfl rfl (dA_storeEl [.bool x.given, lcell (V i) (x.list.map eI), .os 6 0 ps.length ps.length] (rowsX V (some (.os 6 0 ps.length ps.length)) s b) false rfl rfl rfl rfl rfl (by simpa using hrow) rfl rfl (by simp) (by rw [show 0 + (i : Int).toNat = i by simp]; exact (set_same hrow).symm) (fun h0 => by cases h0)) ?_
          refine AH_end (by kernel_rfl) ?_
          refine rn rfl ?_
          refine goal_step (step_call [] rfl rfl rfl rfl rfl rfl ((isingle_ct p).up)) ?_
          rintro σ2 ⟨r, o', ⟨rfl, rfl⟩, hσ⟩
          obtain rfl := Option.some.inj hσ
          clear hσ
          refine rn rfl ?_
          have fin : lackQ (p, x) = none → wr ++ ((s.zip b).take (i + 1)).filterMap lackQ = w3 := fun h0 => by rw [hst, h0, hw3]; simp
          refine goal_guard rfl rfl rfl (fun h3 => ?_) (fun h3 => ?_) <;> (try simp only [gt_iff_lt, ge_iff_le, bne_iff_ne, ne_eq, bne_eq_false_iff_eq, beq_iff_eq, beq_eq_false_iff_ne, Bool.not_eq_true', Bool.not_eq_false', decide_eq_true_eq, decide_eq_false_iff_not, List.length_map] at h3)
          · refine rn rfl ?_
            refine goal_guard rfl rfl rfl (fun h4 => ?_) (fun h4 => ?_) <;> (try simp only [gt_iff_lt, ge_iff_le, bne_iff_ne, ne_eq, bne_eq_false_iff_eq, beq_iff_eq, beq_eq_false_iff_ne, Bool.not_eq_true', Bool.not_eq_false', decide_eq_true_eq, decide_eq_false_iff_not, List.length_map] at h4)
            · refine rn rfl ?_
              refine goal_did rfl rfl (dA_indexOwn rfl rfl rfl rfl rfl rfl rfl rfl rfl (by omega) (by (try simp); omega)) ?_
              refine goal_did rfl rfl (dA_step rfl) ?_
              refine goal_did rfl rfl (dA_loadEl [.bool x.given, lcell (V i) (x.list.map eI), .os 6 0 ps.length ps.length] rfl rfl rfl rfl (by simpa using hrow) rfl rfl rfl) ?_
              refine rn rfl ?_
              refine goal_cond rfl (fun h5 => ?_) (fun h5 => ?_) <;> (try simp only [gt_iff_lt, ge_iff_le, bne_iff_ne, ne_eq, bne_eq_false_iff_eq, beq_iff_eq, beq_eq_false_iff_ne, Bool.not_eq_true', Bool.not_eq_false', decide_eq_true_eq, decide_eq_false_iff_not, List.length_map] at h5)
              · refine rn rfl ?_
                refine goal_did rfl rfl (dA_append (old := (w3).map eB) (rows := ([⟨3, p.name⟩] : List Problem).map eB) (((w3) ++ ([⟨3, p.name⟩] : List Problem)).map eB) (w3.length + 1) true (Dst.own rfl rfl rfl rfl rfl (by first | (simp; done) | (simp; omega)) (whole (by first | (simp; done) | (simp; omega)))) (Src.os rfl rfl (Nat.le_refl 1) rfl) rfl rfl rfl rfl rfl rfl rfl rfl (rows_len eB_len _) (rows_len eB_len _) (by (try simp only [List.length_map, List.length_append, List.length_cons, List.length_nil, List.length_take, List.length_drop]); show _ * 24 ≤ _; omega) (by first | (simp; done) | (simp; omega)) (by simp) (by first | (simp; done) | (simp; omega)) (fun _ => noOwnR_map _ eB_noOwn _)) ?_
                refine rn rfl ?_
                refine round_keep (s.length - (i + 1)) [134, 133, 132, 7, 6, 4, 3, 2] [0, 1, 2, 3, 4, 9, 6] (by omega) rfl ⟨_, _, i + 1, w3.length + 1, w3 ++ [⟨3, p.name⟩], wrap64 (by omega) (by omega), rfl, by omega, rfl, ?_, by simp, keepS_eq rfl (cons_eq rfl (cons_eq rfl (cons_eq rfl (cons_eq (reO_rows (rowsX_re (fun _ => rfl) (fun _ => rfl) (fun _ _ => rfl) _ _ _ _)) (cons_eq rfl (cons_eq rfl (cons_eq rfl rfl)))))))⟩
                rw [hst, hw3]; simp [lackQ, h3, h4, h5]
              · refine rn rfl ?_
                refine round_keep (s.length - (i + 1)) [134, 133, 132, 7, 6, 4, 3, 2] [0, 1, 2, 3, 4, 5, 6] (by omega) rfl ⟨_, _, i + 1, w3.length, w3, wrap64 (by omega) (by omega), rfl, by omega, rfl, (fin (by simp [lackQ, h5])).symm, rfl, keepS_eq rfl (cons_eq rfl (cons_eq rfl (cons_eq rfl (cons_eq (reO_rows (rowsX_re (fun _ => rfl) (fun _ => rfl) (fun _ _ => rfl) _ _ _ _)) (cons_eq rfl (cons_eq rfl (cons_eq rfl rfl)))))))⟩
            · refine rn rfl ?_
              refine round_keep (s.length - (i + 1)) [134, 133, 132, 7, 6, 4, 3, 2] [0, 1, 2, 3, 4, 5, 6] (by omega) rfl ⟨_, _, i + 1, w3.length, w3, wrap64 (by omega) (by omega), rfl, by omega, rfl, (fin (by simp [lackQ, h4])).symm, rfl, keepS_eq rfl (cons_eq rfl (cons_eq rfl (cons_eq rfl (cons_eq (reO_rows (rowsX_re (fun _ => rfl) (fun _ => rfl) (fun _ _ => rfl) _ _ _ _)) (cons_eq rfl (cons_eq rfl (cons_eq rfl rfl)))))))⟩
          · refine rn rfl ?_
            refine round_keep (s.length - (i + 1)) [134, 133, 132, 7, 6, 4, 3, 2] [0, 1, 2, 3, 4, 5, 6] (by omega) rfl ⟨_, _, i + 1, w3.length, w3, wrap64 (by omega) (by omega), rfl, by omega, rfl, (fin (by simp [lackQ, h3])).symm, rfl, keepS_eq rfl (cons_eq rfl (cons_eq rfl (cons_eq rfl (cons_eq (reO_rows (rowsX_re (fun _ => rfl) (fun _ => rfl) (fun _ _ => rfl) _ _ _ _)) (cons_eq rfl (cons_eq rfl (cons_eq rfl rfl)))))))⟩
        · rw [rowX_plain hk4] at hrow
          refine goal_drawL [3, 4] [12] 13 rfl ?_
          refine drnL [0, 1, 2, 3, 4, 5] (by kernel_rfl) (by kernel_rfl) rfl rfl ?_
          refine AHL_did 6 rfl (by kernel_rfl) (by kernel_rfl) (by kernel_rfl) (by kernel_rfl) rfl rfl (dA_indexOwn rfl rfl rfl rfl rfl rfl rfl rfl rfl (by omega) (by (try simp); omega)) ?_
          refine drnL [7] (by kernel_rfl) (by kernel_rfl) rfl rfl ?_
          refine AHL_did 8 rfl (by kernel_rfl) (by kernel_rfl) (by kernel_rfl) (by kernel_rfl) rfl rfl (dA_loadEl [.bool x.given, lcell (V i) (x.list.map eI), .fs (x.pairs.map eP)] rfl rfl rfl rfl (by simpa using hrow) rfl rfl rfl) ?_
          refine AHL_one (i := 9) (by kernel_rfl) rfl (step_call [] rfl rfl rfl rfl rfl rfl ((clipPd_ct x.pairs).up)) (by simp) ?_
          rintro σ2 ⟨r, o', ⟨rfl, rfl⟩, hσ⟩
          obtain rfl := Option.some.inj hσ
          clear hσ
          refine AHL_did 10 rfl (by kernel_rfl) (by kernel_rfl) (by kernel_rfl) (by kernel_rfl) rfl rfl (dA_indexOwn rfl rfl rfl rfl rfl rfl rfl rfl rfl (by omega) (by (try simp); omega)) ?_
          refine drnL [11] (by kernel_rfl) (by kernel_rfl) rfl rfl ?_
          refine AHL_lateDid 12 rfl (by kernel_rfl) rfl rfl (dA_storeEl [.bool x.given, lcell (V i) (x.list.map eI), .fs (x.pairs.map eP)] (rowsX V (some (.os 6 0 ps.length ps.length)) s b) false rfl rfl rfl rfl rfl (by simpa using hrow) rfl rfl (by simp) (by rw [show 0 + (i : Int).toNat = i by simp]; exact (set_same hrow).symm) (fun h0 => by cases h0)) ?_
          refine AH_end (by kernel_rfl) ?_
          refine rn rfl ?_
          refine goal_step (step_call [] rfl rfl rfl rfl rfl rfl ((isingle_ct p).up)) ?_
          rintro σ2 ⟨r, o', ⟨rfl, rfl⟩, hσ⟩
          obtain rfl := Option.some.inj hσ
          clear hσ
          refine rn rfl ?_
          have fin : lackQ (p, x) = none → wr ++ ((s.zip b).take (i + 1)).filterMap lackQ = w3 := fun h0 => by rw [hst, h0, hw3]; simp
          refine goal_guard rfl rfl rfl (fun h3 => ?_) (fun h3 => ?_) <;> (try simp only [gt_iff_lt, ge_iff_le, bne_iff_ne, ne_eq, bne_eq_false_iff_eq, beq_iff_eq, beq_eq_false_iff_ne, Bool.not_eq_true', Bool.not_eq_false', decide_eq_true_eq, decide_eq_false_iff_not, List.length_map] at h3)
          · refine rn rfl ?_
            refine goal_guard rfl rfl rfl (fun h4 => ?_) (fun h4 => ?_) <;> (try simp only [gt_iff_lt, ge_iff_le, bne_iff_ne, ne_eq, bne_eq_false_iff_eq, beq_iff_eq, beq_eq_false_iff_ne, Bool.not_eq_true', Bool.not_eq_false', decide_eq_true_eq, decide_eq_false_iff_not, List.length_map] at h4)
            · refine rn rfl ?_
              refine goal_did rfl rfl (dA_indexOwn rfl rfl rfl rfl rfl rfl rfl rfl rfl (by omega) (by (try simp); omega)) ?_
              refine goal_did rfl rfl (dA_step rfl) ?_
              refine goal_did rfl rfl (dA_loadEl [.bool x.given, lcell (V i) (x.list.map eI), .fs (x.pairs.map eP)] rfl rfl rfl rfl (by simpa using hrow) rfl rfl rfl) ?_
              refine rn rfl ?_
              refine goal_cond rfl (fun h5 => ?_) (fun h5 => ?_) <;> (try simp only [gt_iff_lt, ge_iff_le, bne_iff_ne, ne_eq, bne_eq_false_iff_eq, beq_iff_eq, beq_eq_false_iff_ne, Bool.not_eq_true', Bool.not_eq_false', decide_eq_true_eq, decide_eq_false_iff_not, List.length_map] at h5)
              · refine rn rfl ?_
                refine goal_did rfl rfl (dA_append (old := (w3).map eB) (rows := ([⟨3, p.name⟩] : List Problem).map eB) (((w3) ++ ([⟨3, p.name⟩] : List Problem)).map eB) (w3.length + 1) true (Dst.own rfl rfl rfl rfl rfl (by first | (simp; done) | (simp; omega)) (whole (by first | (simp; done) | (simp; omega)))) (Src.os rfl rfl (Nat.le_refl 1) rfl) rfl rfl rfl rfl rfl rfl rfl rfl (rows_len eB_len _) (rows_len eB_len _) (by (try simp only [List.length_map, List.length_append, List.length_cons, List.length_nil, List.length_take, List.length_drop]); show _ * 24 ≤ _; omega) (by first | (simp; done) | (simp; omega)) (by simp) (by first | (simp; done) | (simp; omega)) (fun _ => noOwnR_map _ eB_noOwn _)) ?_
                refine rn rfl ?_
                refine round_keep (s.length - (i + 1)) [134, 133, 132, 7, 6, 4, 3, 2] [0, 1, 2, 3, 4, 9, 6] (by omega) rfl ⟨_, _, i + 1, w3.length + 1, w3 ++ [⟨3, p.name⟩], wrap64 (by omega) (by omega), rfl, by omega, rfl, ?_, by simp, keepS_eq rfl (cons_eq rfl (cons_eq rfl (cons_eq rfl (cons_eq (reO_rows (rowsX_re (fun _ => rfl) (fun _ => rfl) (fun _ _ => rfl) _ _ _ _)) (cons_eq rfl (cons_eq rfl (cons_eq rfl rfl)))))))⟩
                rw [hst, hw3]; simp [lackQ, h3, h4, h5]
              · refine rn rfl ?_
                refine round_keep (s.length - (i + 1)) [134, 133, 132, 7, 6, 4, 3, 2] [0, 1, 2, 3, 4, 5, 6] (by omega) rfl ⟨_, _, i + 1, w3.length, w3, wrap64 (by omega) (by omega), rfl, by omega, rfl, (fin (by simp [lackQ, h5])).symm, rfl, keepS_eq rfl (cons_eq rfl (cons_eq rfl (cons_eq rfl (cons_eq (reO_rows (rowsX_re (fun _ => rfl) (fun _ => rfl) (fun _ _ => rfl) _ _ _ _)) (cons_eq rfl (cons_eq rfl (cons_eq rfl rfl)))))))⟩
            · refine rn rfl ?_
              refine round_keep (s.length - (i + 1)) [134, 133, 132, 7, 6, 4, 3, 2] [0, 1, 2, 3, 4, 5, 6] (by omega) rfl ⟨_, _, i + 1, w3.length, w3, wrap64 (by omega) (by omega), rfl, by omega, rfl, (fin (by simp [lackQ, h4])).symm, rfl, keepS_eq rfl (cons_eq rfl (cons_eq rfl (cons_eq rfl (cons_eq (reO_rows (rowsX_re (fun _ => rfl) (fun _ => rfl) (fun _ _ => rfl) _ _ _ _)) (cons_eq rfl (cons_eq rfl (cons_eq rfl rfl)))))))⟩
          · refine rn rfl ?_
            refine round_keep (s.length - (i + 1)) [134, 133, 132, 7, 6, 4, 3, 2] [0, 1, 2, 3, 4, 5, 6] (by omega) rfl ⟨_, _, i + 1, w3.length, w3, wrap64 (by omega) (by omega), rfl, by omega, rfl, (fin (by simp [lackQ, h3])).symm, rfl, keepS_eq rfl (cons_eq rfl (cons_eq rfl (cons_eq rfl (cons_eq (reO_rows (rowsX_re (fun _ => rfl) (fun _ => rfl) (fun _ _ => rfl) _ _ _ _)) (cons_eq rfl (cons_eq rfl (cons_eq rfl rfl)))))))⟩
      · have hbb : bindQ s f = (b, w3) := by
          rw [bindQ, hbq, hw3, missingQ, show i = s.length by omega, List.take_of_length_le (by simp; omega)]
        rw [hbb]
        refine rn rfl ?_
        refine round_ext ?_
        refine rt 35 rfl ?_
        have hnp := NoP.bound s f
        rw [hbq] at hnp
        rcases Classical.em (ps ≠ [] ∧ ∃ (m : Nat) (q : Param), s[m]? = some q ∧ q.kind = 4 ∧ ∀ (i : Nat) (p : Param), s[i]? = some p → (p.kind = 4 ↔ i = m)) with ⟨hps, m, q, hm, hq, hall⟩ | hno
        · obtain ⟨x, hx⟩ := at_some (xs := b) (i := m) (by have := lt_of_some hm; omega)
          have hrow := rowsX_at (V := V) (cm := some (.os 6 0 ps.length ps.length)) hm hx
          rw [rowX_map hq] at hrow
          refine goal_fixX 3 6 m 2 rfl rfl hrow rfl rfl rfl rfl (noOwnR_map _ eP_noOwn _) (by simp) (by simpa using hps) (fun PV hPV => ?_)
          obtain ⟨tag', hF⟩ := FOk.map hV hbl hnp hall hPV
          refine goal_weakCod (Weak.retell (id := 3) (cl' := true) (rows' := rowsZ V (updV (fun _ => none) m (some PV)) b) rfl rfl (rowsZ_map (fun _ => rfl) (fun _ => rfl) (fun _ _ => rfl) hbl hm hx (hmap m q x hm hx hq) hall) (fun _ => rowsZ_noOwn _ _ _)) ?_
          refine rn rfl ?_
          refine goal_draw' [4] 5 rfl ?_
          refine drn [0, 1] (by kernel_rfl) (by kernel_rfl) rfl rfl ?_
          refine AH_one (i := 2) (by kernel_rfl) (step_call [5] rfl rfl rfl rfl rfl rfl ((clipB_ct w3 w3.length (Nat.le_refl _)).up)) (by simp) ?_
          rintro σ2 ⟨r, o', ⟨rfl, rfl⟩, hσ⟩
          obtain rfl := Option.some.inj hσ
          clear hσ
          refine AH_oneDid 3 rfl (by kernel_rfl) rfl (dA_step rfl) (mdOk rfl) ?_
          refine drn [4] (by kernel_rfl) (by kernel_rfl) rfl rfl ?_
          refine AH_end (by kernel_rfl) ?_
          refine rn rfl ?_
          refine fin_is [3] rfl ⟨_, _, tag', hF, ?_, rfl⟩
          rw [takeAll eB _ _ rfl]
        · have h4 : ∀ (i : Nat) (p : Param) (x : Slot), s[i]? = some p → b[i]? = some x → p.kind = 4 → x.pairs = [] := by
            intro i p x hp hx hk
            rw [hmap i p x hp hx hk]
            by_cases hps : ps = []
            · exact hps
            · rcases kind_ix hs 4 (.inr rfl) with hn4 | ⟨m, q, hm, hq, hall⟩
              · exact absurd hk (hn4 p (List.mem_of_getElem? hp))
              · exact absurd ⟨hps, m, q, hm, hq, hall⟩ hno
          have hF := FOk.free hV hbl hnp h4
          refine goal_keepE [7, 6, 4, 3, 2] [0, 1, 2, 3, 4, 5] [6] rfl rfl rfl (cons_eq rfl (cons_eq rfl (cons_eq rfl (cons_eq (reO_rows (rows' := rowsZ V (fun _ => none) b) ?_) (cons_eq rfl (cons_eq rfl rfl)))))) ?_
          · refine (rowsX_re (fun _ => rfl) (fun _ => rfl) (fun _ _ => rfl) _ _ _ _).trans ?_
            show rowsX V (some (C.fs (List.take ps.length (List.drop 0 (ps.map eP))))) s b = _
            rw [takeAll eP ps _ rfl, rowsZ_free hbl hmap]
          refine goal_weakCod (Weak.cleanO (id := 3) rfl rfl (rowsZ_noOwn _ _ _)) ?_
          refine rn rfl ?_
          refine goal_draw' [4] 5 rfl ?_
          refine drn [0, 1] (by kernel_rfl) (by kernel_rfl) rfl rfl ?_
          refine AH_one (i := 2) (by kernel_rfl) (step_call [5] rfl rfl rfl rfl rfl rfl ((clipB_ct w3 w3.length (Nat.le_refl _)).up)) (by simp) ?_
          rintro σ2 ⟨r, o', ⟨rfl, rfl⟩, hσ⟩
          obtain rfl := Option.some.inj hσ
          clear hσ
          refine AH_oneDid 3 rfl (by kernel_rfl) rfl (dA_step rfl) (mdOk rfl) ?_
          refine drn [4] (by kernel_rfl) (by kernel_rfl) rfl rfl ?_
          refine AH_end (by kernel_rfl) ?_
          refine rn rfl ?_
          refine fin_is [3] rfl ⟨_, _, tag, hF, ?_, rfl⟩
          rw [takeAll eB _ _ rfl]
end

section
open Go Go.RowKit Go.Shelf
/-- A bound call, or none. -/
def BPost (lo : Nat) (B : Bnds × Bool) : Post := fun r o => (B.2 = true ∧ ∃ V W tag, FOk lo tag V W B.1 ∧ r = .tup [rL B.1, .one (.bool true)] ∧ o = [oRowsR (rowsZ V W B.1)]) ∨ (B = ([], false) ∧ r = .tup [.agg [.fs []], .one (.bool false)] ∧ o = [])

theorem iBindX_ct (lo : Nat) (s : Sig) (f : Flat) (hs : LenS s) (hf : LenF f) : ACallsK lo 52 [.agg (eG s), .agg (eF f)] (BPost lo (BindQ s f)) := by
  refine acallsK_of_body Tryz.func52 rfl (by kernel_rfl) rfl ?_
  refine rn rfl ?_
  refine goal_step (step_call [] rfl rfl rfl rfl rfl rfl ((fit_ct s f hs hf).up)) ?_
  rintro σ2 ⟨r, o', ⟨rfl, rfl⟩, hσ⟩
  obtain rfl := Option.some.inj hσ
  clear hσ
  refine rn rfl ?_
  refine goal_cond rfl (fun h => ?_) (fun h => ?_) <;> (try simp only [gt_iff_lt, ge_iff_le, bne_iff_ne, ne_eq, bne_eq_false_iff_eq, beq_iff_eq, beq_eq_false_iff_ne, Bool.not_eq_true', Bool.not_eq_false', decide_eq_true_eq, decide_eq_false_iff_not, List.length_map] at h)
  · refine rn rfl ?_
    refine fin_is [] rfl (.inr ⟨?_, rfl, rfl⟩)
    simp [BindQ, h]
  · have hfit := fitQ_iff.1 h
    refine rn rfl ?_
    refine goal_step (step_callK rfl rfl rfl rfl rfl (ibindX_ct lo s f hfit.1 hf.places hf.named)) ?_
    rintro σ2 ⟨r, o', ⟨V, W, tag, hF, rfl, rfl⟩, hσ⟩
    obtain rfl := Option.some.inj hσ
    clear hσ
    refine rn rfl ?_
    rw [List.length_map, gt_zero]
    refine goal_cond rfl (fun h2 => ?_) (fun h2 => ?_) <;> simp only [Bool.not_eq_true', Bool.not_eq_false', decide_eq_true_eq, decide_eq_false_iff_not] at h2
    · refine rn rfl ?_
      refine fin_is [] rfl (.inr ⟨?_, rfl, rfl⟩)
      simp [BindQ, accQ, h2]
    · refine rn rfl ?_
      have hb : BindQ s f = ((boundQ s f).1, true) := by simp [BindQ, h, accQ, h2]
      rw [hb]
      refine fin_is [3] rfl (.inl ⟨rfl, V, W, tag, hF, ?_, rfl⟩)
      simp [rL, boundQ_len]

theorem icallX_ct (lo : Nat) (p : Part) (f : Flat) (hp : LenP p) (hf : LenF f) : ACallsK lo 23 [.agg (ePa p), .agg (eF f)] (BPost lo (CallF p f)) := by
  have lg := full_names (p := p) (f := f)
  have hE : CallF p f = if (FullF p f).2 then BindQ p.sig (FullF p f).1 else ([], false) := rfl
  have hI := ifullD_ct p f hp hf
  rw [hE]
  generalize (FullF p f).1 = G at *
  generalize (FullF p f).2 = b at *
  refine acallsK_of_body Tryz.func23 rfl (by kernel_rfl) rfl ?_
  refine rn rfl ?_
  refine goal_step (step_call [] rfl rfl rfl rfl rfl rfl (hI.up)) ?_
  rintro σ2 ⟨r, o', ⟨rfl, rfl⟩, hσ⟩
  obtain rfl := Option.some.inj hσ
  clear hσ
  refine rn rfl ?_
  refine goal_cond rfl (fun h => ?_) (fun h => ?_) <;> (try simp only [gt_iff_lt, ge_iff_le, bne_iff_ne, ne_eq, bne_eq_false_iff_eq, beq_iff_eq, beq_eq_false_iff_ne, Bool.not_eq_true', Bool.not_eq_false', decide_eq_true_eq, decide_eq_false_iff_not, List.length_map] at h)
  · subst h
    refine rn rfl ?_
    refine fin_is [] rfl (.inr ⟨rfl, rfl, rfl⟩)
  · subst h
    refine rn rfl ?_
    refine goal_step (step_callK rfl rfl rfl rfl rfl (iBindX_ct lo p.sig G hp.sig lg)) ?_
    simp only [if_true]
    rintro σ2 ⟨r, o', ⟨hb, V, W, tag, hF, rfl, rfl⟩ | ⟨hb, rfl, rfl⟩, hσ⟩
    · obtain rfl := Option.some.inj hσ
      clear hσ
      refine rn rfl ?_
      refine fin_is [4] rfl (.inl ⟨hb, V, W, tag, hF, rfl, rfl⟩)
    · obtain rfl := Option.some.inj hσ
      clear hσ
      refine rn rfl ?_
      refine fin_is [] rfl (.inr ⟨hb, rfl, rfl⟩)
end

section
open Go Go.RowKit Go.Shelf
theorem sub_fx {S D : Nat → Prop} {h : Array Obj} {rows : List (List C)} {es n : Nat} {v : Value} {e0 : List ALoc} (H : CR D h e0 (.fx v rows) v) (hes : ∀ r ∈ rows, r.length = es) (hno : noFzR rows = true) (hown : noOwnR rows = true) (hn : rows.length = n) (hdom : ∀ b, D b → b < h.size)
    (hS : ∀ ad m c, v = .slice (some ad) m c → D ad.block → S ad.block) : SubL S h [some ⟨es, rows, true, false, false⟩] n v := by
  simp only [CR, true_and] at H
  obtain ⟨A, c, hv, hlc, hx⟩ := H
  by_cases hr0 : rows = []
  · subst hr0
    simp only [List.length_nil] at hn hv
    exact .inr ⟨hn.symm, A, c, hv⟩
  · rcases hx with hx | ⟨a, cells, t, esz, rfl, hs, hD, hh, hsz, hr⟩
    · exact absurd hx hr0
    · have he : esz = es := by
        cases rows with
        | nil => exact absurd rfl hr0
        | cons r rs => rw [← CRr.lens hr r (List.mem_cons_self ..), hes r (List.mem_cons_self ..)]
      subst he
      subst hv
      subst hn
      left
      refine ⟨[.live (some a) esz c rows.length], ⟨rfl, fun i ob hi => ?_, fun i b es' cap n' hi => ?_, fun i i' b b' es1 cap n' es2 cap' n2 hi hi' _ => ?_, fun b hb => hb.elim⟩, ?_, ?_⟩
      · match i, hi with
        | 0, hi =>
          simp at hi; subst hi
          refine ⟨some a, c, rows.length, rfl, rfl, fun _ => hown, hs, (fun h => by cases h), cells, t, hh, hlc, hsz, ?_⟩
          exact CRr.sub _ _ _ _ hno (CRr.env [] _ _ _ _ hown hr)
        | i + 1, hi => simp at hi
      · match i, hi with
        | 0, hi =>
          simp at hi
          obtain ⟨rfl, _⟩ := hi
          exact ⟨(Array.getElem?_eq_some_iff.1 hh).1, fun hb => hb.elim⟩
        | i + 1, hi => simp at hi
      · match i, i', hi, hi' with
        | 0, 0, _, _ => rfl
        | i + 1, _, hi, _ => simp at hi
        | 0, i' + 1, _, hi' => simp at hi'
      · simp only [TR, CR, List.getElem?_cons_zero]
        refine ⟨some a, c, rfl, Nat.le_refl _, hlc, by omega, .inr ⟨a, rfl, ?_, by omega⟩⟩
        obtain ⟨ab, ao, asp⟩ := a
        simp only at hs
        subst hs
        simp
      · rintro b ⟨i, b', es', cap, n', hi, rfl⟩
        match i, hi with
        | 0, hi =>
          simp at hi
          obtain ⟨rfl, _⟩ := hi
          exact hS a _ _ rfl hD
        | i + 1, hi => simp at hi

theorem noFz_I (xs : List Int) : noFzR (xs.map eI) = true := noFzR_map eI (fun _ => rfl) xs

theorem noFz_P (xs : List Pair) : noFzR (xs.map eP) = true := noFzR_map eP (fun _ => rfl) xs

theorem icall_raw (p : Part) (f : Flat) (hp : LenP p) (hf : LenF f) {w : World} {vp vf : Value} (ha : TRs (lowD w.heap.size) w.heap [] [.agg (ePa p), .agg (eF f)] [vp, vf]) (hne : (CallF p f).1 ≠ []) :
    Calls pk.P 23 #[vp, vf] w fun en w' => ∃ g o t c tag, en = .returned (.tuple #[.agg #[.slice (some ⟨g, o, none⟩) (CallF p f).1.length c], .bool true]) ∧ (CallF p f).1.length ≤ c ∧ Below w.heap.size w w' ∧
      CT (fun b => w.heap.size ≤ b ∧ b < w'.heap.size) w'.heap g o t tag (CallF p f).1 := by
  refine ((icallX_ct w.heap.size p f hp hf).2 (lowD w.heap.size) w [vp, vf] (Nat.le_refl _) glob_any (sr_nil (Nat.le_refl _)) ha).mono ?_
  rintro en w' ⟨v, r, o', D', e', rfl, hΦ, htr, hsr, hext, hnew, hold⟩
  have hΦ' : ∃ V W tag, FOk w.heap.size tag V W (CallF p f).1 ∧ r = .tup [rL (CallF p f).1, .one (.bool true)] ∧ o' = [oRowsR (rowsZ V W (CallF p f).1)] := by
    rcases hΦ with h | ⟨h0, _⟩
    · exact h.2
    · rw [h0] at hne; exact absurd rfl hne
  obtain ⟨V, W, tag, hF, rfl, rfl⟩ := hΦ'
  clear hΦ
  generalize (CallF p f).1 = l at *
  have hl0 : 0 < l.length := List.length_pos_iff.2 hne
  obtain ⟨ad, cap, n, he, hn, hcl, hrest⟩ := hsr.objs 0 _ rfl
  have hnl : n = l.length := by rw [hn]; simp [oRowsR, rowsZ]
  subst hnl
  have hrows : (rowsZ V W l).length = l.length := by simp [rowsZ]
  cases ad with
  | none => obtain ⟨h1, _⟩ := hrest; simp only at h1; rw [h1] at hrows; simp at hrows; omega
  | some b =>
  obtain ⟨hsp, _, cells, t, hh, hncap, hsz, hcr⟩ := hrest
  have hbnew : w.heap.size ≤ b.block := hnew 0 b _ _ _ he
  obtain ⟨hblt, hbD⟩ := hsr.own 0 b _ _ _ he
  have hbD' : ¬ D' b.block := fun h => by
    obtain ⟨ob, h1, h2⟩ := hbD h
    simp only [List.getElem?_cons_zero, Option.some.injEq, oRowsR] at h1; subst h1; cases h2
  simp only [TR, rL] at htr
  obtain ⟨vs, rfl, hvs⟩ := htr
  simp only [TRs, TR] at hvs
  obtain ⟨x, r, hx0, ⟨ys, rfl, hys, hyr⟩, x2, r2, rfl, hx2, rfl⟩ := hvs
  match ys, hys, hyr with
  | ⟨[y]⟩, _, hyr =>
  simp only [CRp, CR, he, and_true] at hyr
  obtain ⟨A, c, rfl, _, hlc, _, hA⟩ := hyr
  simp only [CR] at hx2
  subst hx2
  have hvs' : vs = #[.agg #[.slice A l.length c], .bool true] := by
    apply Array.ext'; rw [hx0]
  subst hvs'
  rcases hA with hA | ⟨b', hb', rfl, _⟩
  · omega
  simp at hb'
  subst hb'
  have hdom := hsr.dom
  have hlow : ∀ (ad : Addr), w.heap.size ≤ ad.block → D' ad.block → (w.heap.size ≤ ad.block ∧ ad.block < w'.heap.size) ∧ ad.block ≠ b.block := fun ad h1 h2 => ⟨⟨h1, hdom _ h2⟩, fun h => hbD' (h ▸ h2)⟩
  refine ⟨b.block, b.off, t, c, fun k => if k = b.block then 0 else tag k, by simp, hlc, ⟨hext.os, hext.tape, hext.output, hext.size, fun k hk => hext.block k hk id⟩, by simp, ⟨hbnew, hblt⟩, cells, hh, fun i x hx => ?_⟩
  have hrow : (rowsZ V W l)[i]? = some [.bool x.given, lcell (V i) (x.list.map eI), lcell (W i) (x.pairs.map eP)] := by simp [rowsZ, hx]
  obtain ⟨_, hc⟩ := CRr.get hcr hrow
  obtain ⟨y0, g0, c0⟩ := CRp.get hc (j := 0) rfl
  obtain ⟨LV, g1, c1⟩ := CRp.get hc (j := 1) rfl
  obtain ⟨PV, g2, c2⟩ := CRp.get hc (j := 2) rfl
  simp only [CR] at c0
  subst c0
  rw [List.drop_drop, List.getElem?_drop, Array.getElem?_toList] at g0 g1 g2
  refine ⟨LV, PV, g0, g1, g2, ?_, ?_⟩
  · cases hV : V i with
    | none =>
      have hxl := hF.v.none_ i x hx hV
      rw [hV, hxl] at c1
      simp only [lcell, CR, List.map_nil] at c1
      obtain ⟨A, c, rfl, _⟩ := c1
      rw [hxl]
      exact .inr ⟨rfl, A, c, rfl⟩
    | some v =>
      rw [hV] at c1
      have hv : LV = v := by simp only [lcell, CR] at c1; exact c1.1
      subst hv
      obtain ⟨ad, m, c', hv, h1, h2⟩ := hF.v.at_ i _ hV
      refine sub_fx c1 (rows_len eI_len _) (noFz_I _) (noOwnR_map _ eI_noOwn _) (by simp) hdom ?_
      intro ad' m' c2 hv' hD
      rw [hv] at hv'
      simp only [Value.slice.injEq, Option.some.injEq] at hv'
      obtain ⟨rfl, _⟩ := hv'
      obtain ⟨h3, h4⟩ := hlow ad h1 hD
      refine ⟨h3, ?_⟩
      show (if ad.block = b.block then 0 else tag ad.block) = _
      rw [if_neg h4, h2]
  · cases hW : W i with
    | none =>
      have hxl := hF.none_ i x hx hW
      rw [hW, hxl] at c2
      simp only [lcell, CR, List.map_nil] at c2
      obtain ⟨A, c, rfl, _⟩ := c2
      rw [hxl]
      exact .inr ⟨rfl, A, c, rfl⟩
    | some v =>
      rw [hW] at c2
      have hv : PV = v := by simp only [lcell, CR] at c2; exact c2.1
      subst hv
      obtain ⟨ad, m, c', hv, h1, h2⟩ := hF.at_ i _ hW
      refine sub_fx c2 (rows_len eP_len _) (noFz_P _) (noOwnR_map _ eP_noOwn _) (by simp) hdom ?_
      intro ad' m' c2 hv' hD
      rw [hv] at hv'
      simp only [Value.slice.injEq, Option.some.injEq] at hv'
      obtain ⟨rfl, _⟩ := hv'
      obtain ⟨h3, h4⟩ := hlow ad h1 hD
      refine ⟨h3, ?_⟩
      show (if ad.block = b.block then 0 else tag ad.block) = _
      rw [if_neg h4, h2]
end

section
open Go Go.RowKit Go.Shelf
theorem agg_v {D : Nat → Prop} {h : Array Obj} {e : List ALoc} {v y : Value} (H : TR D h e (.agg [.v v]) y) : y = .agg #[v] := by
  simp only [TR] at H
  obtain ⟨vs, rfl, hs, hr⟩ := H
  match vs, hs, hr with
  | ⟨[x]⟩, _, hr =>
    simp only [CRp, CR, and_true] at hr
    obtain ⟨rfl, _⟩ := hr
    rfl

theorem markN_le : ∀ b : Bnds, markN b ≤ b.length + 2 * cntB b
  | [] => by simp [markN, cntB]
  | x :: b => by
    have := markN_le b
    simp only [markN, cntB, cntL, List.map_cons, List.sum_cons, List.length_cons] at this ⊢
    omega

theorem tree_args {D : Nat → Prop} {h : Array Obj} {e : List ALoc} {x y : T} {u v : Value} (h1 : TR D h e x u) (h2 : TR D h e y v) : TRs D h e [x, y] [u, v] := by
  simp only [TRs]
  exact ⟨_, _, rfl, h1, _, _, rfl, h2, rfl⟩
end

theorem scallPart_ct (p : Part) (f : Flat) (hp : LenP p) (hf : LenF f) : ACalls pk 20 [.agg (ePa p), .agg (eF f)] [] (fun r o => r = .tup [.agg (eBi (CallF p f).1), .one (.bool (CallF p f).2)] ∧ o = []) := by
  have lg := full_names (p := p) (f := f)
  have hE : CallF p f = if (FullF p f).2 then BindQ p.sig (FullF p f).1 else ([], false) := rfl
  have hI := sfull_ct p f hp hf
  rw [hE]
  generalize (FullF p f).1 = G at *
  generalize (FullF p f).2 = b at *
  refine acalls_of_body Tryz.func20 rfl (by kernel_rfl) rfl ?_
  refine rn rfl ?_
  refine goal_step (step_call [] rfl rfl rfl rfl rfl rfl (hI)) ?_
  rintro σ2 ⟨r, o', ⟨rfl, rfl⟩, hσ⟩
  obtain rfl := Option.some.inj hσ
  clear hσ
  refine rn rfl ?_
  refine goal_cond rfl (fun h => ?_) (fun h => ?_) <;> (try simp only [gt_iff_lt, ge_iff_le, bne_iff_ne, ne_eq, bne_eq_false_iff_eq, beq_iff_eq, beq_eq_false_iff_ne, Bool.not_eq_true', Bool.not_eq_false', decide_eq_true_eq, decide_eq_false_iff_not, List.length_map] at h)
  · subst h
    exact rn rfl (fin_is [] rfl ⟨rfl, rfl⟩)
  · subst h
    refine rn rfl ?_
    refine goal_step (step_call [] rfl rfl rfl rfl rfl rfl (sBind_ct p.sig G hp.sig lg)) ?_
    rintro σ2 ⟨r, o', ⟨rfl, rfl⟩, hσ⟩
    obtain rfl := Option.some.inj hσ
    clear hσ
    refine rn rfl ?_
    exact rn rfl (fin_is [] rfl ⟨rfl, rfl⟩)

theorem callF_small (p : Part) (f : Flat) : (CallF p f).1.length ≤ 8 ∧ ∀ x ∈ (CallF p f).1, x.list.length ≤ 8 ∧ x.pairs.length ≤ 8 := by
  unfold CallF
  split
  · exact bind_small _ _
  · simp

section
open Go Go.RowKit Go.Shelf
theorem callF_true {p : Part} {f : Flat} (h : (CallF p f).1 ≠ []) : (CallF p f).2 = true := by
  unfold CallF at h ⊢
  split
  · rename_i h1
    rw [if_pos h1] at h
    unfold BindQ at h ⊢
    split
    · rfl
    · rename_i h2; rw [if_neg h2] at h; exact absurd rfl h
  · rename_i h1; rw [if_neg h1] at h; exact absurd rfl h

theorem sum_le8 {xs : List Nat} (h : ∀ x ∈ xs, x ≤ 16) : xs.sum ≤ 16 * xs.length := by
  induction xs with
  | nil => simp
  | cons x xs ih =>
    have h1 := h x (List.mem_cons_self ..)
    have h2 := ih (fun y hy => h y (List.mem_cons_of_mem _ hy))
    simp only [List.sum_cons, List.length_cons]; omega

theorem callF_lenBs (p : Part) (f : Flat) : LenBs (CallF p f).1 := by
  obtain ⟨h1, h2⟩ := callF_small p f
  refine ⟨by omega, ?_⟩
  have : cntB (CallF p f).1 ≤ 16 * (CallF p f).1.length := by
    unfold cntB
    have := sum_le8 (xs := (CallF p f).1.map cntL) (by
      intro x hx
      obtain ⟨y, hy, rfl⟩ := List.mem_map.1 hx
      have := h2 y hy
      unfold cntL; omega)
    simpa using this
  omega

theorem treeC_low {R : Nat → Prop} {g o n c : Nat} {t : TypeId} {tag : Nat → Nat} {l : Bnds} {N np : Nat} {σ : State} {G : Ctx (treeC R g o t tag l)} {D : Nat → Prop} {e : List ALoc} {a : Act} {w : World} {y : Value} (H : Rel N np G D e σ a w) (hn : l.length = n) (hc : n ≤ c) (hy : TR D w.heap e (.agg [.v (.slice (some ⟨g, o, none⟩) n c)]) y) :
    TR (lowD w.heap.size) w.heap [] (.agg (eBi l)) y := by
  subst hn
  simp only [TR] at hy
  obtain ⟨vs, rfl, hs, hr⟩ := hy
  match vs, hs, hr with
  | ⟨[x]⟩, _, hr =>
    simp only [CRp, CR, and_true] at hr
    obtain ⟨rfl, _⟩ := hr
    simp only [TR, eBi]
    refine ⟨_, rfl, rfl, ?_⟩
    simp only [CRp, and_true]
    exact (treeC_now H).data hc

noncomputable abbrev pkT (R : Nat → Prop) (g o : Nat) (t : TypeId) (tag : Nat → Nat) (l : Bnds) : Pk := { pk with κ := treeC R g o t tag l }

theorem tr_tup {D : Nat → Prop} {h : Array Obj} {e : List ALoc} {v : Value} {b : Bool} (hc : isCell v = true) : TR D h e (.tup [.agg [.v v], .one (.bool b)]) (.tuple #[.agg #[v], .bool b]) := by
  simp only [TR]
  refine ⟨_, rfl, ?_⟩
  simp only [TRs, TR]
  refine ⟨_, _, rfl, ⟨_, rfl, rfl, ?_⟩, _, _, rfl, by simp only [CR], rfl⟩
  simp only [CRp, CR, and_true]
  exact ⟨trivial, hc⟩

theorem markSlotN_ct (k : Int) : ACalls pk 40 [.one (.fs []), .one (.int .i64 k)] [] (fun r o => r = .one (.int .i64 k) ∧ o = []) := by
  refine acalls_of_body Tryz.func40 rfl (by kernel_rfl) rfl ?_
  refine rn rfl ?_
  refine goal_loop_keep (fun m σ => σ = ⟨[(5, .one (.int .i64 0)), (1, .one (.int .i64 k)), (0, .one (.fs []))], [], []⟩) 0 [5, 1, 0] [] rfl rfl ?_
  rintro m σ rfl
  refine rn rfl ?_
  refine goal_cond rfl (fun h => by simp at h) (fun _ => ?_)
  refine rn rfl ?_
  refine round_ext ?_
  exact rn rfl (fin_is [] rfl ⟨rfl, rfl⟩)

theorem markBindingN_ct (k : Int) : ACalls pk 15 [.agg (eBi []), .one (.int .i64 k)] [] (fun r o => r = .one (.int .i64 k) ∧ o = []) := by
  refine acalls_of_body Tryz.func15 rfl (by kernel_rfl) rfl ?_
  refine rn rfl ?_
  refine goal_step (step_call [] rfl rfl rfl rfl rfl rfl (markSlotN_ct k)) ?_
  rintro σ2 ⟨r, o', ⟨rfl, rfl⟩, hσ⟩
  obtain rfl := Option.some.inj hσ
  clear hσ
  refine rn rfl ?_
  exact rn rfl (fin_is [] rfl ⟨rfl, rfl⟩)

theorem fnExactCallPartial_ct (p : Part) (f : Flat) (hp : FitsP p) (hf : Fits f) : ACalls pk 4 [.agg (ePa p), .agg (eF f)] [] (fun r o => r = .one (.bool true) ∧ o = []) := by
  refine acalls_of_body Tryz.func4 rfl (by kernel_rfl) rfl ?_
  refine rn rfl ?_
  refine goal_step (step_call [] rfl rfl rfl rfl rfl rfl (szPart_ct p 1048576 (by omega) (by omega) hp)) ?_
  rintro σ2 ⟨r, o', ⟨rfl, rfl⟩, hσ⟩
  obtain rfl := Option.some.inj hσ
  clear hσ
  refine rn rfl ?_
  refine goal_cond rfl (fun h => ?_) (fun h => ?_) <;> (try simp only [gt_iff_lt, ge_iff_le, bne_iff_ne, ne_eq, bne_eq_false_iff_eq, beq_iff_eq, beq_eq_false_iff_ne, Bool.not_eq_true', Bool.not_eq_false', decide_eq_true_eq, decide_eq_false_iff_not, List.length_map] at h)
  · exact rn rfl (fin_is [] rfl ⟨rfl, rfl⟩)
  obtain ⟨p0, p1, p2, p3⟩ := szPart_ok (by omega) (by omega) h
  refine rn rfl ?_
  refine goal_step (step_call [] rfl rfl rfl rfl rfl rfl (szFlat_ct f (szPart p 1048576) (by omega) (by omega) hf)) ?_
  rintro σ2 ⟨r, o', ⟨rfl, rfl⟩, hσ⟩
  obtain rfl := Option.some.inj hσ
  clear hσ
  refine rn rfl ?_
  refine goal_cond rfl (fun h2 => ?_) (fun h2 => ?_) <;> (try simp only [gt_iff_lt, ge_iff_le, bne_iff_ne, ne_eq, bne_eq_false_iff_eq, beq_iff_eq, beq_eq_false_iff_ne, Bool.not_eq_true', Bool.not_eq_false', decide_eq_true_eq, decide_eq_false_iff_not, List.length_map] at h2)
  · exact rn rfl (fin_is [] rfl ⟨rfl, rfl⟩)
  obtain ⟨f1, f2, f3⟩ := fits_of_szF (by omega) (by omega) h2
  have lp : LenP p := ⟨⟨by omega, hp.sig.names⟩, ⟨by omega, by omega, hp.flat.names⟩⟩
  have lf : LenF f := ⟨by omega, by omega, hf.names⟩
  have hd := icallPart_ct p f lp lf
  have hs := scallPart_ct p f lp lf
  have hraw := fun {w : World} {vp vf : Value} => icall_raw p f lp lf (w := w) (vp := vp) (vf := vf)
  have lb := callF_lenBs p f
  have htrue := callF_true (p := p) (f := f)
  obtain ⟨s1, s2⟩ := callF_small p f
  generalize (CallF p f).1 = l at *
  generalize (CallF p f).2 = b at *
  refine rt1 8 rfl ?_
  refine goal_cutR (fun σ' => σ' = ⟨[(7, .one (.bool b)), (6, .one (.op 2 0 0)), (3, .one (.op 1 0 0)), (2, .one (.op 0 0 0))],
    [some ⟨3, [ePa p], false, false, true⟩, some ⟨2, [eF f], false, false, true⟩, some ⟨1, [eBi l], false, false, true⟩], []⟩) ?_ ?_
  · refine goal_draw' [0, 1] 11 rfl ?_
    refine drn [0, 2] (by kernel_rfl) (by kernel_rfl) rfl rfl ?_
    refine AH_two (i := 1) (j := 8) (by kernel_rfl) (step_call [] rfl rfl rfl rfl rfl rfl (toPartD_ct p (by omega) (by omega) (by omega))) (by simp) (step_did rfl rfl (dA_step rfl)) (mdOk rfl) ?_ ?_
    · rintro σ2 ⟨r, o', ⟨rfl, rfl⟩, hσ⟩
      obtain rfl := Option.some.inj hσ
      clear hσ
      refine AH_two (i := 3) (j := 8) (by kernel_rfl) (step_call [] rfl rfl rfl rfl rfl rfl (toFlatD_ct f (by omega) (by omega))) (by simp) (step_did rfl rfl (dA_step rfl)) (mdOk rfl) ?_ ?_
      · rintro σ2 ⟨r, o', ⟨rfl, rfl⟩, hσ⟩
        obtain rfl := Option.some.inj hσ
        clear hσ
        refine AH_two (i := 4) (j := 8) (by kernel_rfl) (step_call [] rfl rfl rfl rfl rfl rfl (hs)) (by simp) (step_did rfl rfl (dA_step rfl)) (mdOk rfl) ?_ ?_
        · rintro σ2 ⟨r, o', ⟨rfl, rfl⟩, hσ⟩
          obtain rfl := Option.some.inj hσ
          clear hσ
          refine drn [5, 6, 7] (by kernel_rfl) (by kernel_rfl) rfl rfl ?_
          refine AH_oneDid 8 rfl (by kernel_rfl) rfl (dA_step rfl) (mdOk rfl) ?_
          refine AH_oneDid 9 rfl (by kernel_rfl) rfl (dA_step rfl) (mdOk rfl) ?_
          refine drn [10] (by kernel_rfl) (by kernel_rfl) rfl rfl ?_
          refine AH_end (by kernel_rfl) ?_
          refine rn rfl ?_
          exact cut_nrm [7, 6, 3, 2] [0, 1, 2] rfl rfl
        · rintro _ rfl
          refine AH_one (i := 4) (by kernel_rfl) (step_call [] rfl rfl rfl rfl rfl rfl (hs)) (by simp) ?_
          rintro σ2 ⟨r, o', ⟨rfl, rfl⟩, hσ⟩
          obtain rfl := Option.some.inj hσ
          clear hσ
          refine drn [5, 6, 7] (by kernel_rfl) (by kernel_rfl) rfl rfl ?_
          refine AH_oneDid 9 rfl (by kernel_rfl) rfl (dA_step rfl) (mdOk rfl) ?_
          refine drn [10] (by kernel_rfl) (by kernel_rfl) rfl rfl ?_
          refine AH_end (by kernel_rfl) ?_
          refine rn rfl ?_
          exact cut_nrm [7, 6, 3, 2] [0, 1, 2] rfl rfl
      · rintro _ rfl
        refine AH_one (i := 3) (by kernel_rfl) (step_call [] rfl rfl rfl rfl rfl rfl (toFlatD_ct f (by omega) (by omega))) (by simp) ?_
        rintro σ2 ⟨r, o', ⟨rfl, rfl⟩, hσ⟩
        obtain rfl := Option.some.inj hσ
        clear hσ
        refine AH_one (i := 4) (by kernel_rfl) (step_call [] rfl rfl rfl rfl rfl rfl (hs)) (by simp) ?_
        rintro σ2 ⟨r, o', ⟨rfl, rfl⟩, hσ⟩
        obtain rfl := Option.some.inj hσ
        clear hσ
        refine drn [5, 6, 7] (by kernel_rfl) (by kernel_rfl) rfl rfl ?_
        refine AH_oneDid 9 rfl (by kernel_rfl) rfl (dA_step rfl) (mdOk rfl) ?_
        refine drn [10] (by kernel_rfl) (by kernel_rfl) rfl rfl ?_
        refine AH_end (by kernel_rfl) ?_
        refine rn rfl ?_
        exact cut_nrm [7, 6, 3, 2] [0, 1, 2] rfl rfl
    · rintro _ rfl
      refine AH_one (i := 1) (by kernel_rfl) (step_call [] rfl rfl rfl rfl rfl rfl (toPartD_ct p (by omega) (by omega) (by omega))) (by simp) ?_
      rintro σ2 ⟨r, o', ⟨rfl, rfl⟩, hσ⟩
      obtain rfl := Option.some.inj hσ
      clear hσ
      refine AH_one (i := 3) (by kernel_rfl) (step_call [] rfl rfl rfl rfl rfl rfl (toFlatD_ct f (by omega) (by omega))) (by simp) ?_
      rintro σ2 ⟨r, o', ⟨rfl, rfl⟩, hσ⟩
      obtain rfl := Option.some.inj hσ
      clear hσ
      refine AH_one (i := 4) (by kernel_rfl) (step_call [] rfl rfl rfl rfl rfl rfl (hs)) (by simp) ?_
      rintro σ2 ⟨r, o', ⟨rfl, rfl⟩, hσ⟩
      obtain rfl := Option.some.inj hσ
      clear hσ
      refine drn [5, 6, 7] (by kernel_rfl) (by kernel_rfl) rfl rfl ?_
      refine AH_oneDid 9 rfl (by kernel_rfl) rfl (dA_step rfl) (mdOk rfl) ?_
      refine drn [10] (by kernel_rfl) (by kernel_rfl) rfl rfl ?_
      refine AH_end (by kernel_rfl) ?_
      refine rn rfl ?_
      exact cut_nrm [7, 6, 3, 2] [0, 1, 2] rfl rfl
  rintro _ rfl
  refine rn rfl ?_
  refine goal_step (step_call [] rfl rfl rfl rfl rfl rfl (toPart_ct p (by omega) (by omega) (by omega))) ?_
  rintro σ2 ⟨r, o', ⟨rfl, rfl⟩, hσ⟩
  obtain rfl := Option.some.inj hσ
  clear hσ
  refine rn rfl ?_
  refine rn rfl ?_
  refine goal_step (step_call [] rfl rfl rfl rfl rfl rfl (toFlat_ct f (by omega) (by omega))) ?_
  rintro σ2 ⟨r, o', ⟨rfl, rfl⟩, hσ⟩
  obtain rfl := Option.some.inj hσ
  clear hσ
  refine rt 11 rfl ?_
  by_cases hl : l = []
  · subst hl
    have held : ACalls pk 26 [.agg (eBi []), .one (.int .i64 1)] [] (fun r o => r = .one (.int .i64 (1 + markN [])) ∧ o = []) := heldBinding_ct [] 1 (by simp) (by simp) (by omega) (by simp [markN])
    have heq := eqBi_ct [] lb
    clear hraw htrue
    refine rn rfl ?_
    refine goal_step (step_lendE [] rfl rfl rfl rfl rfl rfl rfl (cons_eq (asPa p) (cons_eq (asFl f) rfl)) (hd) (by rintro r o ⟨rfl, rfl⟩; exact ⟨rfl, rfl⟩)) ?_
    rintro σ2 ⟨r, o', ⟨rfl, rfl⟩, hσ⟩
    obtain rfl := Option.some.inj hσ
    clear hσ
    refine rn rfl ?_
    refine goal_step (step_call [] rfl rfl rfl rfl rfl rfl (heq)) ?_
    rintro σ2 ⟨r, o', ⟨rfl, rfl⟩, hσ⟩
    obtain rfl := Option.some.inj hσ
    clear hσ
    refine rn rfl ?_
    refine goal_guard rfl rfl rfl (fun h1 => by cases h1) (fun _ => ?_)
    refine rn rfl ?_
    refine goal_cond rfl (fun h => by simp at h) (fun _ => ?_)
    refine rn rfl ?_
    refine goal_draw' [0, 6] 5 rfl ?_
    refine drn [0, 1] (by kernel_rfl) (by kernel_rfl) rfl rfl ?_
    refine AH_one (i := 2) (by kernel_rfl) (step_call [] rfl rfl rfl rfl rfl rfl (toPartD_ct p (by omega) (by omega) (by omega))) (by simp) ?_
    rintro σ2 ⟨r, o', ⟨rfl, rfl⟩, hσ⟩
    obtain rfl := Option.some.inj hσ
    clear hσ
    refine AH_one (i := 3) (by kernel_rfl) (step_lendE [] rfl rfl rfl rfl rfl rfl rfl (cons_eq (asPa p) rfl) (eqPart_ct p (by omega) (by omega) (by omega)) (by rintro r o ⟨rfl, rfl⟩; exact ⟨rfl, rfl⟩)) (by simp) ?_
    rintro σ2 ⟨r, o', ⟨rfl, rfl⟩, hσ⟩
    obtain rfl := Option.some.inj hσ
    clear hσ
    refine drn [4] (by kernel_rfl) (by kernel_rfl) rfl rfl ?_
    refine AH_end (by kernel_rfl) ?_
    refine rn rfl ?_
    refine goal_cond rfl (fun h => by simp at h) (fun _ => ?_)
    refine rn rfl ?_
    refine goal_draw' [1, 9] 5 rfl ?_
    refine drn [0, 1] (by kernel_rfl) (by kernel_rfl) rfl rfl ?_
    refine AH_one (i := 2) (by kernel_rfl) (step_call [] rfl rfl rfl rfl rfl rfl (toFlatD_ct f (by omega) (by omega))) (by simp) ?_
    rintro σ2 ⟨r, o', ⟨rfl, rfl⟩, hσ⟩
    obtain rfl := Option.some.inj hσ
    clear hσ
    refine AH_one (i := 3) (by kernel_rfl) (step_lendE [] rfl rfl rfl rfl rfl rfl rfl (cons_eq (asFl f) rfl) (eqFlat_ct f f (by omega) (by omega)) (by rintro r o ⟨rfl, rfl⟩; exact ⟨rfl, rfl⟩)) (by simp) ?_
    rintro σ2 ⟨r, o', ⟨rfl, rfl⟩, hσ⟩
    obtain rfl := Option.some.inj hσ
    clear hσ
    refine drn [4] (by kernel_rfl) (by kernel_rfl) rfl rfl ?_
    refine AH_end (by kernel_rfl) ?_
    refine rn rfl ?_
    refine goal_cond rfl (fun h => by simp at h) (fun _ => ?_)
    refine rn rfl ?_
    refine goal_step (step_call [3, 4, 5] rfl rfl rfl rfl rfl rfl (markPart_ct p 1 (by omega) (by omega) (by omega) (by omega) (by omega))) ?_
    rintro σ2 ⟨r, o', ⟨rfl, rfl⟩, hσ⟩
    obtain rfl := Option.some.inj hσ
    clear hσ
    refine rn rfl ?_
    refine rn rfl ?_
    refine goal_step (step_call [7, 8] rfl rfl rfl rfl rfl rfl (markFlatK_ct f _ _ _ (by omega) (by omega) (by omega) (by omega))) ?_
    rintro σ2 ⟨r, o', ⟨rfl, rfl⟩, hσ⟩
    obtain rfl := Option.some.inj hσ
    clear hσ
    refine rn rfl ?_
    refine rn rfl ?_
    refine goal_guard rfl rfl rfl (fun h => ?_) (fun h => ?_) <;> (try simp only [gt_iff_lt, ge_iff_le, bne_iff_ne, ne_eq, bne_eq_false_iff_eq, beq_iff_eq, beq_eq_false_iff_ne, Bool.not_eq_true', Bool.not_eq_false', decide_eq_true_eq, decide_eq_false_iff_not, List.length_map] at h)
    · omega
    refine rn rfl ?_
    refine goal_step (step_call [] rfl rfl rfl rfl rfl rfl (heq)) ?_
    rintro σ2 ⟨r, o', ⟨rfl, rfl⟩, hσ⟩
    obtain rfl := Option.some.inj hσ
    clear hσ
    refine rn rfl ?_
    refine goal_guard rfl rfl rfl (fun h1 => by cases h1) (fun _ => ?_)
    refine rn rfl ?_
    refine goal_cond rfl (fun h => by simp at h) (fun _ => ?_)
    refine rn rfl ?_
    refine goal_step (step_call [] rfl rfl rfl rfl rfl rfl (markBindingN_ct 1)) ?_
    rintro σ2 ⟨r, o', ⟨rfl, rfl⟩, hσ⟩
    obtain rfl := Option.some.inj hσ
    clear hσ
    refine rn rfl ?_
    refine rn rfl ?_
    refine goal_step (step_call [] rfl rfl rfl rfl rfl rfl (held)) ?_
    rintro σ2 ⟨r, o', ⟨rfl, rfl⟩, hσ⟩
    obtain rfl := Option.some.inj hσ
    clear hσ
    refine rn rfl ?_
    refine goal_cond rfl (fun h => ?_) (fun h => ?_) <;> simp only [decide_eq_true_eq, decide_eq_false_iff_not] at h
    · simp [markN] at h
    refine rn rfl ?_
    refine goal_cond rfl (fun h => by simp [markN] at h) (fun _ => ?_)
    refine rt1 31 rfl ?_
    refine goal_cutR (fun σ' => σ' = ⟨[(16, .one (.bool b)), (15, .one (.op 2 0 0)), (13, .one (.int .i64 1)), (10, .one (.op 1 0 0)), (7, .one (.bool b)), (6, .one (.op 0 0 0))],
      [some ⟨1, [eBi []], false, false, true⟩, some ⟨1, [eBi []], false, false, true⟩, some ⟨1, [eBi []], false, false, true⟩], []⟩) ?_ ?_
    · refine goal_draw' [0, 1] 11 rfl ?_
      refine drn [0, 2] (by kernel_rfl) (by kernel_rfl) rfl rfl ?_
      refine AH_two (i := 1) (j := 8) (by kernel_rfl) (step_call [] rfl rfl rfl rfl rfl rfl (toPartD_ct p (by omega) (by omega) (by omega))) (by simp) (step_did rfl rfl (dA_step rfl)) (mdOk rfl) ?_ ?_
      · rintro σ2 ⟨r, o', ⟨rfl, rfl⟩, hσ⟩
        obtain rfl := Option.some.inj hσ
        clear hσ
        refine AH_two (i := 3) (j := 8) (by kernel_rfl) (step_call [] rfl rfl rfl rfl rfl rfl (toFlatD_ct f (by omega) (by omega))) (by simp) (step_did rfl rfl (dA_step rfl)) (mdOk rfl) ?_ ?_
        · rintro σ2 ⟨r, o', ⟨rfl, rfl⟩, hσ⟩
          obtain rfl := Option.some.inj hσ
          clear hσ
          refine AH_two (i := 4) (j := 8) (by kernel_rfl) (step_call [] rfl rfl rfl rfl rfl rfl (hd)) (by simp) (step_did rfl rfl (dA_step rfl)) (mdOk rfl) ?_ ?_
          · rintro σ2 ⟨r, o', ⟨rfl, rfl⟩, hσ⟩
            obtain rfl := Option.some.inj hσ
            clear hσ
            refine drn [5, 6, 7] (by kernel_rfl) (by kernel_rfl) rfl rfl ?_
            refine AH_oneDid 8 rfl (by kernel_rfl) rfl (dA_step rfl) (mdOk rfl) ?_
            refine AH_oneDid 9 rfl (by kernel_rfl) rfl (dA_step rfl) (mdOk rfl) ?_
            refine drn [10] (by kernel_rfl) (by kernel_rfl) rfl rfl ?_
            refine AH_end (by kernel_rfl) ?_
            refine rn rfl ?_
            exact cut_nrm [16, 15, 13, 10, 7, 6] [2, 10, 11] rfl rfl
          · rintro _ rfl
            refine AH_one (i := 4) (by kernel_rfl) (step_call [] rfl rfl rfl rfl rfl rfl (hd)) (by simp) ?_
            rintro σ2 ⟨r, o', ⟨rfl, rfl⟩, hσ⟩
            obtain rfl := Option.some.inj hσ
            clear hσ
            refine drn [5, 6, 7] (by kernel_rfl) (by kernel_rfl) rfl rfl ?_
            refine AH_oneDid 9 rfl (by kernel_rfl) rfl (dA_step rfl) (mdOk rfl) ?_
            refine drn [10] (by kernel_rfl) (by kernel_rfl) rfl rfl ?_
            refine AH_end (by kernel_rfl) ?_
            refine rn rfl ?_
            exact cut_nrm [16, 15, 13, 10, 7, 6] [2, 10, 11] rfl rfl
        · rintro _ rfl
          refine AH_one (i := 3) (by kernel_rfl) (step_call [] rfl rfl rfl rfl rfl rfl (toFlatD_ct f (by omega) (by omega))) (by simp) ?_
          rintro σ2 ⟨r, o', ⟨rfl, rfl⟩, hσ⟩
          obtain rfl := Option.some.inj hσ
          clear hσ
          refine AH_one (i := 4) (by kernel_rfl) (step_call [] rfl rfl rfl rfl rfl rfl (hd)) (by simp) ?_
          rintro σ2 ⟨r, o', ⟨rfl, rfl⟩, hσ⟩
          obtain rfl := Option.some.inj hσ
          clear hσ
          refine drn [5, 6, 7] (by kernel_rfl) (by kernel_rfl) rfl rfl ?_
          refine AH_oneDid 9 rfl (by kernel_rfl) rfl (dA_step rfl) (mdOk rfl) ?_
          refine drn [10] (by kernel_rfl) (by kernel_rfl) rfl rfl ?_
          refine AH_end (by kernel_rfl) ?_
          refine rn rfl ?_
          exact cut_nrm [16, 15, 13, 10, 7, 6] [2, 10, 11] rfl rfl
      · rintro _ rfl
        refine AH_one (i := 1) (by kernel_rfl) (step_call [] rfl rfl rfl rfl rfl rfl (toPartD_ct p (by omega) (by omega) (by omega))) (by simp) ?_
        rintro σ2 ⟨r, o', ⟨rfl, rfl⟩, hσ⟩
        obtain rfl := Option.some.inj hσ
        clear hσ
        refine AH_one (i := 3) (by kernel_rfl) (step_call [] rfl rfl rfl rfl rfl rfl (toFlatD_ct f (by omega) (by omega))) (by simp) ?_
        rintro σ2 ⟨r, o', ⟨rfl, rfl⟩, hσ⟩
        obtain rfl := Option.some.inj hσ
        clear hσ
        refine AH_one (i := 4) (by kernel_rfl) (step_call [] rfl rfl rfl rfl rfl rfl (hd)) (by simp) ?_
        rintro σ2 ⟨r, o', ⟨rfl, rfl⟩, hσ⟩
        obtain rfl := Option.some.inj hσ
        clear hσ
        refine drn [5, 6, 7] (by kernel_rfl) (by kernel_rfl) rfl rfl ?_
        refine AH_oneDid 9 rfl (by kernel_rfl) rfl (dA_step rfl) (mdOk rfl) ?_
        refine drn [10] (by kernel_rfl) (by kernel_rfl) rfl rfl ?_
        refine AH_end (by kernel_rfl) ?_
        refine rn rfl ?_
        exact cut_nrm [16, 15, 13, 10, 7, 6] [2, 10, 11] rfl rfl
    rintro _ rfl
    refine rn rfl ?_
    refine goal_step (step_call [] rfl rfl rfl rfl rfl rfl (heq)) ?_
    rintro σ2 ⟨r, o', ⟨rfl, rfl⟩, hσ⟩
    obtain rfl := Option.some.inj hσ
    clear hσ
    refine rn rfl ?_
    refine goal_guard rfl rfl rfl (fun h1 => by cases h1) (fun _ => ?_)
    refine rn rfl ?_
    refine goal_cond rfl (fun h => by simp at h) (fun _ => ?_)
    refine rn rfl ?_
    refine goal_step (step_call [] rfl rfl rfl rfl rfl rfl (held)) ?_
    rintro σ2 ⟨r, o', ⟨rfl, rfl⟩, hσ⟩
    obtain rfl := Option.some.inj hσ
    clear hσ
    refine rn rfl ?_
    refine goal_cond rfl (fun h => ?_) (fun h => ?_) <;> simp only [decide_eq_true_eq, decide_eq_false_iff_not] at h
    · simp [markN] at h
    refine rn rfl ?_
    refine goal_cond rfl (fun h => by simp [markN] at h) (fun _ => ?_)
    exact rn rfl (fin_is [] rfl ⟨rfl, rfl⟩)
  have hb := htrue hl
  subst hb
  refine goal_raw (fun {G D e a w} H => ?_)
  change wpOps _ _ _ [0, 1, 2, 3, 4, 5, 6, 7, 8] _ _
  rw [wpOps_cons]
  refine (step_did (X := pk) rfl rfl (dA_step rfl)) H (fun D0 e0 σ0 a0 w0 H0 _ hP => ?_)
  subst hP
  rw [wpOps_cons]
  refine (step_did (X := pk) rfl rfl (dA_step rfl)) H0 (fun D1 e1 σ1 a1 w1 H1 _ hP => ?_)
  subst hP
  rw [wpOps_cons]
  refine wpOp_call (X := pk) rfl H1 rfl ⟨_, Tryz.func23, rfl, by kernel_rfl⟩ ?_
  have hx1 : TR (lowD w1.heap.size) w1.heap [] (.agg (ePa p)) (a1.eval (.tmp 40)) := by
    have h := rel_low H1 (.tmp 40)
    exact asPa p ▸ h
  have hx2 : TR (lowD w1.heap.size) w1.heap [] (.agg (eF f)) (a1.eval (.tmp 41)) := by
    have h := rel_low H1 (.tmp 41)
    exact asFl f ▸ h
  have hxs : (#[Operand.tmp 40, Operand.tmp 41] : Array Operand).map a1.eval = #[a1.eval (.tmp 40), a1.eval (.tmp 41)] := by simp
  rw [hxs]
  refine (hraw (tree_args hx1 hx2) hl).mono ?_
  rintro en w2 ⟨g, o, t, c, tag, rfl, hlc, hb2, hct⟩
  refine ⟨_, rfl, ?_⟩
  generalize hRd : (fun b => w1.heap.size ≤ b ∧ b < w2.heap.size) = R at hct
  have hRb : ∀ b, R b ↔ w1.heap.size ≤ b ∧ b < w2.heap.size := fun b => by rw [← hRd]
  have hdj : ∀ b', R b' → b' < w2.heap.size ∧ ¬ Wof e1 b' := by
    intro b' h1
    rw [hRb] at h1
    refine ⟨h1.2, ?_⟩
    rintro ⟨id, ad, esz, cap, n, he, rfl⟩
    have := (H1.sr.own id ad _ _ _ he).1
    omega
  let G2 : Ctx (treeC R g o t tag l) := ⟨w2, D1, e1, glob_any, hct, hdj⟩
  have hx2 : Ext w1 (fun _ => False) w2 := ⟨hb2.os, hb2.tape, hb2.output, hb2.size, fun b' h _ => hb2.block b' h⟩
  have H2 := rel_new H1 hx2 (fun _ h => h.elim) G2 rfl rfl rfl
  have H3 := H2.putv (dst := some 42) (x := .tup [.agg [.v (.slice (some ⟨g, o, none⟩) l.length c)], .one (.bool true)]) (v := .tuple #[.agg #[.slice (some ⟨g, o, none⟩) l.length c], .bool true]) (tr_tup rfl) (putS_eq rfl)
  rw [wpOps_cons]
  refine (step_did (X := pkT R g o t tag l) rfl rfl (dA_step rfl)) H3 (fun D4 e4 σ4 a4 w4 H4 _ hP => ?_)
  subst hP
  rw [wpOps_cons]
  refine (step_did (X := pkT R g o t tag l) rfl rfl (dA_step rfl)) H4 (fun D5 e5 σ5 a5 w5 H5 _ hP => ?_)
  subst hP
  rw [wpOps_cons]
  refine (step_did (X := pkT R g o t tag l) rfl rfl (dA_step rfl)) H5 (fun D6 e6 σ6 a6 w6 H6 _ hP => ?_)
  subst hP
  rw [wpOps_cons]
  refine (step_did (X := pkT R g o t tag l) rfl rfl (dA_step rfl)) H6 (fun D7 e7 σ7 a7 w7 H7 _ hP => ?_)
  subst hP
  rw [wpOps_cons]
  refine (step_did (X := pkT R g o t tag l) rfl rfl (dA_step rfl)) H7 (fun D8 e8 σ8 a8 w8 H8 _ hP => ?_)
  subst hP
  rw [wpOps_cons]
  refine (step_did (X := pkT R g o t tag l) rfl rfl (dA_step rfl)) H8 (fun D9 e9 σ9 a9 w9 H9 _ hP => ?_)
  subst hP
  refine wp_rest (n := 8) (X := pkT R g o t tag l) (Φ := fun τ => τ = ⟨[(13, .one (.int .i64 1)), (11, .one (.bool true)), (10, .one (.op 3 0 0)), (7, .one (.bool true)), (6, .one (.op 2 0 0)), (3, .one (.op 1 0 0)), (2, .one (.op 0 0 0))],
    [some ⟨3, [ePa p], false, false, true⟩, some ⟨2, [eF f], false, false, true⟩, some ⟨1, [eBi l], false, false, true⟩, some ⟨1, [[.v (.slice (some ⟨g, o, none⟩) l.length c)]], false, false, true⟩], []⟩) H9 ?_ ?_
  · refine rn rfl ?_
    refine goal_step (step_read rfl rfl rfl rfl (eqBi_ct l lb).up (by rintro r o ⟨rfl, rfl⟩; exact ⟨rfl, rfl⟩) (fun {G D e a w} H => ?_)) ?_
    · have hy1 := H.ev (.tmp 45)
      have hy2 : TR (lowD w.heap.size) w.heap [] (.agg (eBi l)) (a.eval (.tmp 46)) := rel_low H (.tmp 46)
      exact tree_args (treeC_low H rfl hlc hy1) hy2
    rintro σ2 ⟨r, o', ⟨rfl, rfl⟩, hσ⟩
    obtain rfl := Option.some.inj hσ
    clear hσ
    refine rn rfl ?_
    refine goal_guard rfl rfl rfl (fun h1 => by cases h1) (fun _ => ?_)
    refine rn rfl ?_
    refine goal_cond rfl (fun h => by simp at h) (fun _ => ?_)
    refine rn rfl ?_
    refine goal_draw' [0, 6] 5 rfl ?_
    refine drn [0, 1] (by kernel_rfl) (by kernel_rfl) rfl rfl ?_
    refine AH_one (i := 2) (by kernel_rfl) (step_call [] rfl rfl rfl rfl rfl rfl ((toPartD_ct p (by omega) (by omega) (by omega)).up)) (by simp) ?_
    rintro σ2 ⟨r, o', ⟨rfl, rfl⟩, hσ⟩
    obtain rfl := Option.some.inj hσ
    clear hσ
    refine AH_one (i := 3) (by kernel_rfl) (step_lendE [] rfl rfl rfl rfl rfl rfl rfl (cons_eq (asPa p) rfl) ((eqPart_ct p (by omega) (by omega) (by omega)).up) (by rintro r o ⟨rfl, rfl⟩; exact ⟨rfl, rfl⟩)) (by simp) ?_
    rintro σ2 ⟨r, o', ⟨rfl, rfl⟩, hσ⟩
    obtain rfl := Option.some.inj hσ
    clear hσ
    refine drn [4] (by kernel_rfl) (by kernel_rfl) rfl rfl ?_
    refine AH_end (by kernel_rfl) ?_
    refine rn rfl ?_
    refine goal_cond rfl (fun h => by simp at h) (fun _ => ?_)
    refine rn rfl ?_
    refine goal_draw' [1, 9] 5 rfl ?_
    refine drn [0, 1] (by kernel_rfl) (by kernel_rfl) rfl rfl ?_
    refine AH_one (i := 2) (by kernel_rfl) (step_call [] rfl rfl rfl rfl rfl rfl ((toFlatD_ct f (by omega) (by omega)).up)) (by simp) ?_
    rintro σ2 ⟨r, o', ⟨rfl, rfl⟩, hσ⟩
    obtain rfl := Option.some.inj hσ
    clear hσ
    refine AH_one (i := 3) (by kernel_rfl) (step_lendE [] rfl rfl rfl rfl rfl rfl rfl (cons_eq (asFl f) rfl) ((eqFlat_ct f f (by omega) (by omega)).up) (by rintro r o ⟨rfl, rfl⟩; exact ⟨rfl, rfl⟩)) (by simp) ?_
    rintro σ2 ⟨r, o', ⟨rfl, rfl⟩, hσ⟩
    obtain rfl := Option.some.inj hσ
    clear hσ
    refine drn [4] (by kernel_rfl) (by kernel_rfl) rfl rfl ?_
    refine AH_end (by kernel_rfl) ?_
    refine rn rfl ?_
    refine goal_cond rfl (fun h => by simp at h) (fun _ => ?_)
    refine rn rfl ?_
    refine goal_step (step_call [3, 4, 5] rfl rfl rfl rfl rfl rfl ((markPart_ct p 1 (by omega) (by omega) (by omega) (by omega) (by omega)).up)) ?_
    rintro σ2 ⟨r, o', ⟨rfl, rfl⟩, hσ⟩
    obtain rfl := Option.some.inj hσ
    clear hσ
    refine rn rfl ?_
    refine rn rfl ?_
    refine goal_step (step_call [7, 8] rfl rfl rfl rfl rfl rfl ((markFlatK_ct f _ _ _ (by omega) (by omega) (by omega) (by omega)).up)) ?_
    rintro σ2 ⟨r, o', ⟨rfl, rfl⟩, hσ⟩
    obtain rfl := Option.some.inj hσ
    clear hσ
    refine rn rfl ?_
    refine rn rfl ?_
    refine goal_guard rfl rfl rfl (fun h => ?_) (fun h => ?_) <;> (try simp only [gt_iff_lt, ge_iff_le, bne_iff_ne, ne_eq, bne_eq_false_iff_eq, beq_iff_eq, beq_eq_false_iff_ne, Bool.not_eq_true', Bool.not_eq_false', decide_eq_true_eq, decide_eq_false_iff_not, List.length_map] at h)
    · omega
    refine rn rfl ?_
    refine goal_step (step_read rfl rfl rfl rfl (eqBi_ct l lb).up (by rintro r o ⟨rfl, rfl⟩; exact ⟨rfl, rfl⟩) (fun {G D e a w} H => ?_)) ?_
    · have hy1 := H.ev (.tmp 73)
      have hy2 : TR (lowD w.heap.size) w.heap [] (.agg (eBi l)) (a.eval (.tmp 74)) := rel_low H (.tmp 74)
      exact tree_args (treeC_low H rfl hlc hy1) hy2
    rintro σ2 ⟨r, o', ⟨rfl, rfl⟩, hσ⟩
    obtain rfl := Option.some.inj hσ
    clear hσ
    refine rn rfl ?_
    refine goal_guard rfl rfl rfl (fun h1 => by cases h1) (fun _ => ?_)
    refine rn rfl ?_
    refine goal_cond rfl (fun h => by simp at h) (fun _ => ?_)
    refine rn rfl ?_
    refine cut_nrm [13, 11, 10, 7, 6, 3, 2] [0, 1, 2, 10] rfl rfl
  · rintro τ D6 e6 a6 w6 H6 rfl
    refine wp_seq (wp_region ?_)
    change wpOps _ _ _ [0, 1, 2, 3] _ _
    rw [wpOps_cons]
    refine (step_did (X := pkT R g o t tag l) rfl rfl (dA_step rfl)) H6 (fun D7 e7 σ7 a7 w7 H7 _ hP => ?_)
    subst hP
    rw [wpOps_cons]
    refine (step_did (X := pkT R g o t tag l) rfl rfl (dA_step rfl)) H7 (fun D8 e8 σ8 a8 w8 H8 _ hP => ?_)
    subst hP
    rw [wpOps_cons]
    have hT := treeC_now H8
    have ho8 := H8.old
    have hn8 := H8.new
    have hD1 : ∀ b', D1 b' → b' < w1.heap.size := H1.sr.dom
    have hw8 : w2.heap.size ≤ w8.heap.size := H8.ext.size
    have hS : ∀ b', R b' → ¬ D8 b' ∧ ¬ Wof e8 b' := by
      intro b' hb'
      obtain ⟨h1, h2⟩ := (hRb b').1 hb'
      refine ⟨fun h => ?_, ?_⟩
      · rcases ho8 b' h h2 with h3 | h3
        · have := hD1 b' h3; omega
        · exact (hdj b' hb').2 h3.wof
      · rintro ⟨id, ad', esz, cap, n, he, rfl⟩
        rcases hn8 id ad' _ _ _ he with h3 | h3
        · exact (hdj _ hb').2 h3
        · have h4 : w2.heap.size ≤ ad'.block := h3
          omega
    have hR8 : ∀ b', R b' → b' < w8.heap.size := fun b' hb' => by have := (hRb b').1 hb'; omega
    have hv83 := H8.ev (.tmp 83)
    have hv84 := H8.ev (.tmp 84)
    have H8b := rel_back H1 hx2 (fun _ h => h.elim) G2 rfl rfl rfl H8
    refine wpOp_call (X := pk) rfl H8b rfl ⟨_, Tryz.func15, rfl, by kernel_rfl⟩ ?_
    have hx83 : a8.eval (.tmp 83) = .agg #[.slice (some ⟨g, o, none⟩) l.length c] := agg_v hv83
    have hx84 : a8.eval (.tmp 84) = .int .i64 1 := hv84
    have hxs : (#[Operand.tmp 83, Operand.tmp 84] : Array Operand).map a8.eval = #[.agg #[.slice (some ⟨g, o, none⟩) l.length c], .int .i64 1] := by rw [← hx83, ← hx84]; simp
    rw [hxs]
    have hmk := markN_le l
    have hml := lb.tot
    have hll : ∀ x ∈ l, x.list.length ≤ 16777216 ∧ x.pairs.length ≤ 16777216 := fun x hx => by have := s2 x hx; omega
    refine (markBinding_c l c 1 hlc (by omega) hll (by omega) (by omega) hR8 hT).mono ?_
    rintro en w9 ⟨rfl, hx9, hT9⟩
    refine ⟨_, rfl, ?_⟩
    let G3 : Ctx (treeC R g o t tag (seqB 1 l)) := ⟨w9, D8, e8, glob_any, hT9, fun b' hb' => ⟨by have := hR8 b' hb'; have := hx9.size; omega, (hS b' hb').2⟩⟩
    have H9 := rel_new H8b hx9 hS G3 rfl rfl rfl
    have H10 := H9.putv (dst := some 85) (x := .one (.int .i64 (1 + markN l))) (v := .int .i64 (1 + markN l)) (by simp only [TR, CR]) (putS_eq rfl)
    rw [wpOps_cons]
    refine (step_did (X := pkT R g o t tag (seqB 1 l)) rfl rfl (dA_step rfl)) H10 (fun D11 e11 σ11 a11 w11 H11 _ hP => ?_)
    subst hP
    have hb3 : ∀ {D2 : Nat → Prop} {e2 : List ALoc} {τ : State} {a2 : Act} {w2' : World}, Rel Tryz.f4.ntmps ([] : List (Option AObj)).length G3 D2 e2 τ a2 w2' → Rel Tryz.f4.ntmps ([] : List (Option AObj)).length G D2 e2 τ a2 w2' :=
      fun h => rel_back H8b hx9 (fun b' hb => by have h1 := H1.ext.size; have h2 := (hRb b').1 hb; omega) G3 rfl rfl rfl h
    refine wp_mono ((show goal (pkT R g o t tag (seqB 1 l)) _ _ (finK pk _ _ _) (.cod _ []) _ from ?_) G3 D11 e11 a11 w11 H11) (fun ex a w ⟨D, e, τ, hr, hk⟩ => ⟨D, e, τ, hb3 hr, hk⟩)
    have hsl := seqB_length l 1
    have held := heldBinding_ct l 1 (by omega) hll (by omega) (by omega)
    refine rn rfl ?_
    refine goal_step (step_read rfl rfl rfl rfl held.up (by rintro r o ⟨rfl, rfl⟩; exact ⟨rfl, rfl⟩) (fun {G D e a w} H => ?_)) ?_
    · have hy1 := H.ev (.tmp 86)
      have hy2 : TR (lowD w.heap.size) w.heap [] (.one (.int .i64 1)) (a.eval (.tmp 87)) := rel_low H (.tmp 87)
      exact tree_args (treeC_low H hsl hlc hy1) hy2
    rintro σ2 ⟨r, o', ⟨rfl, rfl⟩, hσ⟩
    obtain rfl := Option.some.inj hσ
    clear hσ
    refine rn rfl ?_
    refine goal_cond rfl (fun h => ?_) (fun h => ?_) <;> simp only [decide_eq_true_eq, decide_eq_false_iff_not] at h
    · omega
    refine rn rfl ?_
    refine goal_cond rfl (fun h => by simp at h) (fun _ => ?_)
    refine rt1 31 rfl ?_
    refine goal_cutR (fun σ' => σ' = ⟨[(16, .one (.bool true)), (15, .one (.op 2 0 0)), (13, .one (.int .i64 (1 + markN l))), (10, .one (.op 1 0 0)), (7, .one (.bool true)), (6, .one (.op 0 0 0))],
      [some ⟨1, [eBi l], false, false, true⟩, some ⟨1, [[.v (.slice (some ⟨g, o, none⟩) l.length c)]], false, false, true⟩, some ⟨1, [eBi l], false, false, true⟩], []⟩) ?_ ?_
    · refine goal_draw' [0, 1] 11 rfl ?_
      refine drn [0, 2] (by kernel_rfl) (by kernel_rfl) rfl rfl ?_
      refine AH_two (i := 1) (j := 8) (by kernel_rfl) (step_call [] rfl rfl rfl rfl rfl rfl ((toPartD_ct p (by omega) (by omega) (by omega)).up)) (by simp) (step_did rfl rfl (dA_step rfl)) (mdOk rfl) ?_ ?_
      · rintro σ2 ⟨r, o', ⟨rfl, rfl⟩, hσ⟩
        obtain rfl := Option.some.inj hσ
        clear hσ
        refine AH_two (i := 3) (j := 8) (by kernel_rfl) (step_call [] rfl rfl rfl rfl rfl rfl ((toFlatD_ct f (by omega) (by omega)).up)) (by simp) (step_did rfl rfl (dA_step rfl)) (mdOk rfl) ?_ ?_
        · rintro σ2 ⟨r, o', ⟨rfl, rfl⟩, hσ⟩
          obtain rfl := Option.some.inj hσ
          clear hσ
          refine AH_two (i := 4) (j := 8) (by kernel_rfl) (step_call [] rfl rfl rfl rfl rfl rfl (hd.up)) (by simp) (step_did rfl rfl (dA_step rfl)) (mdOk rfl) ?_ ?_
          · rintro σ2 ⟨r, o', ⟨rfl, rfl⟩, hσ⟩
            obtain rfl := Option.some.inj hσ
            clear hσ
            refine drn [5, 6, 7] (by kernel_rfl) (by kernel_rfl) rfl rfl ?_
            refine AH_oneDid 8 rfl (by kernel_rfl) rfl (dA_step rfl) (mdOk rfl) ?_
            refine AH_oneDid 9 rfl (by kernel_rfl) rfl (dA_step rfl) (mdOk rfl) ?_
            refine drn [10] (by kernel_rfl) (by kernel_rfl) rfl rfl ?_
            refine AH_end (by kernel_rfl) ?_
            refine rn rfl ?_
            exact cut_nrm [16, 15, 13, 10, 7, 6] [2, 3, 4] rfl rfl
          · rintro _ rfl
            refine AH_one (i := 4) (by kernel_rfl) (step_call [] rfl rfl rfl rfl rfl rfl (hd.up)) (by simp) ?_
            rintro σ2 ⟨r, o', ⟨rfl, rfl⟩, hσ⟩
            obtain rfl := Option.some.inj hσ
            clear hσ
            refine drn [5, 6, 7] (by kernel_rfl) (by kernel_rfl) rfl rfl ?_
            refine AH_oneDid 9 rfl (by kernel_rfl) rfl (dA_step rfl) (mdOk rfl) ?_
            refine drn [10] (by kernel_rfl) (by kernel_rfl) rfl rfl ?_
            refine AH_end (by kernel_rfl) ?_
            refine rn rfl ?_
            exact cut_nrm [16, 15, 13, 10, 7, 6] [2, 3, 4] rfl rfl
        · rintro _ rfl
          refine AH_one (i := 3) (by kernel_rfl) (step_call [] rfl rfl rfl rfl rfl rfl ((toFlatD_ct f (by omega) (by omega)).up)) (by simp) ?_
          rintro σ2 ⟨r, o', ⟨rfl, rfl⟩, hσ⟩
          obtain rfl := Option.some.inj hσ
          clear hσ
          refine AH_one (i := 4) (by kernel_rfl) (step_call [] rfl rfl rfl rfl rfl rfl (hd.up)) (by simp) ?_
          rintro σ2 ⟨r, o', ⟨rfl, rfl⟩, hσ⟩
          obtain rfl := Option.some.inj hσ
          clear hσ
          refine drn [5, 6, 7] (by kernel_rfl) (by kernel_rfl) rfl rfl ?_
          refine AH_oneDid 9 rfl (by kernel_rfl) rfl (dA_step rfl) (mdOk rfl) ?_
          refine drn [10] (by kernel_rfl) (by kernel_rfl) rfl rfl ?_
          refine AH_end (by kernel_rfl) ?_
          refine rn rfl ?_
          exact cut_nrm [16, 15, 13, 10, 7, 6] [2, 3, 4] rfl rfl
      · rintro _ rfl
        refine AH_one (i := 1) (by kernel_rfl) (step_call [] rfl rfl rfl rfl rfl rfl ((toPartD_ct p (by omega) (by omega) (by omega)).up)) (by simp) ?_
        rintro σ2 ⟨r, o', ⟨rfl, rfl⟩, hσ⟩
        obtain rfl := Option.some.inj hσ
        clear hσ
        refine AH_one (i := 3) (by kernel_rfl) (step_call [] rfl rfl rfl rfl rfl rfl ((toFlatD_ct f (by omega) (by omega)).up)) (by simp) ?_
        rintro σ2 ⟨r, o', ⟨rfl, rfl⟩, hσ⟩
        obtain rfl := Option.some.inj hσ
        clear hσ
        refine AH_one (i := 4) (by kernel_rfl) (step_call [] rfl rfl rfl rfl rfl rfl (hd.up)) (by simp) ?_
        rintro σ2 ⟨r, o', ⟨rfl, rfl⟩, hσ⟩
        obtain rfl := Option.some.inj hσ
        clear hσ
        refine drn [5, 6, 7] (by kernel_rfl) (by kernel_rfl) rfl rfl ?_
        refine AH_oneDid 9 rfl (by kernel_rfl) rfl (dA_step rfl) (mdOk rfl) ?_
        refine drn [10] (by kernel_rfl) (by kernel_rfl) rfl rfl ?_
        refine AH_end (by kernel_rfl) ?_
        refine rn rfl ?_
        exact cut_nrm [16, 15, 13, 10, 7, 6] [2, 3, 4] rfl rfl
    rintro _ rfl
    refine rn rfl ?_
    refine goal_step (step_call [] rfl rfl rfl rfl rfl rfl ((eqBi_ct l lb).up)) ?_
    rintro σ2 ⟨r, o', ⟨rfl, rfl⟩, hσ⟩
    obtain rfl := Option.some.inj hσ
    clear hσ
    refine rn rfl ?_
    refine goal_guard rfl rfl rfl (fun h1 => by cases h1) (fun _ => ?_)
    refine rn rfl ?_
    refine goal_cond rfl (fun h => by simp at h) (fun _ => ?_)
    refine rn rfl ?_
    refine goal_step (step_read rfl rfl rfl rfl held.up (by rintro r o ⟨rfl, rfl⟩; exact ⟨rfl, rfl⟩) (fun {G D e a w} H => ?_)) ?_
    · have hy1 := H.ev (.tmp 111)
      have hy2 : TR (lowD w.heap.size) w.heap [] (.one (.int .i64 1)) (a.eval (.tmp 112)) := rel_low H (.tmp 112)
      exact tree_args (treeC_low H hsl hlc hy1) hy2
    rintro σ2 ⟨r, o', ⟨rfl, rfl⟩, hσ⟩
    obtain rfl := Option.some.inj hσ
    clear hσ
    refine rn rfl ?_
    refine goal_cond rfl (fun h => ?_) (fun h => ?_) <;> simp only [decide_eq_true_eq, decide_eq_false_iff_not] at h
    · omega
    refine rn rfl ?_
    refine goal_cond rfl (fun h => by simp at h) (fun _ => ?_)
    exact rn rfl (fin_is [] rfl ⟨rfl, rfl⟩)
end

end Go.Proofs.YtocdfakomfifbaaGreat
