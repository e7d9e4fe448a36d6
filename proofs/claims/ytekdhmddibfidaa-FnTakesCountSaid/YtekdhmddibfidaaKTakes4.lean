/- Part 4 of the proof: an abstract machine over the model; contracts of the functions that the law reaches. -/
import Derived.Test.YtekdhmddibfidaaKTakes3
set_option linter.unusedVariables false
set_option linter.unusedSimpArgs false
namespace Go.Proofs.Ytekdhmddibfidaa
open Go
set_option maxRecDepth 100000
set_option maxHeartbeats 1000000

def stepN (xs : List Str) (i : Nat) : Bool := match xs[i]? with
  | some n => okName n && (i == 0 || (match xs[i - 1]? with
    | some m => ltS m n
    | none => false))
  | none => true

def okNs (xs : List Str) : Bool := (List.range xs.length).all (stepN xs)

def okX (x : Shp) : Bool := okNs x.names && inR x.count 0 8 && decide (x.names.length ≤ 8)

def flatX (x : Shp) : Flat := ⟨List.replicate x.count.toNat 0, x.names.map mkN⟩

theorem okNs_all {xs : List Str} : okNs xs = true ↔ ∀ i, i < xs.length → stepN xs i = true := by
  simp [okNs, List.all_eq_true, List.mem_range]

theorem okNs_iff {xs : List Str} : okNs xs = true ↔ (∀ n ∈ xs, okName n = true) ∧ xs.Pairwise (fun a b => ltS a b = true) := by
  rw [okNs_all]
  constructor
  · intro h
    refine ⟨fun n hn => ?_, ?_⟩
    · obtain ⟨i, hi⟩ := List.getElem?_of_mem hn
      have := h i (lt_of_some hi)
      unfold stepN at this
      rw [hi] at this
      simp only [Bool.and_eq_true] at this
      exact this.1
    · rw [List.pairwise_iff_getElem]
      have key : ∀ (d i : Nat) (hi : i < xs.length) (hj : i + (d + 1) < xs.length), ltS xs[i] xs[i + (d + 1)] = true := by
        intro d
        induction d with
        | zero =>
          intro i hi hj
          have := h (i + 1) hj
          unfold stepN at this
          rw [List.getElem?_eq_getElem hj] at this
          simp only [Nat.add_sub_cancel, List.getElem?_eq_getElem hi, Bool.and_eq_true] at this
          simpa using this.2
        | succ d ih =>
          intro i hi hj
          have h1 := ih i hi (by omega)
          have := h (i + (d + 1) + 1) (by omega)
          unfold stepN at this
          rw [List.getElem?_eq_getElem (by omega)] at this
          simp only [Nat.add_sub_cancel, List.getElem?_eq_getElem (show i + (d + 1) < xs.length by omega), Bool.and_eq_true] at this
          have h2 := this.2
          simp only [Bool.or_eq_true, beq_iff_eq] at h2
          rcases h2 with h2 | h2
          · omega
          · exact ltS_trans h1 h2
      intro i j hi hj hij
      obtain ⟨d, rfl⟩ : ∃ d, j = i + (d + 1) := ⟨j - i - 1, by omega⟩
      exact key d i hi hj
  · rintro ⟨h1, h2⟩ i hi
    rw [List.pairwise_iff_getElem] at h2
    unfold stepN
    rw [List.getElem?_eq_getElem hi]
    simp only [Bool.and_eq_true]
    refine ⟨h1 _ (List.getElem_mem hi), ?_⟩
    cases i with
    | zero => rfl
    | succ i =>
      rw [Nat.add_sub_cancel, List.getElem?_eq_getElem (by omega)]
      simp only [Bool.or_eq_true]
      exact .inr (h2 i (i + 1) (by omega) hi (by omega))

theorem okNs_nodup {xs : List Str} (h : okNs xs = true) : xs.Nodup := by
  refine (okNs_iff.1 h).2.imp fun hab he => ?_
  rw [he, ltS_irrefl] at hab; cases hab

theorem flatX_names (x : Shp) : namesOf (flatX x).named = x.names := names_mk x.names

theorem flatX_places (x : Shp) : (flatX x).places.length = x.count.toNat := by simp [flatX]

theorem okX_flat {x : Shp} (h : okX x = true) : OkF (flatX x) := by
  simp only [okX, Bool.and_eq_true, decide_eq_true_eq] at h
  obtain ⟨⟨h1, h2⟩, h3⟩ := h
  have h4 := (okNs_iff.1 h1).1
  refine ⟨fun p hp => ?_, ?_, fun n hn => ?_, ?_, ?_⟩
  · obtain ⟨n, hn, rfl⟩ := List.mem_map.1 hp
    simp [okPair, mkN, h4 n hn, okVal, inR]
  · rw [flatX_names]; exact okNs_nodup h1
  · have := (List.mem_replicate.1 hn).2
    subst this
    simp [okVal, inR]
  · rw [flatX_places]; simp [inR] at h2; omega
  · simpa [flatX] using h3

theorem sortS_sorted {xs : List Str} (h : xs.Nodup) : (sortS xs).Pairwise (fun a b => ltS a b = true) := by
  have := sortL_sorted (xs := xs.map mkN) (by rw [names_mk]; exact h)
  rw [← sortS_map] at this
  unfold Sorted at this
  rw [List.pairwise_map] at this
  exact this

theorem OkS.okName {s : Sig} (h : OkS s) {p : Param} (hp : p ∈ s) : okName p.name = true := by
  have := h.params p hp
  simp only [okQ, Bool.and_eq_true] at this
  exact this.1.1.1.1

theorem needNs_nodup {s : Sig} (hs : OkS s) (n : Nat) : (needNs s n).Nodup := hs.nodup.sublist (needNs_sub s n)

theorem needs_okX {s : Sig} (hs : OkS s) {n : Nat} (hn : n ≤ 8) : okX ⟨n, sortS (needNs s n)⟩ = true := by
  have hl := needNs_len s n
  have hsl := hs.len
  simp only [okX, Bool.and_eq_true, decide_eq_true_eq]
  refine ⟨⟨okNs_iff.2 ⟨fun m hm => ?_, sortS_sorted (needNs_nodup hs n)⟩, by simp [inR]; omega⟩, by rw [sortS_length]; omega⟩
  obtain ⟨i, p, hp, _, _, rfl⟩ := need_mem.1 ((sortS_mem _ _).1 hm)
  exact hs.okName (List.mem_of_getElem? hp)

theorem bind_ok {s : Sig} {f : Flat} (hs : OkS s) (hf : OkF f) : (BindQ s f).2 = accQ s f := by
  unfold BindQ
  rw [fitQ_iff.2 ⟨hs, hf⟩]
  simp only [Bool.true_and]
  split
  · rename_i h; exact h.symm
  · rename_i h; simpa using h

/-- A shape is accepted. -/
def accX (s : Sig) (x : Shp) : Bool := okX x && (BindQ s (flatX x)).2

theorem accX_iff {s : Sig} {x : Shp} (hs : OkS s) (hx : okX x = true) : accX s x = true ↔
    takesC s x.count.toNat = true ∧ (∀ m ∈ needNs s x.count.toNat, m ∈ x.names) ∧ ∀ m ∈ x.names, allowQ s x.count.toNat m := by
  unfold accX
  rw [hx, Bool.true_and, bind_ok hs (okX_flat hx), acc_law hs (okX_flat hx), flatX_places, flatX_names]

theorem needs_acc {s : Sig} (hs : OkS s) {n : Nat} (hn : n ≤ 8) (ht : takesC s n = true) : accX s ⟨n, sortS (needNs s n)⟩ = true := by
  rw [accX_iff hs (needs_okX hs hn)]
  simp only [Int.toNat_natCast]
  exact ⟨ht, fun m hm => (sortS_mem _ _).2 hm, fun m hm => need_allow hs ((sortS_mem _ _).1 hm)⟩

def hd0 (xs : List Int) : Int := xs.headD 0

structure LenX (x : Shp) : Prop where
  len : x.names.length ≤ 1048576
  names : ∀ n ∈ x.names, n.length ≤ 9223372036854775807

theorem stepN_all {xs : List Str} {i : Nat} {n : Str} (hn : xs[i]? = some n) (hall : ∀ j, j < i → stepN xs j = true) (h : stepN xs i = true) : ∀ j, j < i + 1 → stepN xs j = true := fun j hj => by
  by_cases hji : j = i
  · subst hji; exact h
  · exact hall j (by omega)

theorem okX_no {x : Shp} {i : Nat} (hi : i < x.names.length) (h : stepN x.names i = false) : okX x = false := by
  have : okNs x.names = false := by
    cases ho : okNs x.names with
    | false => rfl
    | true => rw [okNs_all.1 ho i hi] at h; cases h
  simp [okX, this]

theorem ivalidShape_ct (x : Shp) (hx : LenX x) : ACalls pk 69 [.agg (eX x)] [] (fun r o => r = .one (.bool (okX x)) ∧ o = []) := by
  have hl := hx.len
  refine acalls_of_body Try.func69 rfl (by kernel_rfl) rfl ?_
  refine rn rfl ?_
  refine goal_loop_keep (fun m σ => ∃ (q L : Int) (i : Nat), q = i ∧ L = x.names.length ∧ i ≤ x.names.length ∧ m = x.names.length - i ∧ (∀ j, j < i → stepN x.names j = true) ∧
      σ = ⟨[(8, .one (.int .i64 q)), (7, .one (.int .i64 L)), (6, .one (.fs (x.names.map eS))), (1, .one (.op 0 0 0))], [some ⟨2, [eX x], false, false, true⟩], []⟩) x.names.length [8, 7, 6, 1] [0] rfl
    ⟨_, _, 0, rfl, by simp, by omega, by omega, fun j hj => by omega, rfl⟩ ?_
  rintro m σ ⟨q, L, i, rfl, rfl, hi, rfl, hall, rfl⟩
  refine rn rfl ?_
  refine goal_cond rfl (fun h => ?_) (fun h => ?_) <;> (try simp only [gt_iff_lt, ge_iff_le, bne_iff_ne, ne_eq, bne_eq_false_iff_eq, beq_iff_eq, beq_eq_false_iff_ne, Bool.not_eq_true', Bool.not_eq_false', decide_eq_true_eq, decide_eq_false_iff_not, List.length_map] at h)
  · obtain ⟨n, hn⟩ := at_some (xs := x.names) (i := i) (by omega)
    refine rn rfl ?_
    refine goal_did rfl rfl (dA_index (eS n) rfl rfl rfl rfl rfl rfl rfl (by omega) (by (try simp); omega) (map_at (by simpa using hn)) rfl) ?_
    refine rn rfl ?_
    refine goal_step (step_call [] rfl rfl rfl rfl rfl rfl (isName_ct n (hx.names n (List.mem_of_getElem? hn)))) ?_
    rintro σ2 ⟨r, o', ⟨rfl, rfl⟩, hσ⟩
    obtain rfl := Option.some.inj hσ
    clear hσ
    refine rn rfl ?_
    refine goal_guard rfl rfl rfl (fun h1 => ?_) (fun h1 => ?_) <;> (try simp only [gt_iff_lt, ge_iff_le, bne_iff_ne, ne_eq, bne_eq_false_iff_eq, beq_iff_eq, beq_eq_false_iff_ne, Bool.not_eq_true', Bool.not_eq_false', decide_eq_true_eq, decide_eq_false_iff_not, List.length_map] at h1)
    · refine rn rfl (round_ret (fin_is [] rfl ⟨?_, rfl⟩))
      rw [okX_no (lt_of_some hn)]
      simp [stepN, hn, h1]
    · refine rn rfl ?_
      refine goal_guard rfl rfl rfl (fun h2 => ?_) (fun h2 => ?_) <;> (try simp only [gt_iff_lt, ge_iff_le, bne_iff_ne, ne_eq, bne_eq_false_iff_eq, beq_iff_eq, beq_eq_false_iff_ne, Bool.not_eq_true', Bool.not_eq_false', decide_eq_true_eq, decide_eq_false_iff_not, List.length_map] at h2)
      · obtain ⟨k, rfl⟩ : ∃ k, i = k + 1 := ⟨i - 1, by omega⟩
        obtain ⟨l, hl'⟩ := at_some (xs := x.names) (i := k) (by omega)
        have hw : IntKind.i64.wrap (((k + 1 : Nat) : Int) - 1) = (k : Int) := by rw [wrap64 (by omega) (by omega)]; omega
        refine rn rfl ?_
        rw [hw]
        refine goal_did rfl rfl (dA_index (eS l) rfl rfl rfl rfl rfl rfl rfl (by omega) (by (try simp); omega) (map_at (by simpa using hl')) rfl) ?_
        refine rn rfl ?_
        refine goal_cond rfl (fun h3 => ?_) (fun h3 => ?_)
        · refine rn rfl (round_ret (fin_is [] rfl ⟨?_, rfl⟩))
          have h3' : ltS l n = false := by simpa [ltS] using h3
          rw [okX_no (lt_of_some hn)]
          simp [stepN, hn, hl', h3']
        · have h3' : ltS l n = true := by simpa [ltS] using h3
          refine rn rfl ?_
          refine round_keep (x.names.length - (k + 1 + 1)) [8, 7, 6, 1] [0] (by omega) rfl ⟨_, _, k + 1 + 1, wrap64 (by omega) (by omega), rfl, by omega, rfl, stepN_all hn hall (by simp [stepN, hn, hl', h1, h3']), rfl⟩
      · refine rn rfl ?_
        refine round_keep (x.names.length - (i + 1)) [8, 7, 6, 1] [0] (by omega) rfl ⟨_, _, i + 1, wrap64 (by omega) (by omega), rfl, by omega, rfl, stepN_all hn hall ?_, rfl⟩
        have : i = 0 := by omega
        subst this
        simp [stepN, hn, h1]
  · refine rn rfl (round_ext ?_)
    have hok : okNs x.names = true := okNs_all.2 fun j hj => hall j (by omega)
    refine rn rfl ?_
    refine goal_step (step_call [] rfl rfl rfl rfl rfl rfl (iin_ct x.count 0 8)) ?_
    rintro σ2 ⟨r, o', ⟨rfl, rfl⟩, hσ⟩
    obtain rfl := Option.some.inj hσ
    clear hσ
    refine rn rfl ?_
    refine goal_guard rfl rfl rfl (fun h1 => ?_) (fun h1 => ?_) <;> (try simp only [gt_iff_lt, ge_iff_le, bne_iff_ne, ne_eq, bne_eq_false_iff_eq, beq_iff_eq, beq_eq_false_iff_ne, Bool.not_eq_true', Bool.not_eq_false', decide_eq_true_eq, decide_eq_false_iff_not, List.length_map] at h1)
    · refine rn rfl (fin_is [] rfl ⟨?_, rfl⟩)
      simp [okX, hok, h1]; omega
    · refine rn rfl (fin_is [] rfl ⟨?_, rfl⟩)
      simp [okX, hok, h1]

def flatXF (x : Shp) : Flat := if okX x then flatX x else zF

theorem iflatOf_ct (x : Shp) (hx : LenX x) : ACalls pk 37 [.agg (eX x)] [] (fun r o => r = .agg (eF (flatXF x)) ∧ o = []) := by
  refine acalls_of_body Try.func37 rfl (by kernel_rfl) rfl ?_
  refine rn rfl ?_
  refine goal_step (step_call [] rfl rfl rfl rfl rfl rfl (ivalidShape_ct x hx)) ?_
  rintro σ2 ⟨r, o', ⟨rfl, rfl⟩, hσ⟩
  obtain rfl := Option.some.inj hσ
  clear hσ
  refine rn rfl ?_
  refine goal_cond rfl (fun h => ?_) (fun h => ?_) <;> (try simp only [gt_iff_lt, ge_iff_le, bne_iff_ne, ne_eq, bne_eq_false_iff_eq, beq_iff_eq, beq_eq_false_iff_ne, Bool.not_eq_true', Bool.not_eq_false', decide_eq_true_eq, decide_eq_false_iff_not, List.length_map] at h)
  · refine rn rfl (fin_is [] rfl ⟨?_, rfl⟩)
    simp [flatXF, h]; rfl
  have hc := h
  simp only [okX, Bool.and_eq_true, decide_eq_true_eq, inR] at hc
  obtain ⟨n, hn⟩ : ∃ n : Nat, x.count = n := ⟨x.count.toNat, by omega⟩
  have hl := hc.2
  have hF : flatXF x = ⟨List.replicate n 0, x.names.map mkN⟩ := by simp [flatXF, h, flatX, hn]
  rw [hF]
  obtain ⟨c, names⟩ := x
  simp only at hn hl hc
  subst hn
  refine rn rfl ?_
  refine goal_did rfl rfl (dA_make n ((List.replicate n (0 : Int)).map eI) rfl rfl rfl (by simp) (by simp) rfl rfl rfl rfl rfl (by show 8 * n ≤ _; omega) (by omega) (by rw [← rep_map]; rfl)) ?_
  refine rn rfl ?_
  refine goal_weakCod (Weak.adoptO 3 1 2) ?_
  refine goal_loop_keep (fun m σ => ∃ (q L : Int) (i l : Nat) (acc : List Pair), q = i ∧ L = names.length ∧ i ≤ names.length ∧ m = names.length - i ∧ l = acc.length ∧ acc = (names.take i).map mkN ∧
      σ = ⟨[(17, .one (.int .i64 q)), (16, .one (.int .i64 L)), (15, .one (.fs (names.map eS))), (3, .one (.op 2 0 0)), (2, .one (.op 0 0 0))],
        [some ⟨2, [[.fs [], .fs []]], false, false, true⟩, ownI (List.replicate n 0), some ⟨2, [[.os 1 0 n n, .os 3 0 l l]], false, false, true⟩, ownP acc], []⟩) names.length [17, 16, 15, 3, 2] [1, 2, 3, 4] rfl
    ⟨_, _, 0, 0, [], rfl, by simp, by omega, by omega, rfl, rfl, rfl⟩ ?_
  rintro m σ ⟨q, L, i, l, acc, rfl, rfl, hi, rfl, rfl, hacc, rfl⟩
  refine rn rfl ?_
  refine goal_cond rfl (fun h2 => ?_) (fun h2 => ?_) <;> (try simp only [gt_iff_lt, ge_iff_le, bne_iff_ne, ne_eq, bne_eq_false_iff_eq, beq_iff_eq, beq_eq_false_iff_ne, Bool.not_eq_true', Bool.not_eq_false', decide_eq_true_eq, decide_eq_false_iff_not, List.length_map] at h2)
  · obtain ⟨nm, hnm⟩ := at_some (xs := names) (i := i) (by omega)
    have hlen : acc.length = i := by rw [hacc]; simp; omega
    refine rn rfl ?_
    refine goal_did rfl rfl (dA_index (eS nm) rfl rfl rfl rfl rfl rfl rfl (by omega) (by (try simp); omega) (map_at (by simpa using hnm)) rfl) ?_
    refine rn rfl ?_
    refine goal_did rfl rfl (dA_append (old := (acc).map eP) (rows := ([mkN nm] : List Pair).map eP) (((acc) ++ ([mkN nm] : List Pair)).map eP) (acc.length + 1) true (Dst.own rfl rfl rfl rfl rfl (by first | (simp; done) | (simp; omega)) (whole (by first | (simp; done) | (simp; omega)))) (Src.os rfl rfl (Nat.le_refl 1) rfl) rfl rfl rfl rfl rfl rfl rfl rfl (rows_len eP_len _) (rows_len eP_len _) (by (try simp only [List.length_map, List.length_append, List.length_cons, List.length_nil, List.length_take, List.length_drop]); show _ * 24 ≤ _; omega) (by first | (simp; done) | (simp; omega)) (by simp) (by first | (simp; done) | (simp; omega)) (fun _ => noOwnR_map _ eP_noOwn _)) ?_
    refine rn rfl ?_
    refine round_keep (names.length - (i + 1)) [17, 16, 15, 3, 2] [0, 1, 2, 5] (by omega) rfl ⟨_, _, i + 1, acc.length + 1, acc ++ [mkN nm], wrap64 (by omega) (by omega), rfl, by omega, rfl, by simp, by rw [hacc, ← take_snoc hnm]; simp, rfl⟩
  · refine rn rfl (round_ext ?_)
    have hfin : acc = names.map mkN := by rw [hacc, List.take_of_length_le (by omega)]
    rw [← hfin]
    refine rn rfl ?_
    have hA : T.agg [.fs (List.take n (List.drop 0 ((List.replicate n (0 : Int)).map eI))), .fs (List.take acc.length (List.drop 0 (acc.map eP)))] = T.agg (eF ⟨List.replicate n 0, acc⟩) := by rw [takeAll eI _ _ (by simp), takeAll eP _ _ rfl]; rfl
    refine goal_step (step_callE [] rfl rfl rfl rfl rfl rfl (cons_eq hA rfl) (copyOf_ct ⟨List.replicate n 0, acc⟩ (by simp; omega) (by simp [hfin]; omega))) ?_
    rintro σ2 ⟨r, o', ⟨rfl, rfl⟩, hσ⟩
    obtain rfl := Option.some.inj hσ
    clear hσ
    refine rn rfl ?_
    refine rn rfl (fin_is [] rfl ⟨?_, rfl⟩)
    exact asFl _

theorem needsF_snd (s : Sig) (n : Int) : (NeedsF s n).2 = goodC s n := by
  unfold NeedsF; split
  · rename_i h; exact h.symm
  · rename_i h; simpa using h

section

variable {X : Pk} {N np : Nat} {K : KP} {σ : State}

/-- A truth value is decided: both ways. -/
theorem goal_dec {ops : Array Oper} {is : List Nat} {k : List It} {b : Bool} (t : Nat) (hv : getρ σ.ρ t = .one (.bool b)) (h1 : b = true → goal X N np K (.ops ops is k) (decS t true σ)) (h2 : b = false → goal X N np K (.ops ops is k) (decS t false σ)) : goal X N np K (.ops ops is k) σ := by
  intro G D e a w H
  have key : Rel N np G D e ⟨(t, .one (.bool b)) :: σ.ρ, σ.o, t :: σ.k⟩ a w := by
    refine ⟨H.hnp, H.nple, H.ext, H.defers, H.size, fun u => ?_, H.sr, H.new, H.old, H.keep⟩
    simp only [getρ]
    split
    · rename_i hb
      have := Nat.eq_of_beq_eq_true hb
      subst this
      rw [← hv]; exact H.tmps t
    · exact H.tmps u
  cases b with
  | true => exact h1 rfl G D e a w key
  | false => exact h2 rfl G D e a w key

end

theorem SmallS.lens {s : Sig} (h : SmallS s) : LenS s := ⟨by have := h.len; omega, fun p hp => by have := h.names p hp; omega⟩

theorem itakesN_ct (s : Sig) (n : Int) (hl : LenS s) : ACalls pk 27 [.agg (eG s), .one (.int .i64 n)] [] (fun r o => r = .one (.bool (goodC s n)) ∧ o = []) := by
  refine acalls_of_body Try.func27 rfl (by kernel_rfl) rfl ?_
  refine rn rfl ?_
  refine goal_step (step_call [] rfl rfl rfl rfl rfl rfl (ineedsAtD_ct s n hl)) ?_
  rintro σ2 ⟨r, o', ⟨rfl, rfl⟩, hσ⟩
  obtain rfl := Option.some.inj hσ
  clear hσ
  refine rn rfl ?_
  refine rn rfl (fin_is [] rfl ⟨?_, rfl⟩)
  rw [needsF_snd]

theorem stakesN_ct (s : Sig) (n : Int) (hl : LenS s) : ACalls pk 28 [.agg (eG s), .one (.int .i64 n)] [] (fun r o => r = .one (.bool (goodC s n)) ∧ o = []) := by
  refine acalls_of_body Try.func28 rfl (by kernel_rfl) rfl ?_
  refine rn rfl ?_
  refine goal_step (step_call [] rfl rfl rfl rfl rfl rfl (goodCount_ct s n hl)) ?_
  rintro σ2 ⟨r, o', ⟨rfl, rfl⟩, hσ⟩
  obtain rfl := Option.some.inj hσ
  clear hσ
  refine rn rfl ?_
  exact rn rfl (fin_is [] rfl ⟨rfl, rfl⟩)

theorem flatXF_len {x : Shp} (hx : LenX x) : LenF (flatXF x) := by
  unfold flatXF
  split
  · rename_i h
    have := okX_flat h
    exact ⟨by have := this.places; omega, by have := this.named; omega, fun p hp => by
      obtain ⟨n, hn, rfl⟩ := List.mem_map.1 hp
      exact hx.names n hn⟩
  · exact ⟨by simp [zF], by simp [zF], by simp [zF]⟩

theorem iacceptsShape_ct (s : Sig) (x : Shp) (hl : LenS s) (hx : LenX x) : ACalls pk 30 [.agg (eG s), .agg (eX x)] [] (fun r o => r = .one (.bool (accX s x)) ∧ o = []) := by
  have lf := flatXF_len hx
  have hfx : okX x = true → flatXF x = flatX x := fun h => by simp [flatXF, h]
  refine acalls_of_body Try.func30 rfl (by kernel_rfl) rfl ?_
  refine rn rfl ?_
  refine goal_draw' [0, 1] 9 rfl ?_
  refine drn [0] (by kernel_rfl) (by kernel_rfl) rfl rfl ?_
  refine AH_one (i := 1) (by kernel_rfl) (step_call [] rfl rfl rfl rfl rfl rfl (ivalidShape_ct x hx)) (by simp) ?_
  rintro σ2 ⟨r, o', ⟨rfl, rfl⟩, hσ⟩
  obtain rfl := Option.some.inj hσ
  clear hσ
  refine drn [2] (by kernel_rfl) (by kernel_rfl) rfl rfl ?_
  refine AH_guard (i := 3) rfl rfl rfl (fun h1 => ?_) (fun h1 => ?_) <;> (try simp only [gt_iff_lt, ge_iff_le, bne_iff_ne, ne_eq, bne_eq_false_iff_eq, beq_iff_eq, beq_eq_false_iff_ne, Bool.not_eq_true', Bool.not_eq_false', decide_eq_true_eq, decide_eq_false_iff_not, List.length_map] at h1)
  · refine drn [3, 4] (by kernel_rfl) (by kernel_rfl) rfl rfl ?_
    refine AH_one (i := 5) (by kernel_rfl) (step_call [] rfl rfl rfl rfl rfl rfl (iflatOf_ct x hx)) (by simp) ?_
    rintro σ2 ⟨r, o', ⟨rfl, rfl⟩, hσ⟩
    obtain rfl := Option.some.inj hσ
    clear hσ
    refine AH_one (i := 6) (by kernel_rfl) (step_call [] rfl rfl rfl rfl rfl rfl (iaccepts_ct s (flatXF x) hl lf)) (by simp) ?_
    rintro σ2 ⟨r, o', ⟨rfl, rfl⟩, hσ⟩
    obtain rfl := Option.some.inj hσ
    clear hσ
    refine drn [7, 8] (by kernel_rfl) (by kernel_rfl) rfl rfl ?_
    refine AH_end (by kernel_rfl) ?_
    refine rn rfl ?_
    refine rn rfl (fin_is [] rfl ⟨?_, rfl⟩)
    rw [hfx h1]; simp [accX, h1]
  · refine drn [3, 4, 5, 6, 7, 8] (by kernel_rfl) (by kernel_rfl) rfl rfl ?_
    refine AH_end (by kernel_rfl) ?_
    refine rn rfl ?_
    refine rn rfl (fin_is [] rfl ⟨?_, rfl⟩)
    simp [accX, h1]

theorem drawTakesCount_ct (bs : Str) : ACalls pk 26 [.one (.fs (bs.map rowB))] [] (fun r o => ∃ s n, SmallS s ∧ -1 ≤ n ∧ n ≤ 9 ∧ r = .tup [.agg (eG s), .one (.int .i64 n)] ∧ o = []) := by
  have hb : (bs.take 2000).length ≤ 2000 := by simp; omega
  refine acalls_of_body Try.func26 rfl (by kernel_rfl) rfl ?_
  refine rn rfl ?_
  refine goal_step (step_call [] rfl rfl rfl rfl rfl rfl (newReader_ct bs)) ?_
  rintro σ2 ⟨r, o', ⟨rfl, rfl⟩, hσ⟩
  obtain rfl := Option.some.inj hσ
  clear hσ
  refine rn rfl ?_
  refine goal_step (step_callE [1] rfl rfl rfl rfl rfl rfl rfl (someSignature_ct (bs.take 2000) 0 hb (by omega) (by omega))) ?_
  rintro σ2 ⟨r, o', ⟨s, k1, hs, hk1, hk2, rfl, rfl⟩, hσ⟩
  obtain rfl := Option.some.inj hσ
  clear hσ
  refine rn rfl ?_
  refine goal_step (step_callE [1] rfl rfl rfl rfl rfl rfl (rfl) (one_ct (bs.take 2000) k1 [0, 1, 2, 3, 4, 8, 9, -1] hb (by omega) (by omega) (by decide) (by decide))) ?_
  rintro σ2 ⟨r, o', ⟨⟨v, hv, rfl⟩, rfl⟩, hσ⟩
  obtain rfl := Option.some.inj hσ
  clear hσ
  refine rn rfl ?_
  have hv' : -1 ≤ v ∧ v ≤ 9 := by
    simp only [List.mem_cons, List.not_mem_nil, or_false] at hv
    omega
  exact rn rfl (fin_is [] rfl ⟨s, v, hs, hv'.1, hv'.2, rfl, rfl⟩)

theorem needs_lenX {s : Sig} (hs : OkS s) (n : Nat) (c : Int) : LenX ⟨c, sortS (needNs s n)⟩ := by
  have h2 := needNs_len s n
  have := hs.len
  refine ⟨by simp only [sortS_length]; omega, fun m hm => ?_⟩
  obtain ⟨i, p, hp, _, _, rfl⟩ := need_mem.1 ((sortS_mem _ _).1 hm)
  have := hs.nameLen (List.mem_of_getElem? hp)
  omega

theorem goodC_ok {s : Sig} {n : Int} (h : goodC s n = true) : OkS s ∧ ∃ k : Nat, n = k ∧ k ≤ 8 ∧ takesC s k = true ∧ NeedsF s n = (sortS (needNs s k), true) := by
  have hh := h
  simp only [goodC, Bool.and_eq_true] at h
  have hr : 0 ≤ n ∧ n ≤ 8 := by have := h.1.2; simp [inR] at this; omega
  refine ⟨okSig_iff.1 h.1.1, n.toNat, by omega, by omega, h.2, by unfold NeedsF; rw [if_pos hh]⟩

theorem fnTakesCount_ct (bs : Str) (hl : bs.length ≤ 9223372036854775807) : ACalls pk 5 [.one (.fs (bs.map rowB))] [] (fun r o => r = .one (.bool true) ∧ o = []) := by
  refine acalls_of_body Try.func5 rfl (by kernel_rfl) rfl ?_
  refine rn rfl ?_
  refine goal_cond rfl (fun h => ?_) (fun h => ?_) <;> (try simp only [gt_iff_lt, ge_iff_le, bne_iff_ne, ne_eq, bne_eq_false_iff_eq, beq_iff_eq, beq_eq_false_iff_ne, Bool.not_eq_true', Bool.not_eq_false', decide_eq_true_eq, decide_eq_false_iff_not, List.length_map] at h)
  · exact rn rfl (fin_is [] rfl ⟨rfl, rfl⟩)
  · refine rn rfl ?_
    refine goal_step (step_call [] rfl rfl rfl rfl rfl rfl (drawTakesCount_ct bs)) ?_
    rintro σ2 ⟨r, o', ⟨s, n, hs, hn1, hn2, rfl, rfl⟩, hσ⟩
    obtain rfl := Option.some.inj hσ
    clear hσ
    have ls := hs.lens
    have hT := itakesN_ct s n ls
    have hS := stakesN_ct s n ls
    have hD := ineedsAtD_ct s n ls
    rw [needsF_snd] at hD
    cases hg : goodC s n with
    | false =>
      rw [hg] at hT hS hD
      refine rn rfl ?_
      refine goal_step (step_call [] rfl rfl rfl rfl rfl rfl (hT)) ?_
      rintro σ2 ⟨r, o', ⟨rfl, rfl⟩, hσ⟩
      obtain rfl := Option.some.inj hσ
      clear hσ
      refine rn rfl ?_
      refine goal_step (step_call [] rfl rfl rfl rfl rfl rfl (hS)) ?_
      rintro σ2 ⟨r, o', ⟨rfl, rfl⟩, hσ⟩
      obtain rfl := Option.some.inj hσ
      clear hσ
      refine rn rfl ?_
      refine goal_dec 24 rfl (fun h2 => by cases h2) (fun _ => ?_)
      refine rn rfl ?_
      refine goal_step (step_call [] rfl rfl rfl rfl rfl rfl (hD)) ?_
      rintro σ2 ⟨r, o', ⟨rfl, rfl⟩, hσ⟩
      obtain rfl := Option.some.inj hσ
      clear hσ
      refine rn rfl ?_
      refine goal_guard rfl rfl rfl (fun _ => ?_) (fun h2 => by cases h2)
      refine rn rfl ?_
      refine goal_guard rfl rfl rfl (fun _ => ?_) (fun h2 => by cases h2)
      exact rn rfl (fin_is [] rfl ⟨rfl, rfl⟩)
    | true =>
      obtain ⟨hok, k, rfl, hk, ht, hne⟩ := goodC_ok hg
      rw [hg] at hT hS hD
      rw [hne] at hD
      refine rn rfl ?_
      refine goal_step (step_call [] rfl rfl rfl rfl rfl rfl (hT)) ?_
      rintro σ2 ⟨r, o', ⟨rfl, rfl⟩, hσ⟩
      obtain rfl := Option.some.inj hσ
      clear hσ
      refine rn rfl ?_
      refine goal_step (step_call [] rfl rfl rfl rfl rfl rfl (hS)) ?_
      rintro σ2 ⟨r, o', ⟨rfl, rfl⟩, hσ⟩
      obtain rfl := Option.some.inj hσ
      clear hσ
      refine rn rfl ?_
      refine goal_dec 24 rfl (fun h2 => by cases h2) (fun _ => ?_)
      refine rn rfl ?_
      refine goal_step (step_call [] rfl rfl rfl rfl rfl rfl (hD)) ?_
      rintro σ2 ⟨r, o', ⟨rfl, rfl⟩, hσ⟩
      obtain rfl := Option.some.inj hσ
      clear hσ
      refine rn rfl ?_
      refine goal_guard rfl rfl rfl (fun _ => ?_) (fun h2 => by cases h2)
      refine rn rfl ?_
      refine goal_guard rfl rfl rfl (fun h2 => by cases h2) (fun _ => ?_)
      refine rn rfl ?_
      refine goal_step (step_call [] rfl rfl rfl rfl rfl rfl (iacceptsShape_ct s ⟨k, sortS (needNs s k)⟩ ls (needs_lenX hok k k))) ?_
      rintro σ2 ⟨r, o', ⟨rfl, rfl⟩, hσ⟩
      obtain rfl := Option.some.inj hσ
      clear hσ
      refine rn rfl ?_
      rw [needs_acc hok hk ht]
      exact rn rfl (fin_is [] rfl ⟨rfl, rfl⟩)

end Go.Proofs.Ytekdhmddibfidaa
