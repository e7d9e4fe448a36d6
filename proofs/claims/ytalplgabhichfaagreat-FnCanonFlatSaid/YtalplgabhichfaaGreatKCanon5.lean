/- Part 5 of the proof: an abstract machine over the model; contracts of the functions that the law reaches. -/
import Derived.Test.YtalplgabhichfaaGreatKCanon4
set_option linter.unusedVariables false
set_option linter.unusedSimpArgs false
namespace Go.Proofs.YtalplgabhichfaaGreat
open Go
set_option maxRecDepth 100000
set_option maxHeartbeats 1000000

def CanonF (s : Sig) (f : Flat) : Flat × Bool := if (BindQ s f).2 then (unbQ s (BindQ s f).1, true) else (zF, false)

theorem icanon_ct (s : Sig) (f : Flat) (hs : LenS s) (hf : LenF f) : ACalls pk 55 [.agg (eG s), .agg (eF f)] [] (fun r o => r = .tup [.agg (eF (CanonF s f).1), .one (.bool (CanonF s f).2)] ∧ o = []) := by
  refine acalls_of_body Tryz.func55 rfl (by kernel_rfl) rfl ?_
  refine rn rfl ?_
  refine goal_step (step_call [] rfl rfl rfl rfl rfl rfl (iBindD_ct s f hs hf)) ?_
  rintro σ2 ⟨r, o', ⟨rfl, rfl⟩, hσ⟩
  obtain rfl := Option.some.inj hσ
  clear hσ
  refine rn rfl ?_
  refine goal_cond rfl (fun h => ?_) (fun h => ?_) <;> (try simp only [gt_iff_lt, ge_iff_le, bne_iff_ne, ne_eq, bne_eq_false_iff_eq, beq_iff_eq, beq_eq_false_iff_ne, Bool.not_eq_true', Bool.not_eq_false', decide_eq_true_eq, decide_eq_false_iff_not, List.length_map] at h)
  · refine rn rfl (fin_is [] rfl ⟨?_, rfl⟩)
    simp [CanonF, h]; rfl
  · have hok : (BindQ s f).2 = true := h
    obtain ⟨o1, o2, _, heq⟩ := bindQ_ok hok
    have hB := bound_okB o1 o2
    have hc : CanonF s f = (unbQ s (boundQ s f).1, true) := by simp [CanonF, heq]
    rw [hc, heq]
    refine rn rfl ?_
    refine goal_step (step_call [] rfl rfl rfl rfl rfl rfl (iunbindD_ct s (boundQ s f).1 hB)) ?_
    rintro σ2 ⟨r, o', ⟨rfl, rfl⟩, hσ⟩
    obtain rfl := Option.some.inj hσ
    clear hσ
    refine rn rfl ?_
    exact rn rfl (fin_is [] rfl ⟨rfl, rfl⟩)

theorem scanon_ct (s : Sig) (f : Flat) (hs : LenS s) (hf : LenF f) : ACalls pk 56 [.agg (eG s), .agg (eF f)] [] (fun r o => r = .tup [.agg (eF (CanonF s f).1), .one (.bool (CanonF s f).2)] ∧ o = []) := by
  refine acalls_of_body Tryz.func56 rfl (by kernel_rfl) rfl ?_
  refine rn rfl ?_
  refine goal_step (step_call [] rfl rfl rfl rfl rfl rfl (sBind_ct s f hs hf)) ?_
  rintro σ2 ⟨r, o', ⟨rfl, rfl⟩, hσ⟩
  obtain rfl := Option.some.inj hσ
  clear hσ
  refine rn rfl ?_
  refine goal_cond rfl (fun h => ?_) (fun h => ?_) <;> (try simp only [gt_iff_lt, ge_iff_le, bne_iff_ne, ne_eq, bne_eq_false_iff_eq, beq_iff_eq, beq_eq_false_iff_ne, Bool.not_eq_true', Bool.not_eq_false', decide_eq_true_eq, decide_eq_false_iff_not, List.length_map] at h)
  · refine rn rfl (fin_is [] rfl ⟨?_, rfl⟩)
    simp [CanonF, h]; rfl
  · have hok : (BindQ s f).2 = true := h
    obtain ⟨o1, o2, _, heq⟩ := bindQ_ok hok
    have hB := bound_okB o1 o2
    have hc : CanonF s f = (unbQ s (boundQ s f).1, true) := by simp [CanonF, heq]
    rw [hc, heq]
    refine rn rfl ?_
    refine goal_step (step_call [] rfl rfl rfl rfl rfl rfl (sunbound_ct s (boundQ s f).1 hB)) ?_
    rintro σ2 ⟨r, o', ⟨rfl, rfl⟩, hσ⟩
    obtain rfl := Option.some.inj hσ
    clear hσ
    refine rn rfl ?_
    exact rn rfl (fin_is [] rfl ⟨rfl, rfl⟩)

theorem Given.canon {s : Sig} {f : Flat} {b : Bnds} (h : Given s f b) : CanonF s f = (unbQ s b, true) := by
  unfold CanonF
  rw [h.bind]; rfl

theorem canon_ok {s : Sig} {f : Flat} (h : (CanonF s f).2 = true) : Given s f (BindQ s f).1 := by
  unfold CanonF at h
  split at h
  · rename_i h1; exact given_of h1
  · cases h

theorem canon_len (s : Sig) (f : Flat) : LenF (CanonF s f).1 := by
  unfold CanonF
  split
  · rename_i h
    exact (given_of h).again.flat.len
  · exact ⟨by simp [zF], by simp [zF], by simp [zF]⟩

theorem drawCanon_ct (bs : Str) : ACalls pk 54 [.one (.fs (bs.map rowB))] [] (fun r o => ∃ s f, SmallS s ∧ MidF f 24 9 ∧ r = .tup [.agg (eG s), .agg (eF f)] ∧ o = []) := by
  have hb : (bs.take 2000).length ≤ 2000 := by simp; omega
  refine acalls_of_body Tryz.func54 rfl (by kernel_rfl) rfl ?_
  refine rn rfl ?_
  refine goal_step (step_call [] rfl rfl rfl rfl rfl rfl (newReader_ct bs)) ?_
  rintro σ2 ⟨r, o', ⟨rfl, rfl⟩, hσ⟩
  obtain rfl := Option.some.inj hσ
  clear hσ
  refine rn rfl ?_
  refine goal_step (step_callE [2] rfl rfl rfl rfl rfl rfl rfl (signatureCall_ct (bs.take 2000) 0 hb (by omega) (by omega))) ?_
  rintro σ2 ⟨r, o', ⟨s, f, k1, hs, hf, hk1, hk2, rfl, rfl⟩, hσ⟩
  obtain rfl := Option.some.inj hσ
  clear hσ
  exact rn rfl (fin_is [] rfl ⟨s, f, hs, hf, rfl, rfl⟩)

theorem equalFlatSelf_ct (f : Flat) (hf : LenF f) : ACalls pk 57 [.agg (eF f), .agg (eF f)] [] (fun r o => r = .one (.bool true) ∧ o = []) := by
  have := equalFlat_ct f f (by have := hf.places; omega) (by have := hf.named; omega)
  simpa using this

theorem fnCanonFlat_ct (bs : Str) (hl : bs.length ≤ 9223372036854775807) : ACalls pk 10 [.one (.fs (bs.map rowB))] [] (fun r o => r = .one (.bool true) ∧ o = []) := by
  refine acalls_of_body Tryz.func10 rfl (by kernel_rfl) rfl ?_
  refine rn rfl ?_
  refine goal_cond rfl (fun h => ?_) (fun h => ?_) <;> (try simp only [gt_iff_lt, ge_iff_le, bne_iff_ne, ne_eq, bne_eq_false_iff_eq, beq_iff_eq, beq_eq_false_iff_ne, Bool.not_eq_true', Bool.not_eq_false', decide_eq_true_eq, decide_eq_false_iff_not, List.length_map] at h)
  · exact rn rfl (fin_is [] rfl ⟨rfl, rfl⟩)
  · refine rn rfl ?_
    refine goal_step (step_call [] rfl rfl rfl rfl rfl rfl (drawCanon_ct bs)) ?_
    rintro σ2 ⟨r, o', ⟨s, f, hs, hf, rfl, rfl⟩, hσ⟩
    obtain rfl := Option.some.inj hσ
    clear hσ
    have ls := hs.lens
    have lf := hf.lens
    have hf1 := hf.places
    have hf2 := hf.named
    have hI := icanon_ct s f ls lf
    have hS := scanon_ct s f ls lf
    have lU := canon_len s f
    have hEq := equalFlatSelf_ct (CanonF s f).1 lU
    refine rn rfl ?_
    refine goal_step (step_call [] rfl rfl rfl rfl rfl rfl (hI)) ?_
    rintro σ2 ⟨r, o', ⟨rfl, rfl⟩, hσ⟩
    obtain rfl := Option.some.inj hσ
    clear hσ
    refine rn rfl ?_
    refine rn rfl ?_
    refine goal_step (step_call [] rfl rfl rfl rfl rfl rfl (hS)) ?_
    rintro σ2 ⟨r, o', ⟨rfl, rfl⟩, hσ⟩
    obtain rfl := Option.some.inj hσ
    clear hσ
    refine rn rfl ?_
    refine rn rfl ?_
    refine goal_step (step_call [] rfl rfl rfl rfl rfl rfl (hEq)) ?_
    rintro σ2 ⟨r, o', ⟨rfl, rfl⟩, hσ⟩
    obtain rfl := Option.some.inj hσ
    clear hσ
    refine rn rfl ?_
    refine goal_guard rfl rfl rfl (fun h1 => by cases h1) (fun _ => ?_)
    refine rn rfl ?_
    refine goal_guard rfl rfl rfl (fun h2 => by simp at h2) (fun _ => ?_)
    refine rn rfl ?_
    refine goal_cond rfl (fun h3 => ?_) (fun h3 => ?_)
    · refine rn rfl ?_
      refine goal_step (step_call [] rfl rfl rfl rfl rfl rfl (hEq)) ?_
      rintro σ2 ⟨r, o', ⟨rfl, rfl⟩, hσ⟩
      obtain rfl := Option.some.inj hσ
      clear hσ
      refine rn rfl ?_
      refine goal_guard rfl rfl rfl (fun _ => ?_) (fun h4 => by cases h4)
      refine rn rfl (fin_is [] rfl ⟨?_, rfl⟩)
      simp
    · have hok : (CanonF s f).2 = true := by simpa using h3
      have G := canon_ok hok
      generalize (BindQ s f).1 = B at G
      have GU := G.again
      have hc := G.canon
      rw [hc] at hEq lU ⊢
      simp only at hEq lU
      have hcnt : (unbQ s B).places.length + (unbQ s B).named.length = f.places.length + f.named.length := by rw [← GU.count, ← G.count]
      have hmore := G.more
      have hI2 := icanon_ct s (unbQ s B) ls lU
      rw [GU.canon] at hI2
      have hN := inamedD_ctF s f ls lf
      have hNG := fun hok => G.ofNamed hok
      have lN : (NamF s f).2 = true → LenF (NamF s f).1 := fun h0 => (hNG h0).flat.len
      have hI3 := fun h0 => icanon_ct s (NamF s f).1 ls (lN h0)
      have hI3' : (NamF s f).2 = true → ACalls pk 55 [.agg (eG s), .agg (eF (NamF s f).1)] [] (fun r o => r = .tup [.agg (eF (unbQ s B)), .one (.bool true)] ∧ o = []) := fun h0 => by
        have := hI3 h0
        rw [(hNG h0).canon] at this
        exact this
      have hSame := sameFlat_ct (unbQ s B) (unbQ s B) (by have := lU.places; omega) (by have := lU.named; omega) lU.names (by have := lU.places; omega) (by have := lU.named; omega) lU.names
      have hsf : sameF (unbQ s B) (unbQ s B) = true := by simp [sameF, okFlat_iff.2 GU.flat]
      rw [hsf] at hSame
      have hSz := lawSize_ct f (by omega) (by omega)
      have hSzU := lawSize_ct (unbQ s B) (by have := lU.places; omega) (by have := lU.named; omega)
      rw [hcnt] at hSzU
      have hE := isameEffect_ct s f (unbQ s B) ls lf lU
      rw [G.effect GU] at hE
      clear hI3 hNG hsf
      generalize unbQ s B = U at *
      generalize (NamF s f).1 = M at *
      generalize (NamF s f).2 = good at *
      generalize f.places.length + f.named.length = n at *
      refine rn rfl ?_
      refine goal_step (step_call [] rfl rfl rfl rfl rfl rfl (hI2)) ?_
      rintro σ2 ⟨r, o', ⟨rfl, rfl⟩, hσ⟩
      obtain rfl := Option.some.inj hσ
      clear hσ
      refine rn rfl ?_
      refine rn rfl ?_
      refine goal_step (step_call [] rfl rfl rfl rfl rfl rfl (hN)) ?_
      rintro σ2 ⟨r, o', ⟨rfl, rfl⟩, hσ⟩
      obtain rfl := Option.some.inj hσ
      clear hσ
      refine rn rfl ?_
      refine rt 10 rfl ?_
      refine goal_cutR (fun σ' => σ' = ⟨[(10, .one (.bool true)), (9, .one (.op 3 0 0)), (5, .one (.op 2 0 0)), (4, .one (.op 1 0 0)), (3, .one (.op 0 0 0))],
        [some ⟨1, [eG s], false, false, true⟩, some ⟨2, [eF f], false, false, true⟩, some ⟨2, [eF U], false, false, true⟩, some ⟨2, [eF U], false, false, true⟩], []⟩) ?_ ?_
      · refine rn rfl ?_
        refine goal_cond rfl (fun h5 => ?_) (fun h5 => ?_)
        · refine rn rfl ?_
          refine goal_step (step_call [] rfl rfl rfl rfl rfl rfl (hI3' h5)) ?_
          rintro σ2 ⟨r, o', ⟨rfl, rfl⟩, hσ⟩
          obtain rfl := Option.some.inj hσ
          clear hσ
          refine rn rfl ?_
          refine goal_guard rfl rfl rfl (fun h6 => by cases h6) (fun _ => ?_)
          refine rn rfl ?_
          refine goal_step (step_call [] rfl rfl rfl rfl rfl rfl (hSame)) ?_
          rintro σ2 ⟨r, o', ⟨rfl, rfl⟩, hσ⟩
          obtain rfl := Option.some.inj hσ
          clear hσ
          refine rn rfl ?_
          refine goal_cond rfl (fun h6 => by cases h6) (fun _ => ?_)
          refine rn rfl ?_
          exact cut_nrm [10, 9, 5, 4, 3] [0, 1, 2, 4] rfl rfl
        · refine rn rfl ?_
          exact cut_nrm [10, 9, 5, 4, 3] [0, 1, 2, 4] rfl rfl
      rintro _ rfl
      refine rn rfl ?_
      refine goal_draw' [0, 1, 2, 3] 29 rfl ?_
      refine drn [0, 1] (by kernel_rfl) (by kernel_rfl) rfl rfl ?_
      refine AH_guard (i := 2) rfl rfl rfl (fun h1 => ?_) (fun h1 => ?_) <;> (try simp only [gt_iff_lt, ge_iff_le, bne_iff_ne, ne_eq, bne_eq_false_iff_eq, beq_iff_eq, beq_eq_false_iff_ne, Bool.not_eq_true', Bool.not_eq_false', decide_eq_true_eq, decide_eq_false_iff_not, List.length_map] at h1)
      · refine drn [2, 3] (by kernel_rfl) (by kernel_rfl) rfl rfl ?_
        refine AH_one (i := 4) (by kernel_rfl) (step_call [] rfl rfl rfl rfl rfl rfl (hEq)) (by simp) ?_
        rintro σ2 ⟨r, o', ⟨rfl, rfl⟩, hσ⟩
        obtain rfl := Option.some.inj hσ
        clear hσ
        refine drn [5, 6] (by kernel_rfl) (by kernel_rfl) rfl rfl ?_
        refine AH_guard (i := 7) rfl rfl rfl (fun h2 => ?_) (fun h2 => ?_) <;> (try simp only [gt_iff_lt, ge_iff_le, bne_iff_ne, ne_eq, bne_eq_false_iff_eq, beq_iff_eq, beq_eq_false_iff_ne, Bool.not_eq_true', Bool.not_eq_false', decide_eq_true_eq, decide_eq_false_iff_not, List.length_map] at h2)
        · refine drn [7, 9] (by kernel_rfl) (by kernel_rfl) rfl rfl ?_
          refine AH_one (i := 8) (by kernel_rfl) (step_call [] rfl rfl rfl rfl rfl rfl (hSzU)) (by simp) ?_
          rintro σ2 ⟨r, o', ⟨rfl, rfl⟩, hσ⟩
          obtain rfl := Option.some.inj hσ
          clear hσ
          refine AH_one (i := 10) (by kernel_rfl) (step_call [] rfl rfl rfl rfl rfl rfl (hSz)) (by simp) ?_
          rintro σ2 ⟨r, o', ⟨rfl, rfl⟩, hσ⟩
          obtain rfl := Option.some.inj hσ
          clear hσ
          refine drn [11, 12, 13] (by kernel_rfl) (by kernel_rfl) rfl rfl ?_
          refine AH_guard (i := 14) rfl rfl rfl (fun h3 => ?_) (fun h3 => ?_) <;> (try simp only [gt_iff_lt, ge_iff_le, bne_iff_ne, ne_eq, bne_eq_false_iff_eq, beq_iff_eq, beq_eq_false_iff_ne, Bool.not_eq_true', Bool.not_eq_false', decide_eq_true_eq, decide_eq_false_iff_not, List.length_map] at h3)
          · refine drn [14, 15, 16] (by kernel_rfl) (by kernel_rfl) rfl rfl ?_
            refine AH_one (i := 17) (by kernel_rfl) (step_call [] rfl rfl rfl rfl rfl rfl (hE)) (by simp) ?_
            rintro σ2 ⟨r, o', ⟨rfl, rfl⟩, hσ⟩
            obtain rfl := Option.some.inj hσ
            clear hσ
            refine drn [18, 19] (by kernel_rfl) (by kernel_rfl) rfl rfl ?_
            refine AH_guard (i := 20) rfl rfl rfl (fun h4 => ?_) (fun h4 => ?_) <;> (try simp only [gt_iff_lt, ge_iff_le, bne_iff_ne, ne_eq, bne_eq_false_iff_eq, beq_iff_eq, beq_eq_false_iff_ne, Bool.not_eq_true', Bool.not_eq_false', decide_eq_true_eq, decide_eq_false_iff_not, List.length_map] at h4)
            · refine drn [20, 21, 22, 23, 24, 25, 26, 27, 28] (by kernel_rfl) (by kernel_rfl) rfl rfl ?_
              refine AH_end (by kernel_rfl) ?_
              refine rn rfl ?_
              refine rn rfl (fin_is [] rfl ⟨?_, rfl⟩)
              simp; omega
            · exact absurd h4 (by simp)
          · exact absurd (by trivial) h3
        · exact absurd h2 (by simp)
      · exact absurd h1 (by simp)

end Go.Proofs.YtalplgabhichfaaGreat
