/- Part 5 of the proof: an abstract machine over the model; contracts of the functions that the law reaches. -/
import Derived.Test.YtdkfjnledldojaaGreatKNamed4
set_option linter.unusedVariables false
set_option linter.unusedSimpArgs false
namespace Go.Proofs.YtdkfjnledldojaaGreat
open Go
set_option maxRecDepth 100000
set_option maxHeartbeats 1000000

theorem named_ok {s : Sig} {f : Flat} (h : (NamF s f).2 = true) : Given s f (boundQ s f).1 := by
  unfold NamF at h
  split at h
  · rename_i h1
    simp only [Bool.and_eq_true] at h1
    obtain ⟨o1, o2⟩ := fitQ_iff.1 h1.1
    exact ⟨o1, o2, h1.2, rfl⟩
  · cases h

theorem named_def {s : Sig} {f : Flat} {b : List Slot} (G : Given s f b) : NamF s f = if 0 < (restB s b).length then (unbQ s b, true) else checkF (namQ s b) true := by
  unfold NamF
  rw [if_pos (by simp [fitQ_iff.2 ⟨G.sig, G.flat⟩, G.acc]), ← G.eq]

theorem named_again {s : Sig} {f : Flat} (h : (NamF s f).2 = true) : NamF s (NamF s f).1 = NamF s f := by
  have G := named_ok h
  rw [named_def (G.ofNamed h), ← named_def G]

theorem nam_lenF (s : Sig) (f : Flat) : LenF (NamF s f).1 := by
  cases h : (NamF s f).2 with
  | true => exact ((named_ok h).ofNamed h).flat.len
  | false =>
    have : (NamF s f).1 = zF := by
      unfold NamF at h ⊢
      split at h
      · rename_i h1
        rw [if_pos h1]
        split at h
        · cases h
        · rename_i h2
          rw [if_neg h2]
          unfold checkF at h ⊢
          split at h
          · cases h
          · rename_i h3; rw [if_neg h3]
      · rename_i h1; rw [if_neg h1]
    rw [this]
    exact ⟨by simp [zF], by simp [zF], by simp [zF]⟩

theorem drawNamed_ct (bs : Str) : ACalls pk 7 [.one (.fs (bs.map rowB))] [] (fun r o => ∃ s f, SmallS s ∧ MidF f 24 9 ∧ r = .tup [.agg (eG s), .agg (eF f)] ∧ o = []) := by
  have hb : (bs.take 2000).length ≤ 2000 := by simp; omega
  refine acalls_of_body Tryz.func7 rfl (by kernel_rfl) rfl ?_
  refine rn rfl ?_
  refine goal_step (step_call [] rfl rfl rfl rfl rfl rfl (newReader_ct bs)) ?_
  rintro σ2 ⟨r, o', ⟨rfl, rfl⟩, hσ⟩
  obtain rfl := Option.some.inj hσ
  clear hσ
  refine rn rfl ?_
  refine goal_step (step_callE [2] rfl rfl rfl rfl rfl rfl rfl (signatureCall_ct (bs.take 2000) 0 hb (by omega) (by omega))) ?_
  rintro σ2 ⟨r, o', ⟨s, f, k1, hs, hf, hk1, hk2, rfl, rfl⟩, hσ⟩
  obtain rfl := Option.some.inj hσ
  clear hσ
  exact rn rfl (fin_is [] rfl ⟨s, f, hs, hf, rfl, rfl⟩)

theorem fnNamedFlat_ct (bs : Str) (hl : bs.length ≤ 9223372036854775807) : ACalls pk 3 [.one (.fs (bs.map rowB))] [] (fun r o => r = .one (.bool true) ∧ o = []) := by
  refine acalls_of_body Tryz.func3 rfl (by kernel_rfl) rfl ?_
  refine rn rfl ?_
  refine goal_cond rfl (fun h => ?_) (fun h => ?_) <;> (try simp only [gt_iff_lt, ge_iff_le, bne_iff_ne, ne_eq, bne_eq_false_iff_eq, beq_iff_eq, beq_eq_false_iff_ne, Bool.not_eq_true', Bool.not_eq_false', decide_eq_true_eq, decide_eq_false_iff_not, List.length_map] at h)
  · exact rn rfl (fin_is [] rfl ⟨rfl, rfl⟩)
  · refine rn rfl ?_
    refine goal_step (step_call [] rfl rfl rfl rfl rfl rfl (drawNamed_ct bs)) ?_
    rintro σ2 ⟨r, o', ⟨s, f, hs, hf, rfl, rfl⟩, hσ⟩
    obtain rfl := Option.some.inj hσ
    clear hσ
    have ls := hs.lens
    have lf := hf.lens
    have hf1 := hf.places
    have hf2 := hf.named
    have hI := inamedD_ctF s f ls lf
    have hS := snamed_ctF s f ls lf
    have lN := nam_lenF s f
    have hEq := equalFlatSelf_ct (NamF s f).1 lN
    refine rn rfl ?_
    refine goal_step (step_call [] rfl rfl rfl rfl rfl rfl (hI)) ?_
    rintro σ2 ⟨r, o', ⟨rfl, rfl⟩, hσ⟩
    obtain rfl := Option.some.inj hσ
    clear hσ
    refine rn rfl ?_
    refine rn rfl ?_
    refine goal_step (step_call [] rfl rfl rfl rfl rfl rfl (hS)) ?_
    rintro σ2 ⟨r, o', ⟨rfl, rfl⟩, hσ⟩
    obtain rfl := Option.some.inj hσ
    clear hσ
    refine rn rfl ?_
    refine rn rfl ?_
    refine goal_step (step_call [] rfl rfl rfl rfl rfl rfl (hEq)) ?_
    rintro σ2 ⟨r, o', ⟨rfl, rfl⟩, hσ⟩
    obtain rfl := Option.some.inj hσ
    clear hσ
    refine rn rfl ?_
    refine goal_guard rfl rfl rfl (fun h1 => by cases h1) (fun _ => ?_)
    refine rn rfl ?_
    refine goal_guard rfl rfl rfl (fun h2 => by simp at h2) (fun _ => ?_)
    refine rn rfl ?_
    refine goal_cond rfl (fun h3 => ?_) (fun h3 => ?_)
    · refine rn rfl ?_
      refine goal_step (step_call [] rfl rfl rfl rfl rfl rfl (hEq)) ?_
      rintro σ2 ⟨r, o', ⟨rfl, rfl⟩, hσ⟩
      obtain rfl := Option.some.inj hσ
      clear hσ
      refine rn rfl ?_
      refine goal_guard rfl rfl rfl (fun _ => ?_) (fun h4 => by cases h4)
      refine rn rfl (fin_is [] rfl ⟨?_, rfl⟩)
      simp
    · have hok : (NamF s f).2 = true := by simpa using h3
      have G := named_ok hok
      have GN := G.ofNamed hok
      have hag := named_again hok
      have hI2 := inamedD_ctF s (NamF s f).1 ls lN
      rw [hag, hok] at hI2
      have hC := icanon_ct s f ls lf
      rw [G.canon] at hC
      have hcnt : (NamF s f).1.places.length + (NamF s f).1.named.length = f.places.length + f.named.length := by rw [← GN.count, ← G.count]
      have hmore := GN.more
      have hSz := lawSize_ct f (by omega) (by omega)
      have hSzN := lawSize_ct (NamF s f).1 (by have := lN.places; omega) (by have := lN.named; omega)
      rw [hcnt] at hSzN
      have hE := isameEffect_ct s f (NamF s f).1 ls lf lN
      rw [G.effect GN] at hE
      clear hcnt
      generalize unbQ s (boundQ s f).1 = U at *
      generalize (NamF s f).1 = M at *
      generalize f.places.length + f.named.length = n at *
      refine rn rfl ?_
      refine goal_step (step_call [] rfl rfl rfl rfl rfl rfl (hI2)) ?_
      rintro σ2 ⟨r, o', ⟨rfl, rfl⟩, hσ⟩
      obtain rfl := Option.some.inj hσ
      clear hσ
      refine rn rfl ?_
      refine rn rfl ?_
      refine goal_step (step_call [] rfl rfl rfl rfl rfl rfl (hC)) ?_
      rintro σ2 ⟨r, o', ⟨rfl, rfl⟩, hσ⟩
      obtain rfl := Option.some.inj hσ
      clear hσ
      refine rn rfl ?_
      refine rn rfl ?_
      refine goal_draw' [0, 1, 2, 4, 5] 32 rfl ?_
      refine drn [0, 1] (by kernel_rfl) (by kernel_rfl) rfl rfl ?_
      refine AH_guard (i := 2) rfl rfl rfl (fun h1 => ?_) (fun h1 => ?_) <;> (try simp only [gt_iff_lt, ge_iff_le, bne_iff_ne, ne_eq, bne_eq_false_iff_eq, beq_iff_eq, beq_eq_false_iff_ne, Bool.not_eq_true', Bool.not_eq_false', decide_eq_true_eq, decide_eq_false_iff_not, List.length_map] at h1)
      · refine drn [2, 3] (by kernel_rfl) (by kernel_rfl) rfl rfl ?_
        refine AH_one (i := 4) (by kernel_rfl) (step_call [] rfl rfl rfl rfl rfl rfl (hEq)) (by simp) ?_
        rintro σ2 ⟨r, o', ⟨rfl, rfl⟩, hσ⟩
        obtain rfl := Option.some.inj hσ
        clear hσ
        refine drn [5, 6] (by kernel_rfl) (by kernel_rfl) rfl rfl ?_
        refine AH_guard (i := 7) rfl rfl rfl (fun h2 => ?_) (fun h2 => ?_) <;> (try simp only [gt_iff_lt, ge_iff_le, bne_iff_ne, ne_eq, bne_eq_false_iff_eq, beq_iff_eq, beq_eq_false_iff_ne, Bool.not_eq_true', Bool.not_eq_false', decide_eq_true_eq, decide_eq_false_iff_not, List.length_map] at h2)
        · refine drn [7, 8, 9] (by kernel_rfl) (by kernel_rfl) rfl rfl ?_
          refine AH_guard (i := 10) rfl rfl rfl (fun h3 => ?_) (fun h3 => ?_) <;> (try simp only [gt_iff_lt, ge_iff_le, bne_iff_ne, ne_eq, bne_eq_false_iff_eq, beq_iff_eq, beq_eq_false_iff_ne, Bool.not_eq_true', Bool.not_eq_false', decide_eq_true_eq, decide_eq_false_iff_not, List.length_map] at h3)
          · refine drn [10, 12] (by kernel_rfl) (by kernel_rfl) rfl rfl ?_
            refine AH_one (i := 11) (by kernel_rfl) (step_call [] rfl rfl rfl rfl rfl rfl (hSzN)) (by simp) ?_
            rintro σ2 ⟨r, o', ⟨rfl, rfl⟩, hσ⟩
            obtain rfl := Option.some.inj hσ
            clear hσ
            refine AH_one (i := 13) (by kernel_rfl) (step_call [] rfl rfl rfl rfl rfl rfl (hSz)) (by simp) ?_
            rintro σ2 ⟨r, o', ⟨rfl, rfl⟩, hσ⟩
            obtain rfl := Option.some.inj hσ
            clear hσ
            refine drn [14, 15, 16] (by kernel_rfl) (by kernel_rfl) rfl rfl ?_
            refine AH_guard (i := 17) rfl rfl rfl (fun h4 => ?_) (fun h4 => ?_) <;> (try simp only [gt_iff_lt, ge_iff_le, bne_iff_ne, ne_eq, bne_eq_false_iff_eq, beq_iff_eq, beq_eq_false_iff_ne, Bool.not_eq_true', Bool.not_eq_false', decide_eq_true_eq, decide_eq_false_iff_not, List.length_map] at h4)
            · refine drn [17, 18, 19, 20, 21, 22, 23, 24, 25] (by kernel_rfl) (by kernel_rfl) rfl rfl ?_
              refine AH_guard (i := 26) rfl rfl rfl (fun h5 => ?_) (fun h5 => ?_) <;> (try simp only [gt_iff_lt, ge_iff_le, bne_iff_ne, ne_eq, bne_eq_false_iff_eq, beq_iff_eq, beq_eq_false_iff_ne, Bool.not_eq_true', Bool.not_eq_false', decide_eq_true_eq, decide_eq_false_iff_not, List.length_map] at h5)
              · refine drn [26, 27, 28] (by kernel_rfl) (by kernel_rfl) rfl rfl ?_
                refine AH_one (i := 29) (by kernel_rfl) (step_call [] rfl rfl rfl rfl rfl rfl (hE)) (by simp) ?_
                rintro σ2 ⟨r, o', ⟨rfl, rfl⟩, hσ⟩
                obtain rfl := Option.some.inj hσ
                clear hσ
                refine drn [30, 31] (by kernel_rfl) (by kernel_rfl) rfl rfl ?_
                refine AH_end (by kernel_rfl) ?_
                refine rn rfl ?_
                exact rn rfl (fin_is [] rfl ⟨rfl, rfl⟩)
              · exfalso; simp at h5; omega
            · exact absurd h4 (by simp)
          · exact absurd h3 (by simp)
        · exact absurd h2 (by simp)
      · exact absurd h1 (by simp)

end Go.Proofs.YtdkfjnledldojaaGreat
