/- Flats sorted: the reference's; both are one. -/
import Derived.Test.YtkjbjgndinjdpaaCk
set_option linter.unusedVariables false
set_option linter.unusedSimpArgs false
namespace Go.Proofs.Ytkjbjgndinjdpaa
open Go
set_option maxRecDepth 100000

theorem ssortFlat_ct (f : Flat) (h1 : f.places.length ≤ 2097152) (h2 : f.named.length ≤ 2097152) (hn : ∀ p ∈ f.named, p.name.length ≤ 9223372036854775807) :
    ACalls pk 20 [.agg (eF f)] [] (fun r o => r = rF (if okFlat f then ⟨f.places, sortL f.named⟩ else zF) ∧ o = oF (if okFlat f then ⟨f.places, sortL f.named⟩ else zF)) := by
  refine acalls_of_body Try.func20 rfl (by kernel_rfl) rfl ?_
  refine rn rfl ?_
  refine goal_step (step_call [] rfl rfl rfl rfl rfl rfl (svalidFlat_ct f h1 h2 hn)) ?_
  rintro σ2 ⟨r, o', ⟨rfl, rfl⟩, hσ⟩
  obtain rfl := Option.some.inj hσ
  refine rn rfl ?_
  refine goal_cond rfl (fun h => ?_) (fun h => ?_) <;> simp only [Bool.not_eq_true', Bool.not_eq_false'] at h
  · refine rn rfl ?_
    refine fin_weak (Weak.adoptO 1 0 1) (fin_weak (Weak.adoptO 1 1 2) (fin_is [2, 3] rfl ⟨?_, ?_⟩))
    · simp [h]; rfl
    · simp [h]; rfl
  · have hle : f.named.length ≤ 8 := by simp [okFlat] at h; omega
    have hi : (sortL f.named).length = f.named.length := by
      have : ∀ (xs S : List Pair), (xs.foldl (fun out p => insL p out) S).length = S.length + xs.length := by
        intro xs
        induction xs with
        | nil => intro S; simp
        | cons x xs ih => intro S; simp only [List.foldl_cons, ih, insL_length, List.length_cons]; omega
      have := this f.named []
      simpa [sortL] using this
    simp only [h, if_true]
    refine rn rfl ?_
    refine goal_draw' [0] 9 rfl ?_
    refine drn [1, 2, 4, 5] (by kernel_rfl) (by kernel_rfl) rfl rfl ?_
    refine AH_oneDid 0 rfl (by kernel_rfl) rfl (dA_step rfl) (mdOk rfl) ?_
    refine AH_oneDid 3 rfl (by kernel_rfl) rfl (dA_append (old := []) (f.places.map eI) f.places.length true (Dst.own rfl rfl rfl rfl rfl (Nat.le_refl 0) rfl) (Src.fs rfl) rfl rfl rfl rfl rfl rfl rfl rfl (by simp) (rows_len eI_len _) (by simp only [List.length_map, List.length_nil]; show _ * 8 ≤ _; omega) (by simp; omega) rfl (by simp) (fun _ => noOwnR_map _ eI_noOwn _)) (mdOk rfl) ?_
    refine AH_one (i := 6) (by kernel_rfl) (step_call [] rfl rfl rfl rfl rfl rfl (sortedPairs_ct f.named (by omega))) (by simp) ?_
    rintro σ2 ⟨r, o', ⟨rfl, rfl⟩, hσ⟩
    obtain rfl := Option.some.inj hσ
    refine drn [7] (by kernel_rfl) (by kernel_rfl) rfl rfl ?_
    refine AH_oneDid 8 rfl (by kernel_rfl) rfl (dA_step rfl) (mdOk rfl) ?_
    refine AH_end (by kernel_rfl) ?_
    exact rn rfl (fin_is [3, 4] rfl ⟨by simp only [rF, hi]; done, rfl⟩)

/-! ### one order -/
theorem u8_lt_irrefl (a : UInt8) : ¬ a < a := by simp [UInt8.lt_iff_toNat_lt]
theorem ltS_irrefl : ∀ a : Str, ltS a a = false
  | [] => rfl
  | x :: a => by
    have := ltS_irrefl a
    simp only [ltS] at this ⊢
    simp only [Op.bytesLess, this, Bool.and_false, Bool.or_false, decide_eq_false_iff_not]
    exact u8_lt_irrefl x
theorem ltS_cons (x y : UInt8) (a b : Str) : ltS (x :: a) (y :: b) = true ↔ x.toNat < y.toNat ∨ (x = y ∧ ltS a b = true) := by
  simp [ltS, Op.bytesLess, UInt8.lt_iff_toNat_lt]
theorem ltS_nil (a : Str) : ltS a [] = false := by cases a <;> rfl
theorem ltS_trans : ∀ {a b c : Str}, ltS a b = true → ltS b c = true → ltS a c = true
  | a, [], c, h, _ => by rw [ltS_nil] at h; cases h
  | a, y :: b, [], _, h => by rw [ltS_nil] at h; cases h
  | [], y :: b, z :: c, _, _ => rfl
  | x :: a, y :: b, z :: c, h1, h2 => by
    rw [ltS_cons] at h1 h2 ⊢
    rcases h1 with h1 | ⟨rfl, h1⟩
    · rcases h2 with h2 | ⟨rfl, h2⟩
      · left; omega
      · left; exact h1
    · rcases h2 with h2 | ⟨rfl, h2⟩
      · left; exact h2
      · right; exact ⟨rfl, ltS_trans h1 h2⟩
theorem ltS_total : ∀ {a b : Str}, a ≠ b → ltS a b = false → ltS b a = true
  | [], [], h, _ => absurd rfl h
  | [], y :: b, _, h => by cases h
  | x :: a, [], _, _ => rfl
  | x :: a, y :: b, hne, h => by
    have h' : ¬ ltS (x :: a) (y :: b) = true := by rw [h]; simp
    rw [ltS_cons] at h'
    rw [ltS_cons]
    by_cases hxy : x = y
    · subst hxy
      right
      refine ⟨rfl, ltS_total (fun h0 => hne (by rw [h0])) ?_⟩
      cases hb : ltS a b with
      | false => rfl
      | true => exact absurd (.inr ⟨rfl, hb⟩) h'
    · left
      have : x.toNat ≠ y.toNat := fun h0 => hxy (UInt8.toNat_inj.1 h0)
      omega
theorem ltS_asymm {a b : Str} (h : ltS a b = true) : ltS b a = false := by
  cases hb : ltS b a with
  | false => rfl
  | true => have := ltS_trans h hb; rw [ltS_irrefl] at this; cases this

/-- Sorted, the nearest to the right the greatest. -/
def Sorted (S : List Pair) : Prop := S.Pairwise (fun a b => ltN a b = true)

theorem insL_cons_lt {p q : Pair} {S : List Pair} (h : ltN q p = true) : insL p (q :: S) = q :: insL p S := by simp [insL, h]
theorem insL_cons_ge {p q : Pair} {S : List Pair} (h : ltN q p = false) : insL p (q :: S) = p :: q :: S := by simp [insL, h]
theorem insL_mem {p x : Pair} : ∀ {S : List Pair}, x ∈ insL p S ↔ x = p ∨ x ∈ S
  | [] => by simp [insL]
  | q :: S => by
    cases h : ltN q p with
    | true =>
      rw [insL_cons_lt h, List.mem_cons, List.mem_cons, insL_mem (S := S)]
      constructor
      · rintro (h | h | h) <;> simp [h]
      · rintro (h | h | h) <;> simp [h]
    | false => rw [insL_cons_ge h]; simp
theorem insL_sorted {p : Pair} : ∀ {S : List Pair}, Sorted S → (∀ q ∈ S, q.name ≠ p.name) → Sorted (insL p S)
  | [], _, _ => by simp [insL, Sorted]
  | q :: S, hs, hne => by
    have hs' := List.pairwise_cons.1 hs
    cases h : ltN q p with
    | true =>
      rw [insL_cons_lt h]
      refine List.pairwise_cons.2 ⟨fun x hx => ?_, insL_sorted hs'.2 (fun x hx => hne x (by simp [hx]))⟩
      rcases insL_mem.1 hx with rfl | hx
      · exact h
      · exact hs'.1 x hx
    | false =>
      rw [insL_cons_ge h]
      have hpq : ltN p q = true := ltS_total (hne q (by simp)) h
      refine List.pairwise_cons.2 ⟨fun x hx => ?_, hs⟩
      rcases List.mem_cons.1 hx with rfl | hx
      · exact hpq
      · exact ltS_trans hpq (hs'.1 x hx)

/-- From the right or from the left: one place. -/
theorem insR_eq {p : Pair} : ∀ {S : List Pair}, Sorted S → (∀ q ∈ S, q.name ≠ p.name) → insR ltN p S = insL p S
  | [], _, _ => by simp [insR, sinkR, insL]
  | q :: S, hs, hne => by
    have hs' := List.pairwise_cons.1 hs
    have ih := insR_eq hs'.2 (fun x hx => hne x (by simp [hx]))
    -- what the first does to a sinking 'p'
    have key : ∀ (ra acc : List Pair), sinkR ltN p (ra ++ [q]) acc = if ra.all (fun x => ltN p x) && ltN p q then p :: q :: (ra.reverse ++ acc) else q :: sinkR ltN p ra acc := by
      intro ra
      induction ra with
      | nil =>
        intro acc
        simp only [List.nil_append, sinkR, List.all_nil, Bool.true_and, List.reverse_nil]
        split <;> simp
      | cons x ra ih2 =>
        intro acc
        simp only [List.cons_append, sinkR, List.all_cons]
        by_cases hx : ltN p x = true
        · simp only [hx, if_true, ih2, Bool.true_and, List.reverse_cons, List.append_assoc, List.cons_append, List.nil_append]
        · simp only [Bool.not_eq_true] at hx
          simp [hx]
    have h1 : insR ltN p (q :: S) = if S.reverse.all (fun x => ltN p x) && ltN p q then p :: q :: S else q :: insR ltN p S := by
      simp only [insR, List.reverse_cons, key, List.reverse_reverse, List.append_nil]
    rw [h1]
    cases h : ltN q p with
    | true =>
      have hpq : ltN p q = false := ltS_asymm h
      rw [insL_cons_lt h, ← ih]
      simp [hpq]
    | false =>
      have hpq : ltN p q = true := ltS_total (hne q (by simp)) h
      have hall : S.reverse.all (fun x => ltN p x) = true := by
        rw [List.all_eq_true]
        intro x hx
        exact ltS_trans hpq (hs'.1 x (by simpa using hx))
      rw [insL_cons_ge h, hall, hpq]
      simp

theorem sorts_eq (xs : List Pair) (h : (namesOf xs).Nodup) : isortL ltN xs = sortL xs := by
  have key : ∀ (xs S : List Pair), Sorted S → (namesOf xs).Nodup → (∀ p ∈ xs, ∀ q ∈ S, q.name ≠ p.name) → xs.foldl (fun S x => insR ltN x S) S = xs.foldl (fun out p => insL p out) S := by
    intro xs
    induction xs with
    | nil => intro S _ _ _; rfl
    | cons x xs ih =>
      intro S hs hnd hne
      have hnd' := List.nodup_cons.1 hnd
      have hx := hne x (by simp)
      simp only [List.foldl_cons]
      rw [insR_eq hs hx]
      refine ih _ (insL_sorted hs hx) hnd'.2 (fun p hp q hq => ?_)
      rcases insL_mem.1 hq with rfl | hq
      · intro h0
        exact hnd'.1 (by simp only [List.mem_map]; exact ⟨p, hp, h0.symm⟩)
      · exact hne p (by simp [hp]) q hq
  exact key xs [] (by simp [Sorted]) h (by simp)
end Go.Proofs.Ytkjbjgndinjdpaa
