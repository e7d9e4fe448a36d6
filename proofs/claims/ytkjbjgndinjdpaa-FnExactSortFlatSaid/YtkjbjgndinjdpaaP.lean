/- What is kept of a state, and in which numbers; slices, append, make. -/
import Derived.Test.YtkjbjgndinjdpaaO
set_option linter.unusedVariables false
set_option linter.unusedSimpArgs false
namespace Go.Proofs.Ytkjbjgndinjdpaa
open Go

def keepρ (mp : Nat → Option Nat) (o : List (Option AObj)) (d : Nat) (ρ : List (Nat × T)) : List Nat → List (Nat × T)
  | [] => []
  | t :: ts => (t, reT mp o d (getρ ρ t)) :: keepρ mp o d ρ ts
def keepS (np : Nat) (ts ks : List Nat) (d : Nat) (σ : State) : State :=
  ⟨keepρ (fun id => idxOf (rangeL 0 np ks) id 0) σ.o d σ.ρ ts, pickO σ.o d (rangeL 0 np ks), []⟩

section
variable {X : Pk} {N np : Nat} {K : KP} {σ σ' : State}

theorem keepρ_get (mp : Nat → Option Nat) (o : List (Option AObj)) (d : Nat) (ρ : List (Nat × T)) : ∀ (ts : List Nat) (t : Nat), getρ (keepρ mp o d ρ ts) t = reT mp o d (getρ ρ t) ∨ getρ (keepρ mp o d ρ ts) t = .junk
  | [], t => .inr rfl
  | u :: ts, t => by
    simp only [keepρ, getρ]
    split
    · rename_i hb
      have := Nat.eq_of_beq_eq_true hb
      subst this
      exact .inl rfl
    · exact keepρ_get mp o d ρ ts t

theorem Rel.keepS {G : Ctx} {D : Nat → Prop} {e : List ALoc} {a : Act} {w : World} (ts ks : List Nat) (d : Nat) (hnd : nodupB (rangeL 0 np ks) = true) (H : Rel N np G D e σ a w) : ∃ e', Rel N np G D e' (keepS np ts ks d σ) a w := by
  have hsr := H.sr.pick hnd d
  refine ⟨pickE e (rangeL 0 np ks), H.hnp, by unfold Go.Proofs.Ytkjbjgndinjdpaa.keepS pickO; simp only [pickO'_length, rangeL_length]; omega, H.ext, H.defers, H.size, fun t => ?_, hsr, ?_, H.old, ?_⟩
  · rcases keepρ_get (fun id => idxOf (rangeL 0 np ks) id 0) σ.o d σ.ρ ts t with h | h
    · simp only [Go.Proofs.Ytkjbjgndinjdpaa.keepS, h]
      exact reT_spec H.sr (fun id j l => pick_map id j l) d _ _ (H.tmps t)
    · simp only [Go.Proofs.Ytkjbjgndinjdpaa.keepS, h, TR]
  · intro id b esz cap n he
    rw [pickE_get] at he
    cases hi : (rangeL 0 np ks)[id]? with
    | none => rw [hi] at he; simp at he
    | some id' =>
      rw [hi] at he
      simp only [Option.map_some, List.getD, Option.some.injEq] at he
      cases hid : e[id']? with
      | none => rw [hid] at he; simp at he
      | some l => rw [hid] at he; simp at he; subst he; exact H.new id' b _ _ _ hid
  · intro id hid
    have hlt : id < e.length := by have := H.nple; have := H.sr.len; omega
    rw [pickE_get, rangeL_get, if_pos hid]
    simp only [Nat.zero_add, Option.map_some, List.getD]
    rw [List.getElem?_eq_getElem hlt]
    simp only [Option.getD_some]
    rw [← H.keep id hid, List.getElem?_eq_getElem hlt]

theorem Weak.keep (ts ks : List Nat) (d : Nat) (hnd : nodupB (rangeL 0 np ks) = true) : Weak N np σ (keepS np ts ks d σ) := fun {G D e a w} H => by
  obtain ⟨e', H'⟩ := H.keepS ts ks d hnd
  exact ⟨D, e', H'⟩

/-- The round of a loop over 'keepS'. -/
theorem goal_loop_keep {c : Code} {k : List It} (I : Nat → State → Prop) (m : Nat) (ts ks : List Nat) (hnd : nodupB (rangeL 0 np ks) = true) (h0 : I m (keepS np ts ks 4 σ))
    (round : ∀ m σ, I m σ → goal X N np (roundK N np I m (after X N np k K)) (.cod c []) σ) : goal X N np K (.cod (.loop c) k) σ :=
  goal_loop I m ⟨_, Weak.keep ts ks 4 hnd, h0⟩ round

theorem round_keep {I : Nat → State → Prop} {m : Nat} {K : KP} (m' : Nat) (ts ks : List Nat) (hlt : m' < m) (hnd : nodupB (rangeL 0 np ks) = true) (h : I m' (keepS np ts ks 4 σ)) :
    goal X N np (roundK N np I m K) (.nrm []) σ := ⟨m', hlt, _, Weak.keep ts ks 4 hnd, h⟩
theorem round_ret {I : Nat → State → Prop} {m : Nat} {K : KP} {k kk : List It} (h : goal X N np K (.ret k) σ) : goal X N np (roundK N np I m (after X N np k K)) (.ret kk) σ := by
  show after X N np k K .ret σ
  rw [after_ret]; exact h
theorem round_ext {I : Nat → State → Prop} {m id : Nat} {K : KP} {k : List It} (h : goal X N np K (.ext id k) σ) : goal X N np (roundK N np I m (after X N np k K)) (.ext id []) σ := h

theorem goal_weakOps {ops : Array Oper} {idx : List Nat} {k : List It} (hw : Weak N np σ σ') (h : goal X N np K (.ops ops idx k) σ') : goal X N np K (.ops ops idx k) σ := goal_weak hw h trivial
theorem goal_weakCod {c : Code} {k : List It} (hw : Weak N np σ σ') (h : goal X N np K (.cod c k) σ') : goal X N np K (.cod c k) σ := goal_weak hw h trivial
end
end Go.Proofs.Ytkjbjgndinjdpaa
