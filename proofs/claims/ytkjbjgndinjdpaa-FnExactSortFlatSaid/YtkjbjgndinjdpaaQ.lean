/- Regions whose order is drawn. -/
import Derived.Test.YtkjbjgndinjdpaaP
import Derived.OrdersHeld
set_option linter.unusedVariables false
set_option linter.unusedSimpArgs false
namespace Go.Proofs.Ytkjbjgndinjdpaa
open Go

def NP (K : KP) : KP := fun ex σ => match ex with
  | .panic _ => False
  | ex => K ex σ
def SPw (D : Nat → Prop) (e : List ALoc) (prot : List Nat) (h0 : Array Obj) (w' : World) : Prop :=
  (∀ b, D b → w'.heap[b]? = h0[b]?) ∧ ∀ id ∈ prot, ∀ (b : Addr) (esz cap n : Nat), e[id]? = some (.live (some b) esz cap n) → w'.heap[b.block]? = h0[b.block]?

/-- What is left of a region whose order is drawn: the operations in 'listed' have come up; nothing writes the objects in 'prot'. -/
def AH (X : Pk) (N np : Nat) (ops : Array Oper) (K : KP) (prot : List Nat) (fuel : Nat) (listed : Array Bool) (σ : State) : Prop :=
  ∀ G D e a w, Rel N np G D e σ a w → wpAnyH X.P .any ops (lift N np G (NP K)) (SPw D e prot w.heap) fuel listed a w

section
variable {X : Pk} {N np : Nat} {K : KP} {σ σ' : State} {ops : Array Oper} {prot : List Nat} {fuel : Nat} {listed : Array Bool} {i : Nat}

theorem wpAnyH_mono {P : Program} {md : Region.Mode} {Q : Exit → Act → World → Prop} {S S' : World → Prop} (h : ∀ w, S w → S' w) : ∀ (fuel : Nat) (listed : Array Bool) (a : Act) (w : World), wpAnyH P md ops Q S fuel listed a w → wpAnyH P md ops Q S' fuel listed a w
  | 0, _, _, _, H => H
  | fuel + 1, listed, a, w, H => ⟨H.1, fun i hi => wpOp_mono (fun a' w' h' => ⟨h _ h'.1, wpAnyH_mono h fuel _ a' w' h'.2⟩) (H.2 i hi)⟩

theorem goal_draw {id : Nat} {k : List It} (prot : List Nat) (h : AH X N np ops (after X N np k K) prot ops.size (Array.replicate ops.size false) ⟨σ.ρ, σ.o, []⟩) : goal X N np K (.cod (.region id ops true) k) σ := by
  intro G D e a w H
  have H1 : Rel N np G D e ⟨σ.ρ, σ.o, []⟩ a { w with drawn := w.drawn + 1 } := (H.hints []).world rfl rfl rfl rfl
  refine wp_mono (wp_region_held X.mixed (h G D e a _ H1)) ?_
  rintro ex a' w' ⟨D', e', σ', H', hk⟩
  cases ex with
  | panic c => exact hk.elim
  | normal => exact ⟨D', e', σ', H', hk⟩
  | exit id => exact ⟨D', e', σ', H', hk⟩
  | goto l => exact ⟨D', e', σ', H', hk⟩
  | ret => exact ⟨D', e', σ', H', hk⟩
  | outgrown => exact ⟨D', e', σ', H', hk⟩

theorem AH_done (hr : Region.ready .any ops listed = []) (h : K .normal σ) : AH X N np ops K prot fuel listed σ := fun G D e a w H =>
  wpAnyH_done hr ⟨D, e, σ, H, h⟩ fuel

def rdIn (rd : Option Nat) (prot : List Nat) : Prop := ∀ id, rd = some id → id ∈ prot
theorem rdIn_none : rdIn none prot := fun _ h => by cases h
theorem rdIn_mem {id : Nat} (h : memB id prot = true) : rdIn (some id) prot := by
  intro id' h'
  simp at h'
  subst h'
  revert h
  induction prot with
  | nil => simp [memB]
  | cons p ps ih =>
    simp only [memB]
    split
    · rename_i hb; intro _; rw [Nat.eq_of_beq_eq_true hb]; simp
    · intro h; exact List.mem_cons_of_mem _ (ih h)

/-- An operation that only reads is taken first. -/
theorem AH_take {o : Oper} {rd : Option Nat} (i : Nat) (ho : nthA ops i = some o) (hs : Region.noSelect ops = true) (hf : Region.free .any ops listed i = true) (hr : (Region.ready .any ops listed).contains i = true)
    (hg : guardOf N ops o.guard σ = .go) (hd : DidA X N np o (.q rd) σ σ') (hrd : rdIn rd prot)
    (h : AH X N np ops K prot fuel (listed.setIfInBounds i true) σ') : AH X N np ops K prot (fuel + 1) listed σ := fun G D e a w H => by
  rw [nthA_eq] at ho
  obtain ⟨x, v, hrun, hx, hp⟩ := hd H
  refine wpAnyH_take ho hs hf hr ?_ (.inl ⟨(guardOf_spec H (ops := ops)).1 hg, fun w' hw' => hrun w' ⟨hw'.1, fun id hid => hw'.2 id (hrd id hid)⟩⟩) ⟨fun _ _ => rfl, fun _ _ _ _ _ _ _ => rfl⟩ (h G D e _ w (H.putv hx hp))
  rintro c a' w' ⟨_, _, _, _, hk⟩
  exact hk.elim
/-- One whose guard says no. -/
theorem AH_skip {o : Oper} (i : Nat) (ho : nthA ops i = some o) (hs : Region.noSelect ops = true) (hf : Region.free .any ops listed i = true) (hr : (Region.ready .any ops listed).contains i = true)
    (hg : guardOf N ops o.guard σ = .skip) (hp : putT N o.dst .junk σ = some σ')
    (h : AH X N np ops K prot fuel (listed.setIfInBounds i true) σ') : AH X N np ops K prot (fuel + 1) listed σ := fun G D e a w H => by
  rw [nthA_eq] at ho
  refine wpAnyH_take ho hs hf hr ?_ (.inr ⟨(guardOf_spec H (ops := ops)).2 hg, rfl⟩) ⟨fun _ _ => rfl, fun _ _ _ _ _ _ _ => rfl⟩ (h G D e _ w (H.putv (x := .junk) (by simp [TR]) hp))
  rintro c a' w' ⟨_, _, _, _, hk⟩
  exact hk.elim

/-- What comes up is carried out. -/
theorem AH_op {md : Nat → Prop} {Post : State → Prop} (hs : StepA X N np ops i md σ Post) (hmd : ∀ id ∈ prot, ¬ md id)
    (h : ∀ σ', Post σ' → AH X N np ops K prot fuel (listed.setIfInBounds i true) σ') {G : Ctx} {D : Nat → Prop} {e : List ALoc} {a : Act} {w : World} (H : Rel N np G D e σ a w) :
    wpOp X.P ops (lift N np G (NP K)) i (fun a' w' => SPw D e prot w.heap w' ∧ wpAnyH X.P .any ops (lift N np G (NP K)) (SPw D e prot w.heap) fuel (listed.setIfInBounds i true) a' w') a w := by
  refine hs H fun D' e' σ' a' w' H' hP hPost => ?_
  have hS : SPw D e prot w.heap w' := ⟨fun b hb => (hP.1 b hb).2, fun id hid b esz cap n he => (hP.2 id (hmd id hid) b esz cap n he).2⟩
  refine ⟨hS, wpAnyH_mono (fun w'' hw'' => ⟨fun b hb => ?_, fun id hid b esz cap n he => ?_⟩) _ _ _ _ (h σ' hPost G D' e' a' w' H')⟩
  · rw [hw''.1 b (hP.1 b hb).1]; exact (hP.1 b hb).2
  · have h2 := hP.2 id (hmd id hid) b esz cap n he
    rw [hw''.2 id hid b esz cap n h2.1]; exact h2.2

theorem AH_one {md : Nat → Prop} {Post : State → Prop} (hr : Region.ready .any ops listed = [i]) (hs : StepA X N np ops i md σ Post) (hmd : ∀ id ∈ prot, ¬ md id)
    (h : ∀ σ', Post σ' → AH X N np ops K prot fuel (listed.setIfInBounds i true) σ') : AH X N np ops K prot (fuel + 1) listed σ := fun G D e a w H =>
  wpAnyH_all hr (by simp) fun j hj => by simp at hj; subst hj; exact AH_op hs hmd h H
theorem AH_two {i j : Nat} {md md' : Nat → Prop} {Post Post' : State → Prop} (hr : Region.ready .any ops listed = [i, j]) (hs : StepA X N np ops i md σ Post) (hmd : ∀ id ∈ prot, ¬ md id) (hs' : StepA X N np ops j md' σ Post') (hmd' : ∀ id ∈ prot, ¬ md' id)
    (h : ∀ σ', Post σ' → AH X N np ops K prot fuel (listed.setIfInBounds i true) σ') (h' : ∀ σ', Post' σ' → AH X N np ops K prot fuel (listed.setIfInBounds j true) σ') : AH X N np ops K prot (fuel + 1) listed σ := fun G D e a w H =>
  wpAnyH_all hr (by simp) fun m hm => by
    simp at hm
    rcases hm with rfl | rfl
    · exact AH_op hs hmd h H
    · exact AH_op hs' hmd' h' H
/-- The guard's test is decided, both ways. -/
theorem AH_guard {t j : Nat} {want b : Bool} {d0 : Option Nat} {op0 op1 : Op} {ty0 ty1 : TypeId} {pos0 pos1 : String} {aft0 aft1 : Array Edge} {g1 : Option (Nat × Bool)}
    (ho : nthA ops i = some ⟨d0, op0, ty0, pos0, aft0, some (j, want)⟩) (hj : nthA ops j = some ⟨some t, op1, ty1, pos1, aft1, g1⟩) (hv : getρ σ.ρ t = .one (.bool b))
    (h1 : b = true → AH X N np ops K prot fuel listed (decS t true σ))
    (h2 : b = false → AH X N np ops K prot fuel listed (decS t false σ)) : AH X N np ops K prot fuel listed σ := by
  intro G D e a w H
  have key : Rel N np G D e ⟨(t, .one (.bool b)) :: σ.ρ, σ.o, t :: σ.k⟩ a w := by
    refine ⟨H.hnp, H.nple, H.ext, H.defers, H.size, fun u => ?_, H.sr, H.new, H.old, H.keep⟩
    simp only [getρ]
    split
    · rename_i hb
      have := Nat.eq_of_beq_eq_true hb
      subst this
      rw [← hv]; exact H.tmps t
    · exact H.tmps u
  cases b with
  | true => exact h1 rfl G D e a w key
  | false => exact h2 rfl G D e a w key
theorem AH_weak (hw : Weak N np σ σ') (hpr : prot = []) (h : AH X N np ops K prot fuel listed σ') (hm : ∀ {G : Ctx} {D : Nat → Prop} {e : List ALoc} {a : Act} {w : World}, Rel N np G D e σ a w → ∃ D' e', Rel N np G D' e' σ' a w ∧ ∀ b, D b → D' b) : AH X N np ops K prot fuel listed σ := by
  intro G D e a w H
  obtain ⟨D', e', H', hD⟩ := hm H
  refine wpAnyH_mono (fun w'' hw'' => ⟨fun b hb => hw''.1 b (hD b hb), fun id hid => by subst hpr; simp at hid⟩) _ _ _ _ (h G D' e' a w H')
end
end Go.Proofs.Ytkjbjgndinjdpaa
