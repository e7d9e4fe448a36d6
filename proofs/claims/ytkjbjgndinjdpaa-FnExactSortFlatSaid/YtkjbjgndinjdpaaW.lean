/- A drawn region's computed operations, taken in one go. -/
import Derived.Test.YtkjbjgndinjdpaaV
set_option linter.unusedVariables false
set_option linter.unusedSimpArgs false
namespace Go.Proofs.Ytkjbjgndinjdpaa
open Go

def rdOk (rd : Option Nat) (prot : List Nat) : Bool := match rd with
  | none => true
  | some id => memB id prot
theorem rdOk_spec {rd : Option Nat} {prot : List Nat} (h : rdOk rd prot = true) : rdIn rd prot := by
  cases rd with
  | none => exact rdIn_none
  | some id => exact rdIn_mem h

/-- The operations 'is' may come up one behind the other, each free of what is not yet listed. -/
def orderOk (ops : Array Oper) : Array Bool → List Nat → Bool
  | _, [] => true
  | l, i :: r => Region.free .any ops l i && (Region.ready .any ops l).contains i && orderOk ops (l.setIfInBounds i true) r
def setAll : Array Bool → List Nat → Array Bool
  | l, [] => l
  | l, i :: r => setAll (l.setIfInBounds i true) r
def runD (L : List (Nat × TI)) (N : Nat) (ops : Array Oper) (prot : List Nat) : List Nat → State → Option State
  | [], σ => some σ
  | i :: r, σ => match nthA ops i with
    | none => none
    | some ⟨dst, op, _, _, _, g⟩ => match guardOf N ops g σ with
      | .go => match kindOf op σ with
        | .q rd => match rdOk rd prot with
          | true => match stepOp L N dst op σ with
            | some σ' => runD L N ops prot r σ'
            | none => none
          | false => none
        | .e _ => none
      | .skip => match putT N dst .junk σ with
        | some σ' => runD L N ops prot r σ'
        | none => none
      | .open_ => none

section
variable {X : Pk} {N np : Nat} {K : KP} {σ σ' : State} {ops : Array Oper} {prot : List Nat} {fuel : Nat} {listed : Array Bool} {i : Nat}

theorem runD_sound (hs : Region.noSelect ops = true) : ∀ (is : List Nat) (l : Array Bool) (σ σ' : State) (f : Nat), orderOk ops l is = true → runD X.L N ops prot is σ = some σ' →
    AH X N np ops K prot f (setAll l is) σ' → AH X N np ops K prot (f + is.length) l σ
  | [], l, σ, σ', f, _, hr, H => by simp [runD] at hr; subst hr; exact H
  | i :: r, l, σ, σ', f, ho, hr, H => by
    simp only [orderOk, Bool.and_eq_true] at ho
    simp only [runD] at hr
    split at hr
    · cases hr
    · rename_i dst op ty pos aft g hop
      split at hr
      · rename_i hg
        split at hr
        · rename_i rd hk
          split at hr
          · rename_i hrd
            split at hr
            · rename_i σ1 hst
              exact AH_take (o := ⟨dst, op, ty, pos, aft, g⟩) i hop hs ho.1.1 ho.1.2 hg (hk ▸ dA_step hst) (rdOk_spec hrd) (runD_sound hs r _ σ1 σ' f ho.2 hr H)
            · cases hr
          · cases hr
        · cases hr
      · rename_i hg
        split at hr
        · rename_i σ1 hst
          exact AH_skip (o := ⟨dst, op, ty, pos, aft, g⟩) i hop hs ho.1.1 ho.1.2 hg hst (runD_sound hs r _ σ1 σ' f ho.2 hr H)
        · cases hr
      · cases hr

/-- The operations 'is', all computed. -/
theorem drn (is : List Nat) (hs : Region.noSelect ops = true) (ho : orderOk ops listed is = true) (hr : runD X.L N ops prot is σ = some σ') (hf : Nat.ble is.length fuel = true)
    (h : AH X N np ops K prot (fuel - is.length) (setAll listed is) σ') : AH X N np ops K prot fuel listed σ := by
  have := runD_sound hs is listed σ σ' (fuel - is.length) ho hr h
  rwa [Nat.sub_add_cancel (Nat.le_of_ble_eq_true hf)] at this

/-- A drawn region; 'n' operations. -/
theorem goal_draw' {id : Nat} {k : List It} (prot : List Nat) (n : Nat) (hn : ops.size = n) (h : AH X N np ops (after X N np k K) prot n (Array.replicate n false) ⟨σ.ρ, σ.o, []⟩) : goal X N np K (.cod (.region id ops true) k) σ := by
  subst hn; exact goal_draw prot h

theorem step_callE {ops : Array Oper} {i : Nat} {dst : Option Nat} {c : Operand} {xs : Array Operand} {ts : Array TypeId} {ty : TypeId} {pos : String} {aft : Array Edge} {g : Option (Nat × Bool)}
    {f : FuncId} {caps : List C} {args args' : List T} {o1 : List (Option AObj)} {Φ : Post} {σ1 : State} (js : List Nat)
    (ho : nthA ops i = some ⟨dst, .call ⟨.value c, xs, ts⟩, ty, pos, aft, g⟩) (hg : guardOf N ops g σ = .go) (hc : evalO σ c = .one (.fn f caps))
    (hnd : nodupB js = true) (hd : dstB N dst = true)
    (hcs : callS np js σ (appT (evalArgs σ xs.toList) (onesT caps)) = some (σ1, args, o1)) (hae : args = args') (hcon : ACalls X f args' o1 Φ) :
    StepA X N np ops i (fun id => id ∈ js) σ (fun σ2 => ∃ r o', Φ r o' ∧ retS N js dst σ1 r o' = some σ2) := by
  subst hae; exact step_call js ho hg hc hnd hd hcs hcon
theorem step_lendE {ops : Array Oper} {i : Nat} {dst : Option Nat} {c : Operand} {xs : Array Operand} {ts : Array TypeId} {ty : TypeId} {pos : String} {aft : Array Edge} {g : Option (Nat × Bool)}
    {f : FuncId} {caps : List C} {args args' : List T} {o1 : List (Option AObj)} {Φ : Post} {σ1 : State} (js : List Nat)
    (ho : nthA ops i = some ⟨dst, .call ⟨.value c, xs, ts⟩, ty, pos, aft, g⟩) (hg : guardOf N ops g σ = .go) (hc : evalO σ c = .one (.fn f caps))
    (hnd : nodupB js = true) (hd : dstB N dst = true) (hlv : liveJs σ.o js = true)
    (hcs : callS np js σ (appT (evalArgs σ xs.toList) (onesT caps)) = some (σ1, args, o1)) (hae : args = args') (hcon : ACalls X f args' o1 Φ) (hno : ∀ r o', Φ r o' → noFzT r = true ∧ noFzO o' = true) :
    StepA X N np ops i (fun id => id ∈ js) σ (fun σ2 => ∃ r o', Φ r o' ∧ retS N js dst σ r o' = some σ2) := by
  subst hae; exact step_lend js ho hg hc hnd hd hlv hcs hcon hno

def mdFree (kd : Kd) (prot : List Nat) : Bool := match kd with
  | .q _ => true
  | .e none => true
  | .e (some id) => match memB id prot with
    | true => false
    | false => true
theorem mdOk {kd : Kd} {prot : List Nat} (h : mdFree kd prot = true) : ∀ id ∈ prot, ¬ mdOf kd id := by
  intro id hid
  cases kd with
  | q rd => exact fun h => h
  | e md =>
    cases md with
    | none => intro h'; cases h'
    | some id' =>
      intro h'
      simp only [mdOf, Option.some.injEq] at h'
      subst h'
      simp only [mdFree] at h
      split at h
      · cases h
      · rename_i hm; exact memB_false hm hid

/-- A piece of code first, by what it comes to; then the rest, once. -/
def cutK (N np : Nat) (Φ : State → Prop) : KP := fun ex σ => match ex with
  | .normal => ∃ σ', Weak N np σ σ' ∧ Φ σ'
  | _ => False
theorem goal_cut {c : Code} {k : List It} (Φ : State → Prop) (h : goal X N np (cutK N np Φ) (.cod c []) σ) (rest : ∀ σ', Φ σ' → goal X N np K (.nrm k) σ') : goal X N np K (.cod c k) σ := by
  intro G D e a w H
  refine wp_mono (h G D e a w H) ?_
  rintro ex a' w' ⟨D', e', σ', H', hk⟩
  cases ex with
  | normal =>
    obtain ⟨σ1, hw, hΦ⟩ := hk
    obtain ⟨D1, e1, H1⟩ := hw H'
    exact ⟨D1, e1, σ1, H1, rest σ1 hΦ⟩
  | exit id => exact hk.elim
  | goto l => exact hk.elim
  | ret => exact hk.elim
  | panic c => exact hk.elim
  | outgrown => exact hk.elim
theorem cut_end {Φ : State → Prop} (ts ks : List Nat) (hnd : nodupB (rangeL 0 np ks) = true) (h : Φ (keepS np ts ks 4 σ)) : goal X N np (cutK N np Φ) (.nrm []) σ := ⟨_, Weak.keep ts ks 4 hnd, h⟩

theorem AH_end {k : List It} (hr : Region.ready .any ops listed = []) (h : goal X N np K (.nrm k) σ) : AH X N np ops (after X N np k K) prot fuel listed σ := AH_done hr h

/-- What is not needed is left; the objects are renumbered. -/
theorem AH_keep (ts ks : List Nat) (hnd : nodupB (rangeL 0 np ks) = true) (h : AH X N np ops K [] fuel listed (keepS np ts ks 4 σ)) : AH X N np ops K [] fuel listed σ :=
  AH_weak (Weak.keep ts ks 4 hnd) rfl h fun {G D e a w} H => by
    obtain ⟨e', H'⟩ := H.keepS ts ks 4 hnd
    exact ⟨D, e', H', fun b hb => hb⟩

/-- An operation that reads, by a rule of its own. -/
theorem AH_did {o : Oper} {rd : Option Nat} (i : Nat) (ho : nthA ops i = some o) (hs : Region.noSelect ops = true) (hf : Region.free .any ops listed i = true) (hr : (Region.ready .any ops listed).contains i = true)
    (hg : guardOf N ops o.guard σ = .go) (hrd : rdOk rd prot = true) (hd : DidA X N np o (.q rd) σ σ')
    (h : AH X N np ops K prot fuel (listed.setIfInBounds i true) σ') : AH X N np ops K prot (fuel + 1) listed σ := AH_take i ho hs hf hr hg hd (rdOk_spec hrd) h
/-- One that may write, and alone is ready. -/
theorem AH_oneDid {kd : Kd} {o : Oper} (i : Nat) (ho : nthA ops i = some o) (hr : Region.ready .any ops listed = [i]) (hg : guardOf N ops o.guard σ = .go) (hd : DidA X N np o kd σ σ') (hmd : ∀ id ∈ prot, ¬ mdOf kd id)
    (h : AH X N np ops K prot fuel (listed.setIfInBounds i true) σ') : AH X N np ops K prot (fuel + 1) listed σ :=
  AH_one hr (step_did ho hg hd) hmd (by rintro _ rfl; exact h)
end
end Go.Proofs.Ytkjbjgndinjdpaa
