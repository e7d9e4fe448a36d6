/- The rule of a call. -/
import Derived.Test.YtkjbjgndinjdpaaM
set_option linter.unusedVariables false
set_option linter.unusedSimpArgs false
namespace Go.Proofs.Ytkjbjgndinjdpaa
open Go

def foldC (f : C → List Nat → List Nat) : List C → List Nat → List Nat
  | [], acc => acc
  | c :: cs, acc => foldC f cs (f c acc)
def foldR (f : C → List Nat → List Nat) : List (List C) → List Nat → List Nat
  | [], acc => acc
  | r :: rs, acc => foldR f rs (foldC f r acc)
/-- The objects that an argument speaks of, but for those that are passed. -/
def needC (js : List Nat) (o : List (Option AObj)) : Nat → C → List Nat → List Nat
  | 0, _, acc => acc
  | n + 1, c, acc => match c with
    | .os id _ _ _ => match memB id js with
      | true => acc
      | false => match nth o id with
        | some (some ⟨_, elems, false, _, _⟩) => foldR (needC js o n) elems (id :: acc)
        | _ => id :: acc
    | .op id _ _ => match memB id js with
      | true => acc
      | false => match nth o id with
        | some (some ⟨_, elems, false, _, _⟩) => foldR (needC js o n) elems (id :: acc)
        | _ => id :: acc
    | .fn _ caps => foldC (needC js o n) caps acc
    | _ => acc
abbrev needL (js : List Nat) (o : List (Option AObj)) (n : Nat) : List C → List Nat → List Nat := foldC (needC js o n)
mutual
def needT (js : List Nat) (o : List (Option AObj)) (n : Nat) : T → List Nat → List Nat
  | .one c, acc => needC js o n c acc
  | .agg cs, acc => needL js o n cs acc
  | .tup ts, acc => needTs js o n ts acc
  | .junk, acc => acc
def needTs (js : List Nat) (o : List (Option AObj)) (n : Nat) : List T → List Nat → List Nat
  | [], acc => acc
  | t :: ts, acc => needTs js o n ts (needT js o n t acc)
end
def fz1 (o : List (Option AObj)) (id : Nat) : List (Option AObj) := match nth o id with
  | some (some ⟨esz, el, cl, _, bx⟩) => setNth o id (some ⟨esz, el, cl, true, bx⟩)
  | _ => o
def fzL : List Nat → List (Option AObj) → List (Option AObj)
  | [], o => o
  | id :: ids, o => fzL ids (fz1 o id)
def allGe (np : Nat) : List Nat → Bool
  | [] => true
  | id :: ids => match Nat.ble np id with
    | true => allGe np ids
    | false => false
def evalArgs (σ : State) : List Operand → List T
  | [] => []
  | x :: xs => evalO σ x :: evalArgs σ xs
def onesT : List C → List T
  | [] => []
  | c :: cs => .one c :: onesT cs
def appT : List T → List T → List T
  | [], b => b
  | x :: a, b => x :: appT a b
theorem appT_eq : ∀ (a b : List T), appT a b = a ++ b
  | [], b => rfl
  | x :: a, b => by simp [appT, appT_eq a b]
def putS (dst : Option Nat) (x : T) (σ : State) : State := match dst, σ with
  | none, σ => σ
  | some d, ⟨ρ, o, κ⟩ => ⟨(d, x) :: ρ, o, κ⟩
def dstB (N : Nat) : Option Nat → Bool
  | none => true
  | some d => Nat.blt d N
theorem putS_eq {N : Nat} {dst : Option Nat} {x : T} {σ : State} (h : dstB N dst = true) : putT N dst x σ = some (putS dst x σ) := by
  cases dst with
  | none => rfl
  | some d => simp only [dstB] at h; cases σ; simp [putT, putS, h, forceT_eq]
def liveJs (o : List (Option AObj)) : List Nat → Bool
  | [] => true
  | id :: ids => match nth o id with
    | some (some ⟨_, _, _, false, _⟩) => liveJs o ids
    | _ => false

section
variable {X : Pk} {N np : Nat} {G : Ctx} {D : Nat → Prop} {e : List ALoc} {σ σ' : State} {a : Act} {w : World} {K : KP}

theorem liveJs_spec : ∀ {js : List Nat} {o : List (Option AObj)}, liveJs o js = true → ∀ id ∈ js, ∃ ob, o[id]? = some (some ob) ∧ ob.fz = false
  | [], o, _, id, hid => by simp at hid
  | j :: js, o, h, id, hid => by
    simp only [liveJs] at h
    split at h
    · rename_i esz el cl bx hn
      rcases List.mem_cons.1 hid with rfl | hid
      · rw [nth_eq] at hn; exact ⟨_, hn, rfl⟩
      · exact liveJs_spec h id hid
    · cases h

theorem Rel.frz : ∀ (ids : List Nat) {σ : State} {D : Nat → Prop}, allGe np ids = true → Rel N np G D e σ a w → ∃ D', Rel N np G D' e ⟨σ.ρ, fzL ids σ.o, σ.k⟩ a w
  | [], σ, D, _, H => ⟨D, H⟩
  | id :: ids, σ, D, hg, H => by
    simp only [allGe] at hg
    split at hg
    · rename_i hb
      have hge := Nat.le_of_ble_eq_true hb
      have h1 : ∃ D', Rel N np G D' e ⟨σ.ρ, fz1 σ.o id, σ.k⟩ a w := by
        unfold fz1
        split
        · rename_i esz el cl fz bx hn
          rw [nth_eq] at hn
          rw [setNth_eq]
          exact H.freeze hn hge
        · exact ⟨D, H⟩
      obtain ⟨D', H'⟩ := h1
      exact Rel.frz ids hg H'
    · cases hg

theorem Rel.frz' : ∀ (ids : List Nat) {σ : State} {D : Nat → Prop}, allGe np ids = true → Rel N np G D e σ a w → ∃ D', Rel N np G D' e ⟨σ.ρ, fzL ids σ.o, σ.k⟩ a w ∧ (∀ b, D b → D' b)
  | [], σ, D, _, H => ⟨D, H, fun _ h => h⟩
  | id :: ids, σ, D, hg, H => by
    simp only [allGe] at hg
    split at hg
    · rename_i hb
      have hge := Nat.le_of_ble_eq_true hb
      have h1 : ∃ D', Rel N np G D' e ⟨σ.ρ, fz1 σ.o id, σ.k⟩ a w ∧ (∀ b, D b → D' b) := by
        unfold fz1
        split
        · rename_i esz el cl fz bx hn
          rw [nth_eq] at hn
          rw [setNth_eq]
          exact H.freeze' hn hge
        · exact ⟨D, H, fun _ h => h⟩
      obtain ⟨D', H', h'⟩ := h1
      obtain ⟨D2, H2, h2⟩ := Rel.frz' ids hg H'
      exact ⟨D2, H2, fun b hb => h2 b (h' b hb)⟩
    · cases hg

theorem Weak.fzL (ids : List Nat) (h : allGe np ids = true) : Weak N np σ ⟨σ.ρ, fzL ids σ.o, σ.k⟩ := fun H => by
  obtain ⟨D', H'⟩ := Rel.frz ids h H
  exact ⟨D', _, H'⟩
theorem evalArgs_spec (H : Rel N np G D e σ a w) : ∀ (xs : List Operand), TRs D w.heap e (evalArgs σ xs) (xs.map a.eval)
  | [] => by simp [evalArgs, TRs]
  | x :: xs => by simp only [evalArgs, List.map_cons, TRs]; exact ⟨_, _, rfl, H.ev x, evalArgs_spec H xs⟩
theorem TRs.append {h : Array Obj} : ∀ {ts us : List T} {vs xs : List Value}, TRs D h e ts vs → TRs D h e us xs → TRs D h e (ts ++ us) (vs ++ xs)
  | [], us, vs, xs, H, h1 => by simp only [TRs] at H; subst H; simpa using h1
  | t :: ts, us, vs, xs, H, h1 => by
    simp only [TRs] at H
    obtain ⟨x, r, rfl, h2, h3⟩ := H
    simp only [List.cons_append, TRs]
    exact ⟨x, r ++ xs, rfl, h2, TRs.append h3 h1⟩
theorem onesT_spec {h : Array Obj} : ∀ {cs : List C} {vs : List Value}, vs.length = cs.length → CRp D h e cs vs → TRs D h e (onesT cs) vs
  | [], vs, hl, _ => by simp at hl; subst hl; simp [onesT, TRs]
  | c :: cs, [], hl, _ => by simp at hl
  | c :: cs, v :: vs, hl, H => by
    simp only [CRp] at H
    simp only [onesT, TRs]
    exact ⟨v, vs, rfl, by simpa only [TR] using H.1, onesT_spec (by simpa using hl) H.2⟩

theorem run_call {P : Program} {o : Oper} {c : Operand} {xs : Array Operand} {ts : Array TypeId} {f : FuncId} {caps : Array Value} (hop : o.op = .call ⟨.value c, xs, ts⟩) (hv : a.eval c = .func (.func f) #[] caps) (hc : Callable P f) :
    (execOp a.eval o).run P w = .ok (.enter f (xs.map a.eval ++ caps)) w := by
  obtain ⟨fn, hf, hb, hn⟩ := hc
  have h1 : (callFunc f (xs.map a.eval ++ caps)).run P w = .ok (.enter f (xs.map a.eval ++ caps)) w := by
    simp only [callFunc, Sem.run_bind, run_program, Result.andThen_ok, hf, hn, Bool.false_eq_true, if_false, hb]
    rfl
  simp only [execOp, hop, resolve, hv, Deferred.ofValue, Sem.run_bind, Sem.run_pure, Result.andThen_ok, invoke]
  simpa using h1

/-- One operation of a region, from whatever memory: what it comes to, and what it leaves alone. -/
def StepA (X : Pk) (N np : Nat) (ops : Array Oper) (i : Nat) (md : Nat → Prop) (σ : State) (Post : State → Prop) : Prop :=
  ∀ {G : Ctx} {D : Nat → Prop} {e : List ALoc} {a : Act} {w : World} {Q : Exit → Act → World → Prop} {K' : Act → World → Prop}, Rel N np G D e σ a w →
    (∀ D' e' σ' a' w', Rel N np G D' e' σ' a' w' → Pres md D e w.heap D' e' w'.heap → Post σ' → K' a' w') → wpOp X.P ops Q i K' a w

theorem goal_step {ops : Array Oper} {i : Nat} {rest : List Nat} {k : List It} {md : Nat → Prop} {Post : State → Prop} (hs : StepA X N np ops i md σ Post) (h : ∀ σ', Post σ' → goal X N np K (.ops ops rest k) σ') :
    goal X N np K (.ops ops (i :: rest) k) σ := by
  intro G D e a w H
  rw [wpOps_cons]
  exact hs H fun D' e' σ' a' w' H' _ hP => h σ' hP G D' e' a' w' H'

/-- The state that a callee sees, and the one behind its return. -/
def callS (np : Nat) (js : List Nat) (σ : State) (ts : List T) : Option (State × List T × List (Option AObj)) :=
  match σ with
  | ⟨ρ, o, κ⟩ => match allGe np (needTs js o 4 ts []) with
    | false => none
    | true => forceO (fzL (needTs js o 4 ts []) o) fun o1 => match liveJs o1 js with
      | false => none
      | true => some (⟨ρ, o1, κ⟩, reTs (fun id => idxOf js id 0) o1 4 ts, pickO o1 4 js)
def appO : List (Option AObj) → List (Option AObj) → List (Option AObj)
  | [], b => b
  | x :: a, b => x :: appO a b
theorem appO_eq : ∀ (a b : List (Option AObj)), appO a b = a ++ b
  | [], b => rfl
  | x :: a, b => by simp [appO, appO_eq a b]
def retS (N : Nat) (js : List Nat) (dst : Option Nat) (σ1 : State) (r : T) (o' : List (Option AObj)) : Option State :=
  match σ1 with
  | ⟨ρ, o1, κ⟩ => lenK o1 0 fun n => forceO (appO (updJs (rnOf js n) o1 js o') (mapO (rnOf js n) (dropN js.length o'))) fun o2 => putT N dst (renT (rnOf js n) r) ⟨ρ, o2, κ⟩

theorem step_call {ops : Array Oper} {i : Nat} {dst : Option Nat} {c : Operand} {xs : Array Operand} {ts : Array TypeId} {ty : TypeId} {pos : String} {aft : Array Edge} {g : Option (Nat × Bool)}
    {f : FuncId} {caps : List C} {σ1 : State} {args : List T} {o1 : List (Option AObj)} {Φ : Post} (js : List Nat)
    (ho : nthA ops i = some ⟨dst, .call ⟨.value c, xs, ts⟩, ty, pos, aft, g⟩) (hg : guardOf N ops g σ = .go) (hc : evalO σ c = .one (.fn f caps))
    (hnd : nodupB js = true) (hd : dstB N dst = true)
    (hcs : callS np js σ (appT (evalArgs σ xs.toList) (onesT caps)) = some (σ1, args, o1)) (hcon : ACalls X f args o1 Φ) :
    StepA X N np ops i (fun id => id ∈ js) σ (fun σ2 => ∃ r o', Φ r o' ∧ retS N js dst σ1 r o' = some σ2) := by
  intro G D e a w Q K' H next
  rw [nthA_eq] at ho
  unfold callS at hcs
  obtain ⟨ρ, oo, κ⟩ := σ
  simp only at hcs
  split at hcs
  · cases hcs
  rename_i hge
  rw [forceO_eq] at hcs
  split at hcs
  · cases hcs
  rename_i hlv
  simp only [Option.some.injEq, Prod.mk.injEq] at hcs
  obtain ⟨rfl, hargs, ho1⟩ := hcs
  unfold wpOp
  simp only [ho, (guardOf_spec H (ops := ops) (o := ⟨dst, .call ⟨.value c, xs, ts⟩, ty, pos, aft, g⟩)).1 hg, if_true]
  left
  obtain ⟨D1, H1, hD1⟩ := Rel.frz' _ hge H
  generalize fzL (needTs js oo 4 (appT (evalArgs ⟨ρ, oo, κ⟩ xs.toList) (onesT caps)) []) oo = of at *
  have hcv := H1.ev c
  have hc1 : evalO ⟨ρ, of, κ⟩ c = .one (.fn f caps) := by rw [← hc]; cases c <;> rfl
  rw [hc1] at hcv
  simp only [TR, CR] at hcv
  obtain ⟨cv, hcv, hcl, hcr⟩ := hcv
  have hea : ∀ xs, evalArgs ⟨ρ, of, κ⟩ xs = evalArgs ⟨ρ, oo, κ⟩ xs := by
    intro xs
    induction xs with
    | nil => rfl
    | cons x xs ih => simp only [evalArgs, ih]; congr 1
  have hargs0 : TRs D1 w.heap e (appT (evalArgs ⟨ρ, oo, κ⟩ xs.toList) (onesT caps)) (xs.toList.map a.eval ++ cv.toList) := by
    rw [appT_eq]
    have := evalArgs_spec H1 xs.toList
    rw [hea] at this
    exact this.append (onesT_spec (by simpa using hcl) hcr)
  have hargs1 := reTs_spec (e1 := pickE e js) H1.sr (fun id j l => pick_map id j l) 4 _ _ hargs0
  simp only at hargs1
  rw [hargs] at hargs1
  have hsr1 := H1.sr.pick hnd 4
  simp only at hsr1
  rw [ho1] at hsr1
  have hlive := liveJs_spec hlv
  unfold Oper.wp
  rw [run_call rfl hcv hcon.1]
  simp only [Oper.upon]
  have hC := hcon.2 D1 (pickE e js) w (xs.toList.map a.eval ++ cv.toList) hsr1 hargs1 (fun id b esz cap n he hD => by
    rw [pickE_get] at he
    cases hi : js[id]? with
    | none => rw [hi] at he; simp at he
    | some id' =>
      rw [hi] at he
      simp only [Option.map_some, List.getD, Option.some.injEq] at he
      cases hid : e[id']? with
      | none => rw [hid] at he; simp at he
      | some l =>
        rw [hid] at he; simp at he; subst he
        obtain ⟨ob, ho', hf⟩ := hlive id' (List.mem_of_getElem? hi)
        obtain ⟨ob', ho'', hf'⟩ := (H1.sr.own id' b _ _ _ hid).2 hD
        rw [ho'] at ho''; simp at ho''; subst ho''; rw [hf] at hf'; cases hf')
  have hvals : (xs.toList.map a.eval ++ cv.toList).toArray = xs.map a.eval ++ cv := by
    apply Array.ext'; simp
  rw [hvals] at hC
  refine hC.mono ?_
  rintro en w' ⟨v, r, o', D', e', rfl, hΦ, htr, hsr', hext, hnew, hold, hkeep, hlen⟩
  obtain ⟨D2, e2, H2, hT2, hP2⟩ := H1.called hnd hlive hsr' hext hnew hold hkeep hlen
  have hx := hT2 r v htr
  have H3 := H2.putv hx (putS_eq hd)
  refine next D2 e2 _ _ w' H3 ⟨fun b hb => hP2.1 b (hD1 b hb), hP2.2⟩ ⟨r, o', hΦ, ?_⟩
  simp only [retS, lenK_eq, Nat.zero_add, forceO_eq, appO_eq]
  exact putS_eq hd

/-! ### Own objects lent to a callee as data -/
mutual
def noFz : C → Bool
  | .fs (_ :: _) | .fp _ => false
  | .fn _ caps => noFzL caps
  | _ => true
def noFzL : List C → Bool
  | [] => true
  | c :: cs => noFz c && noFzL cs
end
def noFzR : List (List C) → Bool
  | [] => true
  | r :: rs => noFzL r && noFzR rs
mutual
def noFzT : T → Bool
  | .one c => noFz c
  | .agg cs => noFzL cs
  | .tup ts => noFzTs ts
  | .junk => true
def noFzTs : List T → Bool
  | [] => true
  | t :: ts => noFzT t && noFzTs ts
end
def noFzO : List (Option AObj) → Bool
  | [] => true
  | none :: r => noFzO r
  | some ob :: r => noFzR ob.elems && !ob.fz && noFzO r
mutual
theorem CR.sub {D D' : Nat → Prop} {h : Array Obj} (e : List ALoc) : ∀ (c : C) (y : Value), noFz c = true → CR D h e c y → CR D' h e c y
  | .bool b, y, _, H => by simpa [CR] using H
  | .int k n, y, _, H => by simpa [CR] using H
  | .str s, y, _, H => by simpa [CR] using H
  | .v x, y, _, H => by simpa [CR] using H
  | .fs [], y, _, H => by
    simp only [CR] at H ⊢
    obtain ⟨A, c, hy, hl, _⟩ := H
    exact ⟨A, c, hy, hl, .inl trivial⟩
  | .fs (_ :: _), y, hn, H => by simp [noFz] at hn
  | .fp cs, y, hn, H => by simp [noFz] at hn
  | .os id off len kc, y, hn, H => by simp only [CR] at H ⊢; exact H
  | .op id i off, y, hn, H => by simp only [CR] at H ⊢; exact H
  | .fn f caps, y, hn, H => by
    simp only [CR, noFz] at H hn ⊢
    obtain ⟨vs, hy, hl, hr⟩ := H
    exact ⟨vs, hy, hl, CRp.sub e caps _ hn hr⟩
  | .junk, y, _, H => by simpa [CR] using H
theorem CRp.sub {D D' : Nat → Prop} {h : Array Obj} (e : List ALoc) : ∀ (cs : List C) (vs : List Value), noFzL cs = true → CRp D h e cs vs → CRp D' h e cs vs
  | [], vs, _, H => by simp [CRp]
  | c :: cs, [], _, H => by simp [CRp] at H
  | c :: cs, v :: vs, hn, H => by
    simp only [CRp, noFzL, Bool.and_eq_true] at H hn ⊢
    exact ⟨CR.sub e c v hn.1 H.1, CRp.sub e cs vs hn.2 H.2⟩
end
theorem CRr.sub {D D' : Nat → Prop} {h : Array Obj} (e : List ALoc) (esz : Nat) : ∀ (rs : List (List C)) (vs : List Value), noFzR rs = true → CRr D h e esz rs vs → CRr D' h e esz rs vs
  | [], vs, _, H => by simp [CRr]
  | r :: rs, vs, hn, H => by
    simp only [CRr, noFzR, Bool.and_eq_true] at H hn ⊢
    exact ⟨H.1, CRp.sub e r vs hn.1 H.2.1, CRr.sub e esz rs _ hn.2 H.2.2⟩
mutual
theorem TR.sub {D D' : Nat → Prop} {h : Array Obj} (e : List ALoc) : ∀ (t : T) (y : Value), noFzT t = true → TR D h e t y → TR D' h e t y
  | .one c, y, hn, H => by simp only [TR, noFzT] at H hn ⊢; exact CR.sub e c y hn H
  | .agg cs, y, hn, H => by
    simp only [TR, noFzT] at H hn ⊢
    obtain ⟨vs, hy, hl, hr⟩ := H
    exact ⟨vs, hy, hl, CRp.sub e cs _ hn hr⟩
  | .tup ts, y, hn, H => by
    simp only [TR, noFzT] at H hn ⊢
    obtain ⟨vs, hy, hr⟩ := H
    exact ⟨vs, hy, TRs.sub e ts _ hn hr⟩
  | .junk, y, _, H => by simp [TR]
theorem TRs.sub {D D' : Nat → Prop} {h : Array Obj} (e : List ALoc) : ∀ (ts : List T) (vs : List Value), noFzTs ts = true → TRs D h e ts vs → TRs D' h e ts vs
  | [], vs, _, H => by simpa [TRs] using H
  | t :: ts, vs, hn, H => by
    simp only [TRs, noFzTs, Bool.and_eq_true] at H hn ⊢
    obtain ⟨x, r, hv, ht, hr⟩ := H
    exact ⟨x, r, hv, TR.sub e t x hn.1 ht, TRs.sub e ts r hn.2 hr⟩
end
theorem noFzO_get : ∀ {o : List (Option AObj)} {id : Nat} {ob : AObj}, noFzO o = true → o[id]? = some (some ob) → noFzR ob.elems = true ∧ ob.fz = false
  | [], id, ob, _, h => by simp at h
  | none :: r, 0, ob, _, h => by simp at h
  | none :: r, id + 1, ob, hn, h => by simp only [noFzO] at hn; exact noFzO_get hn (by simpa using h)
  | some x :: r, 0, ob, hn, h => by
    simp only [noFzO, Bool.and_eq_true, Bool.not_eq_true'] at hn
    simp at h; subst h; exact hn.1
  | some x :: r, id + 1, ob, hn, h => by
    simp only [noFzO, Bool.and_eq_true] at hn
    exact noFzO_get hn.2 (by simpa using h)
theorem SR.sub {D D' : Nat → Prop} {h : Array Obj} {e : List ALoc} {o : List (Option AObj)} (hn : noFzO o = true) (hD : ∀ b, D' b → D b) (H : SR D h e o) : SR D' h e o := by
  refine ⟨H.len, fun id ob hid => ?_, fun id b esz cap n he => ⟨(H.own id b _ _ _ he).1, fun hb => (H.own id b _ _ _ he).2 (hD _ hb)⟩, H.sep, fun b hb => H.dom b (hD b hb)⟩
  obtain ⟨a, cap, n, he, hnn, hcl, hrest⟩ := H.objs id ob hid
  obtain ⟨h1, h2⟩ := noFzO_get hn hid
  refine ⟨a, cap, n, he, hnn, hcl, ?_⟩
  cases a with
  | none => exact hrest
  | some b =>
    obtain ⟨q1, q2, cells, t, q3, q4, q5, q6⟩ := hrest
    exact ⟨q1, (fun hf => by rw [h2] at hf; cases hf), cells, t, q3, q4, q5, CRr.sub _ _ _ _ h1 q6⟩

/-- A call to which own objects are lent as data: what comes back must not speak of data. -/
theorem step_lend {ops : Array Oper} {i : Nat} {dst : Option Nat} {c : Operand} {xs : Array Operand} {ts : Array TypeId} {ty : TypeId} {pos : String} {aft : Array Edge} {g : Option (Nat × Bool)}
    {f : FuncId} {caps : List C} {args : List T} {o1 : List (Option AObj)} {Φ : Post} {σ1 : State} (js : List Nat)
    (ho : nthA ops i = some ⟨dst, .call ⟨.value c, xs, ts⟩, ty, pos, aft, g⟩) (hg : guardOf N ops g σ = .go) (hc : evalO σ c = .one (.fn f caps))
    (hnd : nodupB js = true) (hd : dstB N dst = true) (hlv : liveJs σ.o js = true)
    (hcs : callS np js σ (appT (evalArgs σ xs.toList) (onesT caps)) = some (σ1, args, o1)) (hcon : ACalls X f args o1 Φ) (hno : ∀ r o', Φ r o' → noFzT r = true ∧ noFzO o' = true) :
    StepA X N np ops i (fun id => id ∈ js) σ (fun σ2 => ∃ r o', Φ r o' ∧ retS N js dst σ r o' = some σ2) := by
  intro G D e a w Q K' H next
  rw [nthA_eq] at ho
  unfold callS at hcs
  obtain ⟨ρ, oo, κ⟩ := σ
  simp only at hcs
  split at hcs
  · cases hcs
  rename_i hge
  rw [forceO_eq] at hcs
  split at hcs
  · cases hcs
  rename_i hlv1
  simp only [Option.some.injEq, Prod.mk.injEq] at hcs
  obtain ⟨rfl, hargs, ho1⟩ := hcs
  unfold wpOp
  simp only [ho, (guardOf_spec H (ops := ops) (o := ⟨dst, .call ⟨.value c, xs, ts⟩, ty, pos, aft, g⟩)).1 hg, if_true]
  left
  obtain ⟨D1, H1, hD1⟩ := Rel.frz' _ hge H
  generalize fzL (needTs js oo 4 (appT (evalArgs ⟨ρ, oo, κ⟩ xs.toList) (onesT caps)) []) oo = of at *
  have hcv := H1.ev c
  have hc1 : evalO ⟨ρ, of, κ⟩ c = .one (.fn f caps) := by rw [← hc]; cases c <;> rfl
  rw [hc1] at hcv
  simp only [TR, CR] at hcv
  obtain ⟨cv, hcv, hcl, hcr⟩ := hcv
  have hea : ∀ xs, evalArgs ⟨ρ, of, κ⟩ xs = evalArgs ⟨ρ, oo, κ⟩ xs := by
    intro xs
    induction xs with
    | nil => rfl
    | cons x xs ih => simp only [evalArgs, ih]; congr 1
  have hargs0 : TRs D1 w.heap e (appT (evalArgs ⟨ρ, oo, κ⟩ xs.toList) (onesT caps)) (xs.toList.map a.eval ++ cv.toList) := by
    rw [appT_eq]
    have := evalArgs_spec H1 xs.toList
    rw [hea] at this
    exact this.append (onesT_spec (by simpa using hcl) hcr)
  have hargs1 := reTs_spec (e1 := pickE e js) H1.sr (fun id j l => pick_map id j l) 4 _ _ hargs0
  simp only at hargs1
  rw [hargs] at hargs1
  have hsr1 := H1.sr.pick hnd 4
  simp only at hsr1
  rw [ho1] at hsr1
  have hlive := liveJs_spec hlv1
  unfold Oper.wp
  rw [run_call rfl hcv hcon.1]
  simp only [Oper.upon]
  have hC := hcon.2 D1 (pickE e js) w (xs.toList.map a.eval ++ cv.toList) hsr1 hargs1 (fun id b esz cap n he hD => by
    rw [pickE_get] at he
    cases hi : js[id]? with
    | none => rw [hi] at he; simp at he
    | some id' =>
      rw [hi] at he
      simp only [Option.map_some, List.getD, Option.some.injEq] at he
      cases hid : e[id']? with
      | none => rw [hid] at he; simp at he
      | some l =>
        rw [hid] at he; simp at he; subst he
        obtain ⟨ob, ho', hf⟩ := hlive id' (List.mem_of_getElem? hi)
        obtain ⟨ob', ho'', hf'⟩ := (H1.sr.own id' b _ _ _ hid).2 hD
        rw [ho'] at ho''; simp at ho''; subst ho''; rw [hf] at hf'; cases hf')
  have hvals : (xs.toList.map a.eval ++ cv.toList).toArray = xs.map a.eval ++ cv := by
    apply Array.ext'; simp
  rw [hvals] at hC
  refine hC.mono ?_
  rintro en w' ⟨v, r, o', D', e', rfl, hΦ, htr, hsr', hext, hnew, hold, hkeep, hlen⟩
  obtain ⟨hno1, hno2⟩ := hno r o' hΦ
  have hsr2 : SR (fun b => D' b ∧ (b < w.heap.size → D b)) w'.heap e' o' := hsr'.sub hno2 (fun b hb => hb.1)
  have htr2 : TR (fun b => D' b ∧ (b < w.heap.size → D b)) w'.heap e' r v := TR.sub _ _ _ hno1 htr
  obtain ⟨D2, e2, H2, hT2, hP2⟩ := H.called hnd (liveJs_spec hlv) hsr2 hext hnew (fun b hb hlt => hb.2 hlt) hkeep hlen
  have hx := hT2 r v htr2
  have H3 := H2.putv hx (putS_eq hd)
  refine next D2 e2 _ _ w' H3 hP2 ⟨r, o', hΦ, ?_⟩
  simp only [retS, lenK_eq, Nat.zero_add, forceO_eq, appO_eq]
  exact putS_eq hd

theorem step_did {ops : Array Oper} {i : Nat} {kd : Kd} {o : Oper} (ho : nthA ops i = some o) (hg : guardOf N ops o.guard σ = .go)
    (hd : ∀ {G : Ctx} {D : Nat → Prop} {e : List ALoc} {a : Act} {w : World}, Rel N np G D e σ a w → Did X N np G D e o a w kd σ σ') :
    StepA X N np ops i (mdOf kd) σ (fun σ2 => σ2 = σ') := by
  intro G D e a w Q K' H next
  rw [nthA_eq] at ho
  unfold wpOp
  simp only [ho, (guardOf_spec H (ops := ops)).1 hg, if_true]
  left
  obtain ⟨D', e', n, v, w', hr, hn, H', hP⟩ := (hd H).out H
  unfold Oper.wp
  rw [hr]
  rcases hn with rfl | ⟨rfl, rfl⟩
  · simp only [Oper.upon]; exact next _ _ _ _ _ H' hP rfl
  · simp only [Oper.upon]; exact next _ _ _ _ _ H' hP rfl
end
end Go.Proofs.Ytkjbjgndinjdpaa
