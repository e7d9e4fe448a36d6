/- Part 2 of the proof: an abstract machine over the model; contracts of the functions that the law reaches. -/
import Derived.Test.YtbenojnoepkgbaaDoorKEPS1
set_option linter.unusedVariables false
set_option linter.unusedSimpArgs false
namespace Go.Proofs.YtbenojnoepkgbaaDoor
open Go
set_option maxRecDepth 100000
set_option maxHeartbeats 1000000

def foldC (f : C → List Nat → List Nat) : List C → List Nat → List Nat
  | [], acc => acc
  | c :: cs, acc => foldC f cs (f c acc)

def foldR (f : C → List Nat → List Nat) : List (List C) → List Nat → List Nat
  | [], acc => acc
  | r :: rs, acc => foldR f rs (foldC f r acc)

/-- The objects that an argument speaks of, but for those that are passed. -/
def needC (js : List Nat) (o : List (Option AObj)) : Nat → C → List Nat → List Nat
  | 0, _, acc => acc
  | n + 1, c, acc => match c with
    | .os id _ _ _ => match memB id js with
      | true => acc
      | false => match nth o id with
        | some (some ⟨_, elems, false, _, _⟩) => foldR (needC js o n) elems (id :: acc)
        | _ => id :: acc
    | .op id _ _ => match memB id js with
      | true => acc
      | false => match nth o id with
        | some (some ⟨_, elems, false, _, _⟩) => foldR (needC js o n) elems (id :: acc)
        | _ => id :: acc
    | .fn _ caps => foldC (needC js o n) caps acc
    | _ => acc

abbrev needL (js : List Nat) (o : List (Option AObj)) (n : Nat) : List C → List Nat → List Nat := foldC (needC js o n)

mutual
def needT (js : List Nat) (o : List (Option AObj)) (n : Nat) : T → List Nat → List Nat
  | .one c, acc => needC js o n c acc
  | .agg cs, acc => needL js o n cs acc
  | .tup ts, acc => needTs js o n ts acc
  | .junk, acc => acc
def needTs (js : List Nat) (o : List (Option AObj)) (n : Nat) : List T → List Nat → List Nat
  | [], acc => acc
  | t :: ts, acc => needTs js o n ts (needT js o n t acc)
end

def fz1 (o : List (Option AObj)) (id : Nat) : List (Option AObj) := match nth o id with
  | some (some ⟨esz, el, cl, _, bx⟩) => setNth o id (some ⟨esz, el, cl, true, bx⟩)
  | _ => o

def fzL : List Nat → List (Option AObj) → List (Option AObj)
  | [], o => o
  | id :: ids, o => fzL ids (fz1 o id)

def allGe (np : Nat) : List Nat → Bool
  | [] => true
  | id :: ids => match Nat.ble np id with
    | true => allGe np ids
    | false => false

def evalArgs (σ : State) : List Operand → List T
  | [] => []
  | x :: xs => evalO σ x :: evalArgs σ xs

def onesT : List C → List T
  | [] => []
  | c :: cs => .one c :: onesT cs

def appT : List T → List T → List T
  | [], b => b
  | x :: a, b => x :: appT a b

theorem appT_eq : ∀ (a b : List T), appT a b = a ++ b
  | [], b => rfl
  | x :: a, b => by simp [appT, appT_eq a b]

def putS (dst : Option Nat) (x : T) (σ : State) : State := match dst, σ with
  | none, σ => σ
  | some d, ⟨ρ, o, κ⟩ => ⟨(d, x) :: ρ, o, κ⟩

def dstB (N : Nat) : Option Nat → Bool
  | none => true
  | some d => Nat.blt d N

theorem putS_eq {N : Nat} {dst : Option Nat} {x : T} {σ : State} (h : dstB N dst = true) : putT N dst x σ = some (putS dst x σ) := by
  cases dst with
  | none => rfl
  | some d => simp only [dstB] at h; cases σ; simp [putT, putS, h, forceT_eq]

def liveJs (o : List (Option AObj)) : List Nat → Bool
  | [] => true
  | id :: ids => match nth o id with
    | some (some ⟨_, _, _, false, _⟩) => liveJs o ids
    | _ => false

section

variable {X : Pk} {N np : Nat} {G : Ctx} {D : Nat → Prop} {e : List ALoc} {σ σ' : State} {a : Act} {w : World} {K : KP}

theorem pickE_new {e : List ALoc} {js : List Nat} {P : Nat → Prop} (h : ∀ (id : Nat) (b : Addr) (esz cap n : Nat), e[id]? = some (.live (some b) esz cap n) → P b.block) :
    ∀ (id : Nat) (b : Addr) (esz cap n : Nat), (pickE e js)[id]? = some (.live (some b) esz cap n) → P b.block := fun id b esz cap n he => by
  rw [pickE_get] at he
  cases hi : js[id]? with
  | none => rw [hi] at he; simp at he
  | some id' =>
    rw [hi] at he
    simp only [Option.map_some, List.getD, Option.some.injEq] at he
    cases hid : e[id']? with
    | none => rw [hid] at he; simp at he
    | some l => rw [hid] at he; simp at he; subst he; exact h id' b _ _ _ hid

theorem liveJs_spec : ∀ {js : List Nat} {o : List (Option AObj)}, liveJs o js = true → ∀ id ∈ js, ∃ ob, o[id]? = some (some ob) ∧ ob.fz = false
  | [], o, _, id, hid => by simp at hid
  | j :: js, o, h, id, hid => by
    simp only [liveJs] at h
    split at h
    · rename_i esz el cl bx hn
      rcases List.mem_cons.1 hid with rfl | hid
      · rw [nth_eq] at hn; exact ⟨_, hn, rfl⟩
      · exact liveJs_spec h id hid
    · cases h

theorem Rel.frz : ∀ (ids : List Nat) {σ : State} {D : Nat → Prop}, allGe np ids = true → Rel N np G D e σ a w → ∃ D', Rel N np G D' e ⟨σ.ρ, fzL ids σ.o, σ.k⟩ a w
  | [], σ, D, _, H => ⟨D, H⟩
  | id :: ids, σ, D, hg, H => by
    simp only [allGe] at hg
    split at hg
    · rename_i hb
      have hge := Nat.le_of_ble_eq_true hb
      have h1 : ∃ D', Rel N np G D' e ⟨σ.ρ, fz1 σ.o id, σ.k⟩ a w := by
        unfold fz1
        split
        · rename_i esz el cl fz bx hn
          rw [nth_eq] at hn
          rw [setNth_eq]
          exact H.freeze hn hge
        · exact ⟨D, H⟩
      obtain ⟨D', H'⟩ := h1
      exact Rel.frz ids hg H'
    · cases hg

theorem Rel.frz' : ∀ (ids : List Nat) {σ : State} {D : Nat → Prop}, allGe np ids = true → Rel N np G D e σ a w → ∃ D', Rel N np G D' e ⟨σ.ρ, fzL ids σ.o, σ.k⟩ a w ∧ (∀ b, D b → D' b)
  | [], σ, D, _, H => ⟨D, H, fun _ h => h⟩
  | id :: ids, σ, D, hg, H => by
    simp only [allGe] at hg
    split at hg
    · rename_i hb
      have hge := Nat.le_of_ble_eq_true hb
      have h1 : ∃ D', Rel N np G D' e ⟨σ.ρ, fz1 σ.o id, σ.k⟩ a w ∧ (∀ b, D b → D' b) := by
        unfold fz1
        split
        · rename_i esz el cl fz bx hn
          rw [nth_eq] at hn
          rw [setNth_eq]
          exact H.freeze' hn hge
        · exact ⟨D, H, fun _ h => h⟩
      obtain ⟨D', H', h'⟩ := h1
      obtain ⟨D2, H2, h2⟩ := Rel.frz' ids hg H'
      exact ⟨D2, H2, fun b hb => h2 b (h' b hb)⟩
    · cases hg

theorem Weak.fzL (ids : List Nat) (h : allGe np ids = true) : Weak N np σ ⟨σ.ρ, fzL ids σ.o, σ.k⟩ := fun H => by
  obtain ⟨D', H'⟩ := Rel.frz ids h H
  exact ⟨D', _, H'⟩

theorem evalArgs_spec (H : Rel N np G D e σ a w) : ∀ (xs : List Operand), TRs D w.heap e (evalArgs σ xs) (xs.map a.eval)
  | [] => by simp [evalArgs, TRs]
  | x :: xs => by simp only [evalArgs, List.map_cons, TRs]; exact ⟨_, _, rfl, H.ev x, evalArgs_spec H xs⟩

theorem TRs.append {h : Array Obj} : ∀ {ts us : List T} {vs xs : List Value}, TRs D h e ts vs → TRs D h e us xs → TRs D h e (ts ++ us) (vs ++ xs)
  | [], us, vs, xs, H, h1 => by simp only [TRs] at H; subst H; simpa using h1
  | t :: ts, us, vs, xs, H, h1 => by
    simp only [TRs] at H
    obtain ⟨x, r, rfl, h2, h3⟩ := H
    simp only [List.cons_append, TRs]
    exact ⟨x, r ++ xs, rfl, h2, TRs.append h3 h1⟩

theorem onesT_spec {h : Array Obj} : ∀ {cs : List C} {vs : List Value}, vs.length = cs.length → CRp D h e cs vs → TRs D h e (onesT cs) vs
  | [], vs, hl, _ => by simp at hl; subst hl; simp [onesT, TRs]
  | c :: cs, [], hl, _ => by simp at hl
  | c :: cs, v :: vs, hl, H => by
    simp only [CRp] at H
    simp only [onesT, TRs]
    exact ⟨v, vs, rfl, by simpa only [TR] using H.1, onesT_spec (by simpa using hl) H.2⟩

theorem run_call {P : Program} {o : Oper} {c : Operand} {xs : Array Operand} {ts : Array TypeId} {f : FuncId} {caps : Array Value} (hop : o.op = .call ⟨.value c, xs, ts⟩) (hv : a.eval c = .func (.func f) #[] caps) (hc : Callable P f) :
    (execOp a.eval o).run P w = .ok (.enter f (xs.map a.eval ++ caps)) w := by
  obtain ⟨fn, hf, hb, hn⟩ := hc
  have h1 : (callFunc f (xs.map a.eval ++ caps)).run P w = .ok (.enter f (xs.map a.eval ++ caps)) w := by
    simp only [callFunc, Sem.run_bind, run_program, Result.andThen_ok, hf, hn, Bool.false_eq_true, if_false, hb]
    rfl
  simp only [execOp, hop, resolve, hv, Deferred.ofValue, Sem.run_bind, Sem.run_pure, Result.andThen_ok, invoke]
  simpa using h1

/-- One operation of a region, from whatever memory: what it comes to, and what it leaves alone. -/
def StepA (X : Pk) (N np : Nat) (ops : Array Oper) (i : Nat) (md : Nat → Prop) (σ : State) (Post : State → Prop) : Prop :=
  ∀ {G : Ctx} {D : Nat → Prop} {e : List ALoc} {a : Act} {w : World} {Q : Exit → Act → World → Prop} {K' : Act → World → Prop}, Rel N np G D e σ a w →
    (∀ D' e' σ' a' w', Rel N np G D' e' σ' a' w' → Pres md D e w.heap D' e' w'.heap → Post σ' → K' a' w') → wpOp X.P ops Q i K' a w

theorem goal_step {ops : Array Oper} {i : Nat} {rest : List Nat} {k : List It} {md : Nat → Prop} {Post : State → Prop} (hs : StepA X N np ops i md σ Post) (h : ∀ σ', Post σ' → goal X N np K (.ops ops rest k) σ') :
    goal X N np K (.ops ops (i :: rest) k) σ := by
  intro G D e a w H
  rw [wpOps_cons]
  exact hs H fun D' e' σ' a' w' H' _ hP => h σ' hP G D' e' a' w' H'

/-- The state that a callee sees, and the one behind its return. -/
def callS (np : Nat) (js : List Nat) (σ : State) (ts : List T) : Option (State × List T × List (Option AObj)) :=
  match σ with
  | ⟨ρ, o, κ⟩ => match allGe np (needTs js o 4 ts []) with
    | false => none
    | true => forceO (fzL (needTs js o 4 ts []) o) fun o1 => match liveJs o1 js with
      | false => none
      | true => some (⟨ρ, o1, κ⟩, reTs (fun id => idxOf js id 0) o1 4 ts, pickO o1 4 js)

def appO : List (Option AObj) → List (Option AObj) → List (Option AObj)
  | [], b => b
  | x :: a, b => x :: appO a b

theorem appO_eq : ∀ (a b : List (Option AObj)), appO a b = a ++ b
  | [], b => rfl
  | x :: a, b => by simp [appO, appO_eq a b]

def retS (N : Nat) (js : List Nat) (dst : Option Nat) (σ1 : State) (r : T) (o' : List (Option AObj)) : Option State :=
  match σ1 with
  | ⟨ρ, o1, κ⟩ => lenK o1 0 fun n => forceO (appO (updJs (rnOf js n) o1 js o') (mapO (rnOf js n) (dropN js.length o'))) fun o2 => putT N dst (renT (rnOf js n) r) ⟨ρ, o2, κ⟩

theorem step_call {ops : Array Oper} {i : Nat} {dst : Option Nat} {c : Operand} {xs : Array Operand} {ts : Array TypeId} {ty : TypeId} {pos : String} {aft : Array Edge} {g : Option (Nat × Bool)}
    {f : FuncId} {caps : List C} {σ1 : State} {args : List T} {o1 : List (Option AObj)} {Φ : Post} (js : List Nat)
    (ho : nthA ops i = some ⟨dst, .call ⟨.value c, xs, ts⟩, ty, pos, aft, g⟩) (hg : guardOf N ops g σ = .go) (hc : evalO σ c = .one (.fn f caps))
    (hnd : nodupB js = true) (hd : dstB N dst = true)
    (hcs : callS np js σ (appT (evalArgs σ xs.toList) (onesT caps)) = some (σ1, args, o1)) (hcon : ACalls X f args o1 Φ) :
    StepA X N np ops i (fun id => id ∈ js) σ (fun σ2 => ∃ r o', Φ r o' ∧ retS N js dst σ1 r o' = some σ2) := by
  intro G D e a w Q K' H next
  rw [nthA_eq] at ho
  unfold callS at hcs
  obtain ⟨ρ, oo, κ⟩ := σ
  simp only at hcs
  split at hcs
  · cases hcs
  rename_i hge
  rw [forceO_eq] at hcs
  split at hcs
  · cases hcs
  rename_i hlv
  simp only [Option.some.injEq, Prod.mk.injEq] at hcs
  obtain ⟨rfl, hargs, ho1⟩ := hcs
  unfold wpOp
  simp only [ho, (guardOf_spec H (ops := ops) (o := ⟨dst, .call ⟨.value c, xs, ts⟩, ty, pos, aft, g⟩)).1 hg, if_true]
  left
  obtain ⟨D1, H1, hD1⟩ := Rel.frz' _ hge H
  generalize fzL (needTs js oo 4 (appT (evalArgs ⟨ρ, oo, κ⟩ xs.toList) (onesT caps)) []) oo = of at *
  have hcv := H1.ev c
  have hc1 : evalO ⟨ρ, of, κ⟩ c = .one (.fn f caps) := by rw [← hc]; cases c <;> rfl
  rw [hc1] at hcv
  simp only [TR, CR] at hcv
  obtain ⟨cv, hcv, hcl, hcr⟩ := hcv
  have hea : ∀ xs, evalArgs ⟨ρ, of, κ⟩ xs = evalArgs ⟨ρ, oo, κ⟩ xs := by
    intro xs
    induction xs with
    | nil => rfl
    | cons x xs ih => simp only [evalArgs, ih]; congr 1
  have hargs0 : TRs D1 w.heap e (appT (evalArgs ⟨ρ, oo, κ⟩ xs.toList) (onesT caps)) (xs.toList.map a.eval ++ cv.toList) := by
    rw [appT_eq]
    have := evalArgs_spec H1 xs.toList
    rw [hea] at this
    exact this.append (onesT_spec (by simpa using hcl) hcr)
  have hargs1 := reTs_spec (e1 := pickE e js) H1.sr (fun id j l => pick_map id j l) 4 _ _ hargs0
  simp only at hargs1
  rw [hargs] at hargs1
  have hsr1 := H1.sr.pick hnd 4
  simp only at hsr1
  rw [ho1] at hsr1
  have hlive := liveJs_spec hlv
  unfold Oper.wp
  rw [run_call rfl hcv hcon.1]
  simp only [Oper.upon]
  have hC := hcon.2 D1 (pickE e js) w (xs.toList.map a.eval ++ cv.toList) (G.gl.next H1.ext (pickE_new (P := fun n => Wof G.e0 n ∨ G.w0.heap.size ≤ n) H1.new)) hsr1 hargs1 (fun id b esz cap n he hD => by
    rw [pickE_get] at he
    cases hi : js[id]? with
    | none => rw [hi] at he; simp at he
    | some id' =>
      rw [hi] at he
      simp only [Option.map_some, List.getD, Option.some.injEq] at he
      cases hid : e[id']? with
      | none => rw [hid] at he; simp at he
      | some l =>
        rw [hid] at he; simp at he; subst he
        obtain ⟨ob, ho', hf⟩ := hlive id' (List.mem_of_getElem? hi)
        obtain ⟨ob', ho'', hf'⟩ := (H1.sr.own id' b _ _ _ hid).2 hD
        rw [ho'] at ho''; simp at ho''; subst ho''; rw [hf] at hf'; cases hf')
  have hvals : (xs.toList.map a.eval ++ cv.toList).toArray = xs.map a.eval ++ cv := by
    apply Array.ext'; simp
  rw [hvals] at hC
  refine hC.mono ?_
  rintro en w' ⟨v, r, o', D', e', rfl, hΦ, htr, hsr', hext, hnew, hold, hkeep, hlen⟩
  obtain ⟨D2, e2, H2, hT2, hP2⟩ := H1.called hnd hlive hsr' hext hnew hold hkeep hlen
  have hx := hT2 r v htr
  have H3 := H2.putv hx (putS_eq hd)
  refine next D2 e2 _ _ w' H3 ⟨fun b hb => hP2.1 b (hD1 b hb), hP2.2⟩ ⟨r, o', hΦ, ?_⟩
  simp only [retS, lenK_eq, Nat.zero_add, forceO_eq, appO_eq]
  exact putS_eq hd

mutual
def noFz : C → Bool
  | .fs (_ :: _) | .fp _ => false
  | .fn _ caps => noFzL caps
  | _ => true
def noFzL : List C → Bool
  | [] => true
  | c :: cs => noFz c && noFzL cs
end

def noFzR : List (List C) → Bool
  | [] => true
  | r :: rs => noFzL r && noFzR rs

mutual
def noFzT : T → Bool
  | .one c => noFz c
  | .agg cs => noFzL cs
  | .tup ts => noFzTs ts
  | .junk => true
def noFzTs : List T → Bool
  | [] => true
  | t :: ts => noFzT t && noFzTs ts
end

def noFzO : List (Option AObj) → Bool
  | [] => true
  | none :: r => noFzO r
  | some ob :: r => noFzR ob.elems && !ob.fz && noFzO r

mutual
theorem CR.sub {D D' : Nat → Prop} {h : Array Obj} (e : List ALoc) : ∀ (c : C) (y : Value), noFz c = true → CR D h e c y → CR D' h e c y
  | .bool b, y, _, H => by simpa [CR] using H
  | .int k n, y, _, H => by simpa [CR] using H
  | .str s, y, _, H => by simpa [CR] using H
  | .v x, y, _, H => by simpa [CR] using H
  | .fs [], y, _, H => by
    simp only [CR] at H ⊢
    obtain ⟨A, c, hy, hl, _⟩ := H
    exact ⟨A, c, hy, hl, .inl trivial⟩
  | .fs (_ :: _), y, hn, H => by simp [noFz] at hn
  | .fp cs, y, hn, H => by simp [noFz] at hn
  | .os id off len kc, y, hn, H => by simp only [CR] at H ⊢; exact H
  | .op id i off, y, hn, H => by simp only [CR] at H ⊢; exact H
  | .fn f caps, y, hn, H => by
    simp only [CR, noFz] at H hn ⊢
    obtain ⟨vs, hy, hl, hr⟩ := H
    exact ⟨vs, hy, hl, CRp.sub e caps _ hn hr⟩
  | .junk, y, _, H => by simpa [CR] using H
theorem CRp.sub {D D' : Nat → Prop} {h : Array Obj} (e : List ALoc) : ∀ (cs : List C) (vs : List Value), noFzL cs = true → CRp D h e cs vs → CRp D' h e cs vs
  | [], vs, _, H => by simp [CRp]
  | c :: cs, [], _, H => by simp [CRp] at H
  | c :: cs, v :: vs, hn, H => by
    simp only [CRp, noFzL, Bool.and_eq_true] at H hn ⊢
    exact ⟨CR.sub e c v hn.1 H.1, CRp.sub e cs vs hn.2 H.2⟩
end

theorem CRr.sub {D D' : Nat → Prop} {h : Array Obj} (e : List ALoc) (esz : Nat) : ∀ (rs : List (List C)) (vs : List Value), noFzR rs = true → CRr D h e esz rs vs → CRr D' h e esz rs vs
  | [], vs, _, H => by simp [CRr]
  | r :: rs, vs, hn, H => by
    simp only [CRr, noFzR, Bool.and_eq_true] at H hn ⊢
    exact ⟨H.1, CRp.sub e r vs hn.1 H.2.1, CRr.sub e esz rs _ hn.2 H.2.2⟩

mutual
theorem TR.sub {D D' : Nat → Prop} {h : Array Obj} (e : List ALoc) : ∀ (t : T) (y : Value), noFzT t = true → TR D h e t y → TR D' h e t y
  | .one c, y, hn, H => by simp only [TR, noFzT] at H hn ⊢; exact CR.sub e c y hn H
  | .agg cs, y, hn, H => by
    simp only [TR, noFzT] at H hn ⊢
    obtain ⟨vs, hy, hl, hr⟩ := H
    exact ⟨vs, hy, hl, CRp.sub e cs _ hn hr⟩
  | .tup ts, y, hn, H => by
    simp only [TR, noFzT] at H hn ⊢
    obtain ⟨vs, hy, hr⟩ := H
    exact ⟨vs, hy, TRs.sub e ts _ hn hr⟩
  | .junk, y, _, H => by simp [TR]
theorem TRs.sub {D D' : Nat → Prop} {h : Array Obj} (e : List ALoc) : ∀ (ts : List T) (vs : List Value), noFzTs ts = true → TRs D h e ts vs → TRs D' h e ts vs
  | [], vs, _, H => by simpa [TRs] using H
  | t :: ts, vs, hn, H => by
    simp only [TRs, noFzTs, Bool.and_eq_true] at H hn ⊢
    obtain ⟨x, r, hv, ht, hr⟩ := H
    exact ⟨x, r, hv, TR.sub e t x hn.1 ht, TRs.sub e ts r hn.2 hr⟩
end

theorem noFzO_get : ∀ {o : List (Option AObj)} {id : Nat} {ob : AObj}, noFzO o = true → o[id]? = some (some ob) → noFzR ob.elems = true ∧ ob.fz = false
  | [], id, ob, _, h => by simp at h
  | none :: r, 0, ob, _, h => by simp at h
  | none :: r, id + 1, ob, hn, h => by simp only [noFzO] at hn; exact noFzO_get hn (by simpa using h)
  | some x :: r, 0, ob, hn, h => by
    simp only [noFzO, Bool.and_eq_true, Bool.not_eq_true'] at hn
    simp at h; subst h; exact hn.1
  | some x :: r, id + 1, ob, hn, h => by
    simp only [noFzO, Bool.and_eq_true] at hn
    exact noFzO_get hn.2 (by simpa using h)

theorem SR.sub {D D' : Nat → Prop} {h : Array Obj} {e : List ALoc} {o : List (Option AObj)} (hn : noFzO o = true) (hD : ∀ b, D' b → D b) (H : SR D h e o) : SR D' h e o := by
  refine ⟨H.len, fun id ob hid => ?_, fun id b esz cap n he => ⟨(H.own id b _ _ _ he).1, fun hb => (H.own id b _ _ _ he).2 (hD _ hb)⟩, H.sep, fun b hb => H.dom b (hD b hb)⟩
  obtain ⟨a, cap, n, he, hnn, hcl, hrest⟩ := H.objs id ob hid
  obtain ⟨h1, h2⟩ := noFzO_get hn hid
  refine ⟨a, cap, n, he, hnn, hcl, ?_⟩
  cases a with
  | none => exact hrest
  | some b =>
    obtain ⟨q1, q2, cells, t, q3, q4, q5, q6⟩ := hrest
    exact ⟨q1, (fun hf => by rw [h2] at hf; cases hf), cells, t, q3, q4, q5, CRr.sub _ _ _ _ h1 q6⟩

/-- A call to which own objects are lent zs data: what comes back must not speak of data. -/
theorem step_lend {ops : Array Oper} {i : Nat} {dst : Option Nat} {c : Operand} {xs : Array Operand} {ts : Array TypeId} {ty : TypeId} {pos : String} {aft : Array Edge} {g : Option (Nat × Bool)}
    {f : FuncId} {caps : List C} {args : List T} {o1 : List (Option AObj)} {Φ : Post} {σ1 : State} (js : List Nat)
    (ho : nthA ops i = some ⟨dst, .call ⟨.value c, xs, ts⟩, ty, pos, aft, g⟩) (hg : guardOf N ops g σ = .go) (hc : evalO σ c = .one (.fn f caps))
    (hnd : nodupB js = true) (hd : dstB N dst = true) (hlv : liveJs σ.o js = true)
    (hcs : callS np js σ (appT (evalArgs σ xs.toList) (onesT caps)) = some (σ1, args, o1)) (hcon : ACalls X f args o1 Φ) (hno : ∀ r o', Φ r o' → noFzT r = true ∧ noFzO o' = true) :
    StepA X N np ops i (fun id => id ∈ js) σ (fun σ2 => ∃ r o', Φ r o' ∧ retS N js dst σ r o' = some σ2) := by
  intro G D e a w Q K' H next
  rw [nthA_eq] at ho
  unfold callS at hcs
  obtain ⟨ρ, oo, κ⟩ := σ
  simp only at hcs
  split at hcs
  · cases hcs
  rename_i hge
  rw [forceO_eq] at hcs
  split at hcs
  · cases hcs
  rename_i hlv1
  simp only [Option.some.injEq, Prod.mk.injEq] at hcs
  obtain ⟨rfl, hargs, ho1⟩ := hcs
  unfold wpOp
  simp only [ho, (guardOf_spec H (ops := ops) (o := ⟨dst, .call ⟨.value c, xs, ts⟩, ty, pos, aft, g⟩)).1 hg, if_true]
  left
  obtain ⟨D1, H1, hD1⟩ := Rel.frz' _ hge H
  generalize fzL (needTs js oo 4 (appT (evalArgs ⟨ρ, oo, κ⟩ xs.toList) (onesT caps)) []) oo = of at *
  have hcv := H1.ev c
  have hc1 : evalO ⟨ρ, of, κ⟩ c = .one (.fn f caps) := by rw [← hc]; cases c <;> rfl
  rw [hc1] at hcv
  simp only [TR, CR] at hcv
  obtain ⟨cv, hcv, hcl, hcr⟩ := hcv
  have hea : ∀ xs, evalArgs ⟨ρ, of, κ⟩ xs = evalArgs ⟨ρ, oo, κ⟩ xs := by
    intro xs
    induction xs with
    | nil => rfl
    | cons x xs ih => simp only [evalArgs, ih]; congr 1
  have hargs0 : TRs D1 w.heap e (appT (evalArgs ⟨ρ, oo, κ⟩ xs.toList) (onesT caps)) (xs.toList.map a.eval ++ cv.toList) := by
    rw [appT_eq]
    have := evalArgs_spec H1 xs.toList
    rw [hea] at this
    exact this.append (onesT_spec (by simpa using hcl) hcr)
  have hargs1 := reTs_spec (e1 := pickE e js) H1.sr (fun id j l => pick_map id j l) 4 _ _ hargs0
  simp only at hargs1
  rw [hargs] at hargs1
  have hsr1 := H1.sr.pick hnd 4
  simp only at hsr1
  rw [ho1] at hsr1
  have hlive := liveJs_spec hlv1
  unfold Oper.wp
  rw [run_call rfl hcv hcon.1]
  simp only [Oper.upon]
  have hC := hcon.2 D1 (pickE e js) w (xs.toList.map a.eval ++ cv.toList) (G.gl.next H1.ext (pickE_new (P := fun n => Wof G.e0 n ∨ G.w0.heap.size ≤ n) H1.new)) hsr1 hargs1 (fun id b esz cap n he hD => by
    rw [pickE_get] at he
    cases hi : js[id]? with
    | none => rw [hi] at he; simp at he
    | some id' =>
      rw [hi] at he
      simp only [Option.map_some, List.getD, Option.some.injEq] at he
      cases hid : e[id']? with
      | none => rw [hid] at he; simp at he
      | some l =>
        rw [hid] at he; simp at he; subst he
        obtain ⟨ob, ho', hf⟩ := hlive id' (List.mem_of_getElem? hi)
        obtain ⟨ob', ho'', hf'⟩ := (H1.sr.own id' b _ _ _ hid).2 hD
        rw [ho'] at ho''; simp at ho''; subst ho''; rw [hf] at hf'; cases hf')
  have hvals : (xs.toList.map a.eval ++ cv.toList).toArray = xs.map a.eval ++ cv := by
    apply Array.ext'; simp
  rw [hvals] at hC
  refine hC.mono ?_
  rintro en w' ⟨v, r, o', D', e', rfl, hΦ, htr, hsr', hext, hnew, hold, hkeep, hlen⟩
  obtain ⟨hno1, hno2⟩ := hno r o' hΦ
  have hsr2 : SR (fun b => D' b ∧ (b < w.heap.size → D b)) w'.heap e' o' := hsr'.sub hno2 (fun b hb => hb.1)
  have htr2 : TR (fun b => D' b ∧ (b < w.heap.size → D b)) w'.heap e' r v := TR.sub _ _ _ hno1 htr
  obtain ⟨D2, e2, H2, hT2, hP2⟩ := H.called hnd (liveJs_spec hlv) hsr2 hext hnew (fun b hb hlt => hb.2 hlt) hkeep hlen
  have hx := hT2 r v htr2
  have H3 := H2.putv hx (putS_eq hd)
  refine next D2 e2 _ _ w' H3 hP2 ⟨r, o', hΦ, ?_⟩
  simp only [retS, lenK_eq, Nat.zero_add, forceO_eq, appO_eq]
  exact putS_eq hd

theorem step_did {ops : Array Oper} {i : Nat} {kd : Kd} {o : Oper} (ho : nthA ops i = some o) (hg : guardOf N ops o.guard σ = .go)
    (hd : ∀ {G : Ctx} {D : Nat → Prop} {e : List ALoc} {a : Act} {w : World}, Rel N np G D e σ a w → Did X N np G D e o a w kd σ σ') :
    StepA X N np ops i (mdOf kd) σ (fun σ2 => σ2 = σ') := by
  intro G D e a w Q K' H next
  rw [nthA_eq] at ho
  unfold wpOp
  simp only [ho, (guardOf_spec H (ops := ops)).1 hg, if_true]
  left
  obtain ⟨D', e', n, v, w', hr, hn, H', hP⟩ := (hd H).out H
  unfold Oper.wp
  rw [hr]
  rcases hn with rfl | ⟨rfl, rfl⟩
  · simp only [Oper.upon]; exact next _ _ _ _ _ H' hP rfl
  · simp only [Oper.upon]; exact next _ _ _ _ _ H' hP rfl

end

section

variable {X : Pk} {N np : Nat} {K : KP} {σ σ' : State} {ops : Array Oper} {i : Nat} {rest : List Nat} {k : List It} {dst : Option Nat} {ty : TypeId} {pos : String} {aft : Array Edge} {g : Option (Nat × Bool)}

/-- From whatever memory: the operation does what 'σ'' tells. -/
def DidA (X : Pk) (N np : Nat) (o : Oper) (kd : Kd) (σ σ' : State) : Prop :=
  ∀ {G : Ctx} {D : Nat → Prop} {e : List ALoc} {a : Act} {w : World}, Rel N np G D e σ a w → Did X N np G D e o a w kd σ σ'

theorem goal_did {kd : Kd} {o : Oper} (ho : nthA ops i = some o) (hg : guardOf N ops o.guard σ = .go) (hd : DidA X N np o kd σ σ') (h : goal X N np K (.ops ops rest k) σ') : goal X N np K (.ops ops (i :: rest) k) σ := by
  rw [nthA_eq] at ho
  exact AOps_did ho (fun H => (guardOf_spec H (ops := ops)).1 hg) hd h

theorem dA_step {o : Oper} (hp : stepOp X.L N o.dst o.op σ = some σ') : DidA X N np o (kindOf o.op σ) σ σ' := fun H => did_step H hp

theorem run_indexAt {P : Program} {t s : Nat} {ti te : TI} (hti : TIok P t ti) (hk : ti.kind = 2) (hte : TIok P ti.elem te) (hs : te.size = s) {ad : Addr} {l c : Nat} {kk : IntKind} {n : Int} (h0 : 0 ≤ n) (h1 : n < l) (w : World) :
    (Instr.indexAt t (.slice (some ad) l c) (.int kk n)).run P w = .ok (.pointer (some (ad.add (n.toNat * s)))) w := by
  have hu := hti.slice hk
  have hz := hte.sizeOf w
  rw [hs] at hz
  simp [Instr.indexAt, asIntOf, run_underlying hu, h0, h1, hz]

/-- xs[n], xs data. -/
theorem dA_index {o : Oper} {t : TypeId} {x ix : Operand} {xs : List (List C)} {kk : IntKind} {n : Int} (row : List C) {ti te : TI}
    (ho : o.op = .indexAddr t x ix) (hti : findTI X.L t = some ti) (hk : ti.kind = 2) (hte : findTI X.L ti.elem = some te)
    (hx : evalO σ x = .one (.fs xs)) (hi : evalO σ ix = .one (.int kk n)) (hd : dstB N o.dst = true)
    (h0 : 0 ≤ n) (h1 : n < xs.length) (hrow : xs[n.toNat]? = some row) (hl : row.length = te.size) : DidA X N np o (.q none) σ (putS o.dst (.one (.fp row)) σ) := fun {G D e a w} H => by
  have hx' := H.ev x
  rw [hx] at hx'
  simp only [TR, CR] at hx'
  obtain ⟨A, c, hxv, hlc, hr⟩ := hx'
  have hiv := one_int (hi ▸ H.ev ix)
  rcases hr with hr | ⟨ad, cells, tt, fr, esz, rfl, hs, hD, hh, hr⟩
  · subst hr; simp at h1; omega
  · have hrr := CRr.get hr hrow
    have hes : te.size = esz := by rw [← hrr.1, hl]
    refine Did.pure H (v := .pointer (some (ad.add (n.toNat * esz)))) (fun w _ => ?_) ?_ (putS_eq hd)
    · simp only [execOp, ho, hxv, hiv, Sem.run_bind, run_indexAt (X.tiok hti) hk (X.tiok hte) hes h0 h1, Result.andThen_ok, Sem.run_pure]
    · simp only [TR, CR, add_eq ad _ hs]
      refine ⟨_, cells, tt, fr, rfl, rfl, hD, hh, ?_⟩
      have := hrr.2
      rw [List.drop_drop] at this
      exact this

/-- xs[n], xs an own object's. -/
theorem dA_indexOwn {o : Oper} {t : TypeId} {x ix : Operand} {id off len kc : Nat} {kk : IntKind} {n : Int} {ob : AObj} {ti te : TI}
    (ho : o.op = .indexAddr t x ix) (hti : findTI X.L t = some ti) (hk : ti.kind = 2) (hte : findTI X.L ti.elem = some te)
    (hx : evalO σ x = .one (.os id off len kc)) (hi : evalO σ ix = .one (.int kk n)) (hob : getObj? σ id = some ob) (hes : ob.esz = te.size) (hd : dstB N o.dst = true)
    (h0 : 0 ≤ n) (h1 : n < len) : DidA X N np o (.q none) σ (putS o.dst (.one (.op id (off + n.toNat) 0)) σ) := fun {G D e a w} H => by
  obtain ⟨aa, cap, nn, he, hobr⟩ := H.sr.objs id ob (getObj?_eq hob)
  have hx' := H.ev x
  rw [hx] at hx'
  simp only [TR, CR, he] at hx'
  obtain ⟨A, c, hxv, h2, h3, h4, hr⟩ := hx'
  have hiv := one_int (hi ▸ H.ev ix)
  rcases hr with hr | ⟨b, rfl, rfl, h5⟩
  · omega
  · refine Did.pure H (v := .pointer (some ⟨b.block, b.off + off * ob.esz + n.toNat * ob.esz, none⟩)) (fun w _ => ?_) ?_ (putS_eq hd)
    · simp only [execOp, ho, hxv, hiv, Sem.run_bind, run_indexAt (X.tiok hti) hk (X.tiok hte) rfl h0 h1, Result.andThen_ok, Sem.run_pure]
      rw [add_eq _ _ rfl, hes]
    · simp only [TR, CR, he]
      refine ⟨b, rfl, ?_⟩
      rw [Nat.add_mul, Nat.add_zero, Nat.add_assoc]

def setO (σ : State) (id : Nat) (ob : AObj) : State := match σ with
  | ⟨ρ, o, κ⟩ => ⟨ρ, setNth o id (some ob), κ⟩

/-- A store into an element of an own object. -/
theorem dA_storeEl {o : Oper} {t : TypeId} {x y : Operand} {id j off : Nat} {esz : Nat} {elems : List (List C)} {cl bx : Bool} (row : List C) {cs : List C} (elems' : List (List C)) (cl' : Bool) {ti : TI}
    (ho : o.op = .store t x y) (hdst : o.dst = none) (hti : findTI X.L t = some ti)
    (hx : evalO σ x = .one (.op id j off)) (hob : getObj? σ id = some ⟨esz, elems, cl, false, bx⟩) (hrow : elems[j]? = some row) (hc : cellsT (evalO σ y) = some cs) (hs : cs.length = ti.size) (hoff : off + cs.length ≤ row.length)
    (hel : elems' = elems.set j (patch row off cs)) (hcl : cl' = true → noOwnR elems' = true) :
    DidA X N np o (.e (some id)) σ (setO σ id ⟨esz, elems', cl', false, bx⟩) := fun {G D e a w} H => by
  have := did_storeAt (cl' := cl') ho hdst H hti hx (getObj?_eq hob) rfl hrow hc hs hoff hel hcl
  cases σ
  simpa only [setO, setNth_eq] using this

/-- s[n], s a string. -/
theorem dA_strIndex {o : Oper} {t : TypeId} {x ix : Operand} {s : Str} {kk : IntKind} {n : Int} (c : UInt8) {ti : TI}
    (ho : o.op = .index t x ix) (hti : findTI X.L t = some ti) (hk : ti.kind = 1) (hx : evalO σ x = .one (.str s)) (hi : evalO σ ix = .one (.int kk n)) (hd : dstB N o.dst = true)
    (h0 : 0 ≤ n) (hc : s[n.toNat]? = some c) : DidA X N np o (.q none) σ (putS o.dst (.one (.int .u8 c.toNat)) σ) := fun {G D e a w} H => by
  have hxv := one_str (hx ▸ H.ev x)
  have hiv := one_int (hi ▸ H.ev ix)
  have hu := (X.tiok hti).string hk
  have hc' : (⟨s.toArray⟩ : ByteArray)[n.toNat]? = some c := by
    have hlt := lt_of_some hc
    rw [List.getElem?_eq_getElem hlt] at hc
    simp only [Option.some.injEq] at hc
    rw [getElem?_pos (⟨s.toArray⟩ : ByteArray) n.toNat (by simpa [ByteArray.size] using hlt)]
    rw [← hc]; rfl
  refine Did.pure H (v := .int .u8 c.toNat) (fun w _ => ?_) (by simp only [TR, CR]) (putS_eq hd)
  simp [execOp, ho, hxv, hiv, Instr.index, asIntOf, run_underlying hu, h0, hc']

end

def keepρ (mp : Nat → Option Nat) (o : List (Option AObj)) (d : Nat) (ρ : List (Nat × T)) : List Nat → List (Nat × T)
  | [] => []
  | t :: ts => (t, reT mp o d (getρ ρ t)) :: keepρ mp o d ρ ts

def keepS (np : Nat) (ts ks : List Nat) (d : Nat) (σ : State) : State :=
  ⟨keepρ (fun id => idxOf (rangeL 0 np ks) id 0) σ.o d σ.ρ ts, pickO σ.o d (rangeL 0 np ks), []⟩

section

variable {X : Pk} {N np : Nat} {K : KP} {σ σ' : State}

theorem keepρ_get (mp : Nat → Option Nat) (o : List (Option AObj)) (d : Nat) (ρ : List (Nat × T)) : ∀ (ts : List Nat) (t : Nat), getρ (keepρ mp o d ρ ts) t = reT mp o d (getρ ρ t) ∨ getρ (keepρ mp o d ρ ts) t = .junk
  | [], t => .inr rfl
  | u :: ts, t => by
    simp only [keepρ, getρ]
    split
    · rename_i hb
      have := Nat.eq_of_beq_eq_true hb
      subst this
      exact .inl rfl
    · exact keepρ_get mp o d ρ ts t

theorem Rel.keepS {G : Ctx} {D : Nat → Prop} {e : List ALoc} {a : Act} {w : World} (ts ks : List Nat) (d : Nat) (hnd : nodupB (rangeL 0 np ks) = true) (H : Rel N np G D e σ a w) : ∃ e', Rel N np G D e' (keepS np ts ks d σ) a w := by
  have hsr := H.sr.pick hnd d
  refine ⟨pickE e (rangeL 0 np ks), H.hnp, by unfold Go.Proofs.YtbenojnoepkgbaaDoor.keepS pickO; simp only [pickO'_length, rangeL_length]; omega, H.ext, H.defers, H.size, fun t => ?_, hsr, ?_, H.old, ?_⟩
  · rcases keepρ_get (fun id => idxOf (rangeL 0 np ks) id 0) σ.o d σ.ρ ts t with h | h
    · simp only [Go.Proofs.YtbenojnoepkgbaaDoor.keepS, h]
      exact reT_spec H.sr (fun id j l => pick_map id j l) d _ _ (H.tmps t)
    · simp only [Go.Proofs.YtbenojnoepkgbaaDoor.keepS, h, TR]
  · intro id b esz cap n he
    rw [pickE_get] at he
    cases hi : (rangeL 0 np ks)[id]? with
    | none => rw [hi] at he; simp at he
    | some id' =>
      rw [hi] at he
      simp only [Option.map_some, List.getD, Option.some.injEq] at he
      cases hid : e[id']? with
      | none => rw [hid] at he; simp at he
      | some l => rw [hid] at he; simp at he; subst he; exact H.new id' b _ _ _ hid
  · intro id hid
    have hlt : id < e.length := by have := H.nple; have := H.sr.len; omega
    rw [pickE_get, rangeL_get, if_pos hid]
    simp only [Nat.zero_add, Option.map_some, List.getD]
    rw [List.getElem?_eq_getElem hlt]
    simp only [Option.getD_some]
    rw [← H.keep id hid, List.getElem?_eq_getElem hlt]

theorem Weak.keep (ts ks : List Nat) (d : Nat) (hnd : nodupB (rangeL 0 np ks) = true) : Weak N np σ (keepS np ts ks d σ) := fun {G D e a w} H => by
  obtain ⟨e', H'⟩ := H.keepS ts ks d hnd
  exact ⟨D, e', H'⟩

/-- The round of a loop over 'keepS'. -/
theorem goal_loop_keep {c : Code} {k : List It} (I : Nat → State → Prop) (m : Nat) (ts ks : List Nat) (hnd : nodupB (rangeL 0 np ks) = true) (h0 : I m (keepS np ts ks 4 σ))
    (round : ∀ m σ, I m σ → goal X N np (roundK N np I m (after X N np k K)) (.cod c []) σ) : goal X N np K (.cod (.loop c) k) σ :=
  goal_loop I m ⟨_, Weak.keep ts ks 4 hnd, h0⟩ round

theorem round_keep {I : Nat → State → Prop} {m : Nat} {K : KP} (m' : Nat) (ts ks : List Nat) (hlt : m' < m) (hnd : nodupB (rangeL 0 np ks) = true) (h : I m' (keepS np ts ks 4 σ)) :
    goal X N np (roundK N np I m K) (.nrm []) σ := ⟨m', hlt, _, Weak.keep ts ks 4 hnd, h⟩

theorem round_ret {I : Nat → State → Prop} {m : Nat} {K : KP} {k kk : List It} (h : goal X N np K (.ret k) σ) : goal X N np (roundK N np I m (after X N np k K)) (.ret kk) σ := by
  show after X N np k K .ret σ
  rw [after_ret]; exact h

theorem round_ext {I : Nat → State → Prop} {m id : Nat} {K : KP} {k : List It} (h : goal X N np K (.ext id k) σ) : goal X N np (roundK N np I m (after X N np k K)) (.ext id []) σ := h

end

def NP (K : KP) : KP := fun ex σ => match ex with
  | .panic _ => False
  | ex => K ex σ

def SPw (D : Nat → Prop) (e : List ALoc) (prot : List Nat) (h0 : Array Obj) (w' : World) : Prop :=
  (∀ b, D b → w'.heap[b]? = h0[b]?) ∧ ∀ id ∈ prot, ∀ (b : Addr) (esz cap n : Nat), e[id]? = some (.live (some b) esz cap n) → w'.heap[b.block]? = h0[b.block]?

/-- What is left of a region whose order is drawn: the operations in 'listed' have come up; nothing writes the objects in 'prot'. -/
def AH (X : Pk) (N np : Nat) (ops : Array Oper) (K : KP) (prot : List Nat) (fuel : Nat) (listed : Array Bool) (σ : State) : Prop :=
  ∀ G D e a w, Rel N np G D e σ a w → wpAnyH X.P .any ops (lift N np G (NP K)) (SPw D e prot w.heap) fuel listed a w

section

variable {X : Pk} {N np : Nat} {K : KP} {σ σ' : State} {ops : Array Oper} {prot : List Nat} {fuel : Nat} {listed : Array Bool} {i : Nat}

theorem wpAnyH_mono {P : Program} {md : Region.Mode} {Q : Exit → Act → World → Prop} {S S' : World → Prop} (h : ∀ w, S w → S' w) : ∀ (fuel : Nat) (listed : Array Bool) (a : Act) (w : World), wpAnyH P md ops Q S fuel listed a w → wpAnyH P md ops Q S' fuel listed a w
  | 0, _, _, _, H => H
  | fuel + 1, listed, a, w, H => ⟨H.1, fun i hi => wpOp_mono (fun a' w' h' => ⟨h _ h'.1, wpAnyH_mono h fuel _ a' w' h'.2⟩) (H.2 i hi)⟩

theorem goal_draw {id : Nat} {k : List It} (prot : List Nat) (h : AH X N np ops (after X N np k K) prot ops.size (Array.replicate ops.size false) ⟨σ.ρ, σ.o, []⟩) : goal X N np K (.cod (.region id ops true) k) σ := by
  intro G D e a w H
  have H1 : Rel N np G D e ⟨σ.ρ, σ.o, []⟩ a { w with drawn := w.drawn + 1 } := (H.hints []).world rfl rfl rfl rfl
  refine wp_mono (wp_region_held X.mixed (h G D e a _ H1)) ?_
  rintro ex a' w' ⟨D', e', σ', H', hk⟩
  cases ex with
  | panic c => exact hk.elim
  | normal => exact ⟨D', e', σ', H', hk⟩
  | exit id => exact ⟨D', e', σ', H', hk⟩
  | goto l => exact ⟨D', e', σ', H', hk⟩
  | ret => exact ⟨D', e', σ', H', hk⟩
  | outgrown => exact ⟨D', e', σ', H', hk⟩

theorem AH_done (hr : Region.ready .any ops listed = []) (h : K .normal σ) : AH X N np ops K prot fuel listed σ := fun G D e a w H =>
  wpAnyH_done hr ⟨D, e, σ, H, h⟩ fuel

def rdIn (rd : Option Nat) (prot : List Nat) : Prop := ∀ id, rd = some id → id ∈ prot

theorem rdIn_none : rdIn none prot := fun _ h => by cases h

theorem rdIn_mem {id : Nat} (h : memB id prot = true) : rdIn (some id) prot := by
  intro id' h'
  simp at h'
  subst h'
  revert h
  induction prot with
  | nil => simp [memB]
  | cons p ps ih =>
    simp only [memB]
    split
    · rename_i hb; intro _; rw [Nat.eq_of_beq_eq_true hb]; simp
    · intro h; exact List.mem_cons_of_mem _ (ih h)

/-- An operation that only reads is taken first. -/
theorem AH_take {o : Oper} {rd : Option Nat} (i : Nat) (ho : nthA ops i = some o) (hs : Region.noSelect ops = true) (hf : Region.free .any ops listed i = true) (hr : (Region.ready .any ops listed).contains i = true)
    (hg : guardOf N ops o.guard σ = .go) (hd : DidA X N np o (.q rd) σ σ') (hrd : rdIn rd prot)
    (h : AH X N np ops K prot fuel (listed.setIfInBounds i true) σ') : AH X N np ops K prot (fuel + 1) listed σ := fun G D e a w H => by
  rw [nthA_eq] at ho
  obtain ⟨x, v, hrun, hx, hp⟩ := hd H
  refine wpAnyH_take ho hs hf hr ?_ (.inl ⟨(guardOf_spec H (ops := ops)).1 hg, fun w' hw' => hrun w' ⟨hw'.1, fun id hid => hw'.2 id (hrd id hid)⟩⟩) ⟨fun _ _ => rfl, fun _ _ _ _ _ _ _ => rfl⟩ (h G D e _ w (H.putv hx hp))
  rintro c a' w' ⟨_, _, _, _, hk⟩
  exact hk.elim

/-- One whose guard says no. -/
theorem AH_skip {o : Oper} (i : Nat) (ho : nthA ops i = some o) (hs : Region.noSelect ops = true) (hf : Region.free .any ops listed i = true) (hr : (Region.ready .any ops listed).contains i = true)
    (hg : guardOf N ops o.guard σ = .skip) (hp : putT N o.dst (.tup []) σ = some σ')
    (h : AH X N np ops K prot fuel (listed.setIfInBounds i true) σ') : AH X N np ops K prot (fuel + 1) listed σ := fun G D e a w H => by
  rw [nthA_eq] at ho
  refine wpAnyH_take ho hs hf hr ?_ (.inr ⟨(guardOf_spec H (ops := ops)).2 hg, rfl⟩) ⟨fun _ _ => rfl, fun _ _ _ _ _ _ _ => rfl⟩ (h G D e _ w (H.putv (x := .tup []) (by simp [TR, TRs, undef]) hp))
  rintro c a' w' ⟨_, _, _, _, hk⟩
  exact hk.elim

/-- What comes up is carried out. -/
theorem AH_op {md : Nat → Prop} {Post : State → Prop} (hs : StepA X N np ops i md σ Post) (hmd : ∀ id ∈ prot, ¬ md id)
    (h : ∀ σ', Post σ' → AH X N np ops K prot fuel (listed.setIfInBounds i true) σ') {G : Ctx} {D : Nat → Prop} {e : List ALoc} {a : Act} {w : World} (H : Rel N np G D e σ a w) :
    wpOp X.P ops (lift N np G (NP K)) i (fun a' w' => SPw D e prot w.heap w' ∧ wpAnyH X.P .any ops (lift N np G (NP K)) (SPw D e prot w.heap) fuel (listed.setIfInBounds i true) a' w') a w := by
  refine hs H fun D' e' σ' a' w' H' hP hPost => ?_
  have hS : SPw D e prot w.heap w' := ⟨fun b hb => (hP.1 b hb).2, fun id hid b esz cap n he => (hP.2 id (hmd id hid) b esz cap n he).2⟩
  refine ⟨hS, wpAnyH_mono (fun w'' hw'' => ⟨fun b hb => ?_, fun id hid b esz cap n he => ?_⟩) _ _ _ _ (h σ' hPost G D' e' a' w' H')⟩
  · rw [hw''.1 b (hP.1 b hb).1]; exact (hP.1 b hb).2
  · have h2 := hP.2 id (hmd id hid) b esz cap n he
    rw [hw''.2 id hid b esz cap n h2.1]; exact h2.2

theorem AH_one {md : Nat → Prop} {Post : State → Prop} (hr : Region.ready .any ops listed = [i]) (hs : StepA X N np ops i md σ Post) (hmd : ∀ id ∈ prot, ¬ md id)
    (h : ∀ σ', Post σ' → AH X N np ops K prot fuel (listed.setIfInBounds i true) σ') : AH X N np ops K prot (fuel + 1) listed σ := fun G D e a w H =>
  wpAnyH_all hr (by simp) fun j hj => by simp at hj; subst hj; exact AH_op hs hmd h H

/-- The guard's test is decided, both ways. -/
theorem AH_guard {t j : Nat} {want b : Bool} {d0 : Option Nat} {op0 op1 : Op} {ty0 ty1 : TypeId} {pos0 pos1 : String} {aft0 aft1 : Array Edge} {g1 : Option (Nat × Bool)}
    (ho : nthA ops i = some ⟨d0, op0, ty0, pos0, aft0, some (j, want)⟩) (hj : nthA ops j = some ⟨some t, op1, ty1, pos1, aft1, g1⟩) (hv : getρ σ.ρ t = .one (.bool b))
    (h1 : b = true → AH X N np ops K prot fuel listed (decS t true σ))
    (h2 : b = false → AH X N np ops K prot fuel listed (decS t false σ)) : AH X N np ops K prot fuel listed σ := by
  intro G D e a w H
  have key : Rel N np G D e ⟨(t, .one (.bool b)) :: σ.ρ, σ.o, t :: σ.k⟩ a w := by
    refine ⟨H.hnp, H.nple, H.ext, H.defers, H.size, fun u => ?_, H.sr, H.new, H.old, H.keep⟩
    simp only [getρ]
    split
    · rename_i hb
      have := Nat.eq_of_beq_eq_true hb
      subst this
      rw [← hv]; exact H.tmps t
    · exact H.tmps u
  cases b with
  | true => exact h1 rfl G D e a w key
  | false => exact h2 rfl G D e a w key

end

section

variable {X : Pk} {N np : Nat} {G : Ctx} {D : Nat → Prop} {e : List ALoc} {σ σ' : State} {a : Act} {w : World}

theorem getElem?_set_ite {α : Type} (l : List α) (i j : Nat) (x : α) : (l.set i x)[j]? = if i = j then (if i < l.length then some x else none) else l[j]? := by
  rw [List.getElem?_set]

/-- An object is given up. -/
theorem Rel.kill (H : Rel N np G D e σ a w) {id : Nat} (hge : np ≤ id) (hnf : ∀ ob, σ.o[id]? = some (some ob) → ob.fz = false) : Rel N np G D (e.set id .dead) ⟨σ.ρ, σ.o.set id none, σ.k⟩ a w := by
  have hle : Leads e (e.set id .dead) := by
    intro id' l hl
    rw [getElem?_set_ite]
    by_cases h : id = id'
    · subst h; right; simp [lt_of_some hl]
    · left; simp [h, hl]
  have hlive : ∀ (id' : Nat) (b : Addr) (esz cap n : Nat), (e.set id .dead)[id']? = some (.live (some b) esz cap n) → id ≠ id' ∧ e[id']? = some (.live (some b) esz cap n) := by
    intro id' b esz cap n he
    rw [getElem?_set_ite] at he
    by_cases h : id = id'
    · rw [if_pos h] at he; split at he <;> simp at he
    · rw [if_neg h] at he; exact ⟨h, he⟩
  refine ⟨H.hnp, by simpa using H.nple, H.ext, H.defers, H.size, fun t => TR.mono (Fixes.refl _ _) hle _ _ (H.tmps t), ⟨by simpa using H.sr.len, ?_, ?_, ?_, H.sr.dom⟩, ?_, H.old, ?_⟩
  · intro id' ob hid
    rw [getElem?_set_ite] at hid
    by_cases h : id = id'
    · rw [if_pos h] at hid; split at hid <;> simp at hid
    · rw [if_neg h] at hid
      obtain ⟨aa, cap, n, he, hn, hc, hrest⟩ := H.sr.objs id' ob hid
      refine ⟨aa, cap, n, by rw [getElem?_set_ite, if_neg h]; exact he, hn, hc, ?_⟩
      cases aa with
      | none => exact hrest
      | some b =>
        obtain ⟨q1, q2, cells, t, q3, q4, q5, q6⟩ := hrest
        exact ⟨q1, q2, cells, t, q3, q4, q5, CRr.mono (Fixes.refl _ _) _ _ hle _ _ _ q6⟩
  · intro id' b esz cap n he
    obtain ⟨h, he'⟩ := hlive id' b esz cap n he
    obtain ⟨h1, h2⟩ := H.sr.own id' b _ _ _ he'
    refine ⟨h1, fun hD => ?_⟩
    obtain ⟨ob, ho, hf⟩ := h2 hD
    exact ⟨ob, by rw [getElem?_set_ite, if_neg h]; exact ho, hf⟩
  · intro id1 id2 b b' esz cap n esz' cap' n' he he' hb
    exact H.sr.sep id1 id2 b b' _ _ _ _ _ _ (hlive _ _ _ _ _ he).2 (hlive _ _ _ _ _ he').2 hb
  · intro id' b esz cap n he
    exact H.new id' b _ _ _ (hlive id' b esz cap n he).2
  · intro id' hid
    rw [getElem?_set_ite, if_neg (by omega)]
    exact H.keep id' hid

/-- An empty object that has no memory. -/
theorem Rel.newEmpty (H : Rel N np G D e σ a w) {ob : AObj} (hel : ob.elems = []) : Rel N np G D (e ++ [.live none ob.esz 0 0]) ⟨σ.ρ, σ.o ++ [some ob], σ.k⟩ a w := by
  have hle := leads_app e [ALoc.live none ob.esz 0 0]
  have hlive : ∀ (id' : Nat) (b : Addr) (esz cap n : Nat), (e ++ [.live none ob.esz 0 0])[id']? = some (.live (some b) esz cap n) → e[id']? = some (.live (some b) esz cap n) := by
    intro id' b esz cap n he
    rw [getElem?_app_one] at he
    split at he
    · exact he
    · split at he <;> simp at he
  refine ⟨H.hnp, by have := H.nple; simp; omega, H.ext, H.defers, H.size, fun t => TR.mono (Fixes.refl _ _) hle _ _ (H.tmps t), ⟨by simp [H.sr.len], ?_, ?_, ?_, H.sr.dom⟩, ?_, H.old, ?_⟩
  · intro id' ob' hid
    simp only [getElem?_app_one] at hid ⊢
    split at hid
    · rename_i hlt
      obtain ⟨aa, cap, n, he, hn, hc, hrest⟩ := H.sr.objs id' ob' hid
      refine ⟨aa, cap, n, by rw [if_pos (by rw [H.sr.len]; exact hlt)]; exact he, hn, hc, ?_⟩
      cases aa with
      | none => exact hrest
      | some b =>
        obtain ⟨q1, q2, cells, t, q3, q4, q5, q6⟩ := hrest
        exact ⟨q1, q2, cells, t, q3, q4, q5, CRr.mono (Fixes.refl _ _) _ _ hle _ _ _ q6⟩
    · split at hid
      · rename_i heq
        simp at hid; subst hid
        exact ⟨none, 0, 0, by rw [if_neg (by rw [H.sr.len]; omega), if_pos (by rw [H.sr.len]; omega)], by rw [hel]; rfl, by rw [hel]; simp [noOwnR], hel, rfl⟩
      · cases hid
  · intro id' b esz cap n he
    have he' := hlive id' b esz cap n he
    obtain ⟨h1, h2⟩ := H.sr.own id' b _ _ _ he'
    refine ⟨h1, fun hD => ?_⟩
    obtain ⟨ob', ho, hf⟩ := h2 hD
    exact ⟨ob', by rw [getElem?_app_one, if_pos (lt_of_some ho)]; exact ho, hf⟩
  · intro id1 id2 b b' esz cap n esz' cap' n' he he' hb
    exact H.sr.sep id1 id2 b b' _ _ _ _ _ _ (hlive _ _ _ _ _ he) (hlive _ _ _ _ _ he') hb
  · intro id' b esz cap n he
    exact H.new id' b _ _ _ (hlive id' b esz cap n he)
  · intro id' hid
    have := H.nple
    rw [getElem?_app_one, if_pos (by rw [H.sr.len]; omega)]
    exact H.keep id' hid

/-- An object in a block that nobody owns any more; its cells are written. -/
theorem Rel.newObjIn (H : Rel N np G D e σ a w) {g : Nat} {off cap : Nat} {cells cells' : Array Value} {t : TypeId} {ob : AObj} (hh : w.heap[g]? = some (.cells cells t (0, 0))) (hD : ¬ D g)
    (hfree : ∀ (id : Nat) (b : Addr) (esz c n : Nat), e[id]? = some (.live (some b) esz c n) → b.block ≠ g) (hg : G.w0.heap.size ≤ g ∨ Cof np G.e0 g)
    (hf : ob.fz = false) (hcl : ob.clean = true → noOwnR ob.elems = true) (hcap : ob.elems.length ≤ cap) (hcs : cells'.size = cells.size) (hs : off + cap * ob.esz ≤ cells.size)
    (hr : CRr D w.heap e ob.esz ob.elems (cells'.toList.drop off)) :
    Rel N np G D (e ++ [.live (some ⟨g, off, none⟩) ob.esz cap ob.elems.length]) ⟨σ.ρ, σ.o ++ [some ob], σ.k⟩ a (w.setRow g cells') := by
  have hfx : Fixes D D w.heap (w.setRow g cells').heap := fun b hb => ⟨hb, setRow_other w _ _ _ (fun h => hD (h ▸ hb))⟩
  have hle := leads_app e [.live (some ⟨g, off, none⟩) ob.esz cap ob.elems.length]
  have hglt : g < w.heap.size := (Array.getElem?_eq_some_iff.1 hh).1
  refine ⟨H.hnp, by have := H.nple; simp; omega, ⟨H.ext.os, H.ext.tape, H.ext.output, by rw [setRow_size]; exact H.ext.size, fun b hb hw => ?_⟩, H.defers, H.size,
    fun t => TR.mono hfx hle _ _ (H.tmps t), ⟨by simp [H.sr.len], ?_, ?_, ?_, fun b hb => by rw [setRow_size]; exact H.sr.dom b hb⟩, ?_, H.old, ?_⟩
  · have hbg : ¬ b = g := by
      rcases hg with hg | hg
      · omega
      · intro h0; subst h0; exact hw hg.wof
    rw [setRow_other _ _ _ _ (by omega)]; exact H.ext.block b hb hw
  · intro id ob' hid
    simp only [getElem?_app_one] at hid ⊢
    split at hid
    · rename_i hlt
      obtain ⟨b, c, n, he, hn, hc, hrest⟩ := H.sr.objs id ob' hid
      refine ⟨b, c, n, by rw [if_pos (by rw [H.sr.len]; exact hlt)]; exact he, hn, hc, ?_⟩
      cases b with
      | none => exact hrest
      | some b =>
        obtain ⟨h1, h2, cs, t', h3, h4, h5, h6⟩ := hrest
        exact ⟨h1, h2, cs, t', by rw [setRow_other _ _ _ _ (hfree id b _ _ _ he)]; exact h3, h4, h5, CRr.mono hfx _ _ hle _ _ _ h6⟩
    · split at hid
      · rename_i heq
        simp at hid; subst hid
        exact ⟨some ⟨g, off, none⟩, cap, ob.elems.length, by rw [if_neg (by rw [H.sr.len]; omega), if_pos (by rw [H.sr.len]; omega)], rfl, hcl, rfl, by simp [hf], cells', t, setRow_heap w _ cells _ t _ hh, hcap, by rw [hcs]; exact hs,
          CRr.mono hfx _ _ hle _ _ _ hr⟩
      · cases hid
  · intro id b esz c n he
    simp only [getElem?_app_one] at he ⊢
    split at he
    · rename_i hlt
      obtain ⟨h1, h2⟩ := H.sr.own id b _ _ _ he
      refine ⟨by rw [setRow_size]; exact h1, fun hDb => ?_⟩
      rw [if_pos (by rw [← H.sr.len]; exact hlt)]
      exact h2 hDb
    · split at he
      · simp at he
        obtain ⟨rfl, _⟩ := he
        exact ⟨by rw [setRow_size]; exact hglt, fun hDb => absurd hDb hD⟩
      · cases he
  · intro id id' b b' esz c n esz' c' n' he he' hb
    simp only [getElem?_app_one] at he he'
    split at he <;> split at he'
    · exact H.sr.sep id id' b b' _ _ _ _ _ _ he he' hb
    · split at he'
      · simp at he'
        obtain ⟨rfl, _⟩ := he'
        exact absurd hb (hfree id b _ _ _ he)
      · cases he'
    · split at he
      · simp at he
        obtain ⟨rfl, _⟩ := he
        exact absurd hb.symm (hfree id' b' _ _ _ he')
      · cases he
    · split at he
      · split at he'
        · omega
        · cases he'
      · cases he
  · intro id b esz c n he
    simp only [getElem?_app_one] at he
    split at he
    · exact H.new id b _ _ _ he
    · split at he
      · simp at he
        obtain ⟨rfl, _⟩ := he
        exact hg.elim .inr (fun h => .inl h.wof)
      · cases he
  · intro id hid
    have h1 := H.nple
    rw [getElem?_app_one, if_pos (by rw [H.sr.len]; omega)]
    exact H.keep id hid

end

def Bnd (σ : State) (o : Option Operand) (dflt n : Nat) : Prop := match o with
  | none => n = dflt
  | some x => ∃ kk z, evalO σ x = .one (.int kk z) ∧ z = (n : Int)

theorem Bnd.none_ {σ : State} {n : Nat} : Bnd σ none n n := rfl

theorem Bnd.some_ {σ : State} {x : Operand} {d n : Nat} {kk : IntKind} {z : Int} (h : evalO σ x = .one (.int kk z)) (hz : z = (n : Int)) : Bnd σ (some x) d n := ⟨kk, z, h, hz⟩

section

variable {X : Pk} {N np : Nat} {G : Ctx} {D : Nat → Prop} {e : List ALoc} {σ σ' : State} {a : Act} {w : World}

theorem run_sliceBound {P : Program} {kk : IntKind} {n y : Nat} (h : n ≤ y) (code : BoundsCode) (w : World) : (Instr.sliceBound (.int kk (n : Int)) y code).run P w = .ok n w := by
  have h1 : (n : Int) ≤ y := by omega
  simp [Instr.sliceBound, asIntOf, h]

theorem run_sliceBounds {P : Program} (isSlice : Bool) {len cap L Hh M : Nat} {lo hi mx : Option Value} (hlo : (lo = none ∧ L = 0) ∨ ∃ kk, lo = some (.int kk (L : Int))) (hhi : (hi = none ∧ Hh = len ∧ mx = none) ∨ ∃ kk, hi = some (.int kk (Hh : Int)))
    (hmx : (mx = none ∧ M = cap) ∨ ∃ kk, mx = some (.int kk (M : Int))) (h1 : L ≤ Hh) (h2 : Hh ≤ M) (h3 : M ≤ cap) (w : World) : (Instr.sliceBounds isSlice len cap lo hi mx).run P w = .ok (L, Hh, M) w := by
  have q1 := fun code w => run_sliceBound (P := P) (kk := .i64) h1 code w
  rcases hmx with ⟨rfl, rfl⟩ | ⟨k3, rfl⟩
  · rcases hhi with ⟨rfl, rfl, _⟩ | ⟨k2, rfl⟩
    · rcases hlo with ⟨rfl, rfl⟩ | ⟨k1, rfl⟩
      · simp [Instr.sliceBounds]
      · simp [Instr.sliceBounds, run_sliceBound h1]
    · rcases hlo with ⟨rfl, rfl⟩ | ⟨k1, rfl⟩
      · simp [Instr.sliceBounds, run_sliceBound h2]
      · simp [Instr.sliceBounds, run_sliceBound h1, run_sliceBound h2]
  · rcases hhi with ⟨rfl, rfl, hm⟩ | ⟨k2, rfl⟩
    · cases hm
    · rcases hlo with ⟨rfl, rfl⟩ | ⟨k1, rfl⟩
      · simp [Instr.sliceBounds, run_sliceBound h2, run_sliceBound h3]
      · simp [Instr.sliceBounds, run_sliceBound h1, run_sliceBound h2, run_sliceBound h3]

theorem Bnd.val (H : Rel N np G D e σ a w) {o : Option Operand} {d n : Nat} (h : Bnd σ o d n) : (o.map a.eval = none ∧ n = d ∧ o = none) ∨ ∃ kk, o.map a.eval = some (.int kk (n : Int)) := by
  cases o with
  | none => exact .inl ⟨rfl, h, rfl⟩
  | some x =>
    obtain ⟨kk, z, h1, rfl⟩ := h
    exact .inr ⟨kk, by simp [one_int (h1 ▸ H.ev x)]⟩

theorem run_slice_slice {P : Program} {t s : Nat} {ti te : TI} (hti : TIok P t ti) (hk : ti.kind = 2) (hte : TIok P ti.elem te) (hs : te.size = s) {A : Option Addr} {len cap L Hh M : Nat} {lo hi mx : Option Value}
    (hb : ∀ w, (Instr.sliceBounds true len cap lo hi mx).run P w = .ok (L, Hh, M) w) (w : World) :
    (Instr.sliceAt t (.slice A len cap) lo hi mx).run P w = .ok (.slice (if M = L then A else A.map (·.add (L * s))) (Hh - L) (M - L)) w := by
  have hu := hti.slice hk
  have hz := hte.sizeOf w
  rw [hs] at hz
  simp [Instr.sliceAt, Instr.slice, run_underlying hu, hb, hz]

/-- xs[L:H], xs data. -/
theorem dA_slice {o : Oper} {t : TypeId} {x : Operand} {lo hi : Option Operand} {xs : List (List C)} (L Hh : Nat) (ys : List (List C)) {ti te : TI}
    (ho : o.op = .slice t x lo hi none) (hti : findTI X.L t = some ti) (hk : ti.kind = 2) (hte : findTI X.L ti.elem = some te) (hx : evalO σ x = .one (.fs xs)) (hlo : Bnd σ lo 0 L) (hhi : Bnd σ hi xs.length Hh)
    (hrl : ∀ r ∈ xs, r.length = te.size) (h1 : L ≤ Hh) (h2 : Hh ≤ xs.length) (hd : dstB N o.dst = true) (hys : ys = (xs.drop L).take (Hh - L)) : DidA X N np o (.q none) σ (putS o.dst (.one (.fs ys)) σ) := fun {G D e a w} H => by
  subst hys
  have hx' := H.ev x
  rw [hx] at hx'
  simp only [TR, CR] at hx'
  obtain ⟨A, c, hxv, hlc, hr⟩ := hx'
  have hb : ∀ w, (Instr.sliceBounds true xs.length c (lo.map a.eval) (hi.map a.eval) none).run X.P w = .ok (L, Hh, c) w := fun w =>
    run_sliceBounds true (by rcases hlo.val H with ⟨h, h', _⟩ | h; · exact .inl ⟨h, h'⟩
                             · exact .inr h) (by rcases hhi.val H with ⟨h, h', _⟩ | h; · exact .inl ⟨h, h', rfl⟩
                                                 · exact .inr h) (.inl ⟨rfl, rfl⟩) h1 (by omega) (Nat.le_refl _) w
  refine Did.pure H (v := .slice (if c = L then A else A.map (·.add (L * te.size))) (Hh - L) (c - L)) (fun w _ => ?_) ?_ (putS_eq hd)
  · simp only [execOp, ho, hxv, Sem.run_bind, Option.map_none, run_slice_slice (X.tiok hti) hk (X.tiok hte) rfl hb, Result.andThen_ok, Sem.run_pure]
  · simp only [TR, CR]
    have hlen : ((xs.drop L).take (Hh - L)).length = Hh - L := by simp; omega
    refine ⟨_, c - L, by rw [hlen], by rw [hlen]; omega, ?_⟩
    by_cases hcL : c = L
    · left
      apply List.eq_nil_of_length_eq_zero
      simp; omega
    · rw [if_neg hcL]
      rcases hr with hr | ⟨ad, cells, tt, fr, esz, rfl, hs, hD, hh, hr⟩
      · left; subst hr; simp
      · rcases Nat.eq_zero_or_pos xs.length with h0 | h0
        · left; have := List.eq_nil_of_length_eq_zero h0; subst this; simp
        · right
          have hes : esz = te.size := by
            obtain ⟨r, hr0⟩ : ∃ r, xs[0]? = some r := ⟨xs[0], by simp [h0]⟩
            rw [← (CRr.get hr hr0).1]; exact hrl r (List.mem_of_getElem? hr0)
          subst hes
          refine ⟨ad.add (L * te.size), cells, tt, fr, te.size, rfl, by rw [add_eq _ _ hs], by rw [add_eq _ _ hs]; exact hD, by rw [add_eq _ _ hs]; exact hh, ?_⟩
          rw [add_eq _ _ hs]
          have := CRr.take (Hh - L) (CRr.drop L hr)
          rw [List.drop_drop] at this
          exact this

end

section

variable {X : Pk} {N np : Nat} {G : Ctx} {D : Nat → Prop} {e : List ALoc} {σ σ' : State} {a : Act} {w : World}

/-- xs[L:H] and xs[L:H:M], xs an own object's. -/
theorem dA_sliceOwn {o : Oper} {t : TypeId} {x : Operand} {lo hi mx : Option Operand} {id off len kc : Nat} {ob : AObj} (L Hh M off' len' kc' : Nat) {ti te : TI}
    (ho : o.op = .slice t x lo hi mx) (hti : findTI X.L t = some ti) (hk : ti.kind = 2) (hte : findTI X.L ti.elem = some te) (hx : evalO σ x = .one (.os id off len kc)) (hob : getObj? σ id = some ob) (hes : ob.esz = te.size)
    (hlo : Bnd σ lo 0 L) (hhi : Bnd σ hi len Hh) (hmx : (mx = none ∧ M = kc) ∨ (mx ≠ none ∧ hi ≠ none ∧ Bnd σ mx 0 M)) (h1 : L ≤ Hh) (h2 : Hh ≤ M) (h3 : M ≤ kc) (h4 : off + Hh ≤ ob.elems.length) (hd : dstB N o.dst = true) (ho' : off' = off + L) (hl' : len' = Hh - L) (hk' : kc' = M - L) :
    DidA X N np o (.q none) σ (putS o.dst (.one (.os id off' len' kc')) σ) := fun {G D e a w} H => by
  subst ho' hl' hk'
  obtain ⟨aa, cap, nn, he, hobr⟩ := H.sr.objs id ob (getObj?_eq hob)
  have hnn := hobr.1
  have hx' := H.ev x
  rw [hx] at hx'
  simp only [TR, CR, he] at hx'
  obtain ⟨A, c, hxv, q2, q3, q4, hr⟩ := hx'
  -- the bound on the right: what is told, or the whole capacity
  obtain ⟨Mc, hMc, hM1, hM2⟩ : ∃ Mc, (∀ w, (Instr.sliceBounds true len c (lo.map a.eval) (hi.map a.eval) (mx.map a.eval)).run X.P w = .ok (L, Hh, Mc) w) ∧ M ≤ Mc ∧ Mc ≤ c := by
    have hlo' : (lo.map a.eval = none ∧ L = 0) ∨ ∃ kk, lo.map a.eval = some (.int kk (L : Int)) := by
      rcases hlo.val H with ⟨h, h', _⟩ | h
      · exact .inl ⟨h, h'⟩
      · exact .inr h
    rcases hmx with ⟨rfl, rfl⟩ | ⟨hm1, hm2, hm3⟩
    · refine ⟨c, fun w => run_sliceBounds true hlo' ?_ (.inl ⟨rfl, rfl⟩) h1 (by omega) (Nat.le_refl _) w, by omega, Nat.le_refl _⟩
      rcases hhi.val H with ⟨h, h', _⟩ | h
      · exact .inl ⟨h, h', rfl⟩
      · exact .inr h
    · refine ⟨M, fun w => run_sliceBounds true hlo' ?_ (.inr ?_) h1 h2 (by omega) w, Nat.le_refl _, by omega⟩
      · rcases hhi.val H with ⟨_, _, h⟩ | h
        · exact absurd h hm2
        · exact .inr h
      · rcases hm3.val H with ⟨_, _, h⟩ | h
        · exact absurd h hm1
        · exact h
  refine Did.pure H (v := .slice (if Mc = L then A else A.map (·.add (L * te.size))) (Hh - L) (Mc - L)) (fun w _ => ?_) ?_ (putS_eq hd)
  · simp only [execOp, ho, hxv, Sem.run_bind, run_slice_slice (X.tiok hti) hk (X.tiok hte) rfl hMc, Result.andThen_ok, Sem.run_pure]
  · simp only [TR, CR, he]
    refine ⟨_, Mc - L, rfl, by omega, by omega, by omega, ?_⟩
    by_cases hML : Mc = L
    · left; omega
    · rw [if_neg hML]
      rcases hr with hr | ⟨b, rfl, rfl, h5⟩
      · omega
      · right
        refine ⟨b, rfl, ?_, by omega⟩
        simp only [Option.map_some, add_eq (⟨b.block, b.off + off * ob.esz, none⟩ : Addr) _ rfl, Option.some.injEq, Addr.mk.injEq, true_and, and_true]
        rw [← hes, Nat.add_mul, Nat.add_assoc]

/-- s[L:H], s a string. -/
theorem dA_strSlice {o : Oper} {t : TypeId} {x : Operand} {lo hi : Option Operand} {s : Str} (L Hh : Nat) (r : Str) {ti : TI}
    (ho : o.op = .slice t x lo hi none) (hti : findTI X.L t = some ti) (hk : ti.kind = 1) (hx : evalO σ x = .one (.str s)) (hlo : Bnd σ lo 0 L) (hhi : Bnd σ hi s.length Hh)
    (h1 : L ≤ Hh) (h2 : Hh ≤ s.length) (hd : dstB N o.dst = true) (hr' : r = (s.drop L).take (Hh - L)) : DidA X N np o (.q none) σ (putS o.dst (.one (.str r)) σ) := fun {G D e a w} H => by
  subst hr'
  have hxv := one_str (hx ▸ H.ev x)
  have hu := (X.tiok hti).string hk
  have hsz : (⟨s.toArray⟩ : ByteArray).size = s.length := by simp [ByteArray.size]
  have hb : ∀ w, (Instr.sliceBounds false s.length s.length (lo.map a.eval) (hi.map a.eval) none).run X.P w = .ok (L, Hh, s.length) w := fun w =>
    run_sliceBounds false (by rcases hlo.val H with ⟨h, h', _⟩ | h; · exact .inl ⟨h, h'⟩
                              · exact .inr h) (by rcases hhi.val H with ⟨h, h', _⟩ | h; · exact .inl ⟨h, h', rfl⟩
                                                  · exact .inr h) (.inl ⟨rfl, rfl⟩) h1 h2 (Nat.le_refl _) w
  refine Did.pure H (v := .string ((⟨s.toArray⟩ : ByteArray).extract L Hh)) (fun w _ => ?_) ?_ (putS_eq hd)
  · simp [execOp, ho, hxv, Instr.sliceAt, Instr.slice, run_underlying hu, hsz, hb]
  · simp only [TR, CR, Value.string.injEq]
    apply ByteArray.ext
    rw [ByteArray.data_extract]
    apply Array.ext'
    simp only [Array.toList_extract, List.extract_eq_take_drop]

/-- What a slice that is appended, or copied, holds. -/
def Src (σ : State) (t : T) (rows : List (List C)) : Prop :=
  t = .one (.fs rows) ∨ (∃ id off len kc ob, t = .one (.os id off len kc) ∧ getObj? σ id = some ob ∧ off + len ≤ ob.elems.length ∧ rows = (ob.elems.drop off).take len) ∨ (t = .one nilSl ∧ rows = [])

theorem Src.fs {rows : List (List C)} {t : T} (h : t = .one (.fs rows)) : Src σ t rows := .inl h

theorem Src.os {t : T} {id off len kc : Nat} {ob : AObj} {rows : List (List C)} (h : t = .one (.os id off len kc)) (hob : getObj? σ id = some ob) (hl : off + len ≤ ob.elems.length) (hr : rows = (ob.elems.drop off).take len) : Src σ t rows :=
  .inr (.inl ⟨id, off, len, kc, ob, h, hob, hl, hr⟩)

theorem Src.nil {t : T} (h : t = .one nilSl) : Src σ t [] := .inr (.inr ⟨h, rfl⟩)

theorem CRr.oneCell {h : Array Obj} : ∀ {esz : Nat} {rs : List (List C)} {vs : List Value}, vs.length = rs.length * esz → CRr D h e esz rs vs → ∀ v ∈ vs, v.oneCell' = true
  | esz, [], vs, hl, _, v, hv => by simp at hl; subst hl; simp at hv
  | esz, r :: rs, vs, hl, H, v, hv => by
    simp only [CRr] at H
    simp only [List.length_cons, Nat.succ_mul] at hl
    rw [← List.take_append_drop esz vs] at hv
    rcases List.mem_append.1 hv with hv | hv
    · exact isCell_one (CRp.cell (by rw [List.length_take, H.1]; omega) (CRp.take' (by rw [H.1]; exact Nat.le_refl _) H.2.1) v hv)
    · exact CRr.oneCell (by rw [List.length_drop]; omega) H.2.2 v hv

/-- The cells that a source gives. -/
theorem Src.cells (H : Rel N np G D e σ a w) {y : Operand} {rows : List (List C)} (hs : Src σ (evalO σ y) rows) {size : Nat} (hrl : ∀ r ∈ rows, r.length = size) (h0 : 0 < size) :
    ∃ A c news, a.eval y = .slice A rows.length c ∧ news.length = rows.length * size ∧ CRr D w.heap e size rows news ∧
      ∀ w' : World, w'.heap = w.heap → (Builtin.firstCells size rows.length (a.eval y)).run X.P w' = .ok news.toArray w' := by
  have hy := H.ev y
  have key : ∀ (A : Option Addr) (c : Nat), a.eval y = .slice A rows.length c → (rows = [] ∨ ∃ ad cells t fr, A = some ad ∧ ad.spot = none ∧ w.heap[ad.block]? = some (.cells cells t fr) ∧ CRr D w.heap e size rows (cells.toList.drop ad.off)) →
      ∃ A c news, a.eval y = .slice A rows.length c ∧ news.length = rows.length * size ∧ CRr D w.heap e size rows news ∧
        ∀ w' : World, w'.heap = w.heap → (Builtin.firstCells size rows.length (a.eval y)).run X.P w' = .ok news.toArray w' := by
    intro A c hv hr
    rcases hr with hr | ⟨ad, cells, t, fr, rfl, hsp, hh, hr⟩
    · subst hr
      refine ⟨A, c, [], hv, by simp, by simp [CRr], fun w' _ => ?_⟩
      rw [hv]
      cases A with
      | none => simp [Builtin.firstCells]
      | some ad =>
        have := run_loadCells_list (P := X.P) w' ad [] (by simp)
        simpa [Builtin.firstCells] using this
    · have hlen : rows.length * size ≤ (cells.toList.drop ad.off).length := by
        rcases CRr.len hr with h | h
        · exact h
        · subst h; simp
      refine ⟨some ad, c, (cells.toList.drop ad.off).take (rows.length * size), hv, by simp at hlen ⊢; omega, CRr.congr (fun j hj => ?_) hr, fun w' hw' => ?_⟩
      · rw [List.getElem?_take, if_pos hj]
      · rw [hv]
        refine run_firstCells_some w' size rows.length ad rows.length c _ (by simp at hlen ⊢; omega) (fun j v hj => ?_)
        rw [add_eq _ _ hsp]
        rw [List.getElem?_take] at hj
        split at hj
        · simp only [World.cell?, hw', hh]
          simpa [List.getElem?_drop] using hj
        · cases hj
  rcases hs with hs | ⟨id, off, len, kc, ob, hs, hob, hl, hr⟩ | ⟨hs, rfl⟩
  · rw [hs] at hy
    simp only [TR, CR] at hy
    obtain ⟨A, c, hv, hc, hr⟩ := hy
    refine key A c hv ?_
    rcases hr with hr | ⟨ad, cells, t, fr, esz, rfl, hsp, hD, hh, hr⟩
    · exact .inl hr
    · rcases Nat.eq_zero_or_pos rows.length with h | h
      · exact .inl (List.eq_nil_of_length_eq_zero h)
      · right
        have hes : esz = size := by
          obtain ⟨r, hr0⟩ : ∃ r, rows[0]? = some r := ⟨rows[0], by simp [h]⟩
          rw [← (CRr.get hr hr0).1]; exact hrl r (List.mem_of_getElem? hr0)
        subst hes
        exact ⟨ad, cells, t, fr, rfl, hsp, hh, CRr.mono (Fixes.refl _ _) [] e (Leads.nil e) _ _ _ hr⟩
  · obtain ⟨aa, cap, nn, he, hobr⟩ := H.sr.objs id ob (getObj?_eq hob)
    rw [hs] at hy
    simp only [TR, CR, he] at hy
    obtain ⟨A, c, hv, q1, q2, q3, hA⟩ := hy
    have hrlen : rows.length = len := by rw [hr]; simp; omega
    rw [← hrlen] at hv
    refine key A c hv ?_
    rcases hA with hA | ⟨b, rfl, rfl, q5⟩
    · left; apply List.eq_nil_of_length_eq_zero; omega
    · rcases Nat.eq_zero_or_pos rows.length with h | h
      · exact .inl (List.eq_nil_of_length_eq_zero h)
      · right
        obtain ⟨_, _, hsp, _, cells, t, hh, hcap, hsz, hrr⟩ := hobr
        have hrr' : CRr D w.heap e ob.esz rows (cells.toList.drop (b.off + off * ob.esz)) := by
          rw [hr]
          have := CRr.take len (CRr.drop off hrr)
          rw [List.drop_drop] at this
          exact this
        have hes : ob.esz = size := by
          obtain ⟨r, hr0⟩ : ∃ r, rows[0]? = some r := ⟨rows[0], by simp [h]⟩
          rw [← (CRr.get hrr' hr0).1]; exact hrl r (List.mem_of_getElem? hr0)
        rw [hes] at hrr'
        exact ⟨_, cells, t, _, rfl, rfl, hh, by rw [hes]; exact hrr'⟩
  · rw [hs] at hy
    simp only [TR, CR, nilSl] at hy
    exact key none 0 hy.1 (.inl rfl)

end

section

variable {X : Pk} {N np : Nat} {G : Ctx} {D : Nat → Prop} {e : List ALoc} {σ σ' : State} {a : Act} {w : World} {K : KP}

def adoptC (n : Nat) (c : C) : C := match c with
  | .v x => match nilB x with
    | true => .os n 0 0 0
    | false => .v x
  | c => c

def adoptAt (n : Nat) : Nat → List C → List C
  | _, [] => []
  | 0, c :: cs => adoptC n c :: cs
  | j + 1, c :: cs => c :: adoptAt n j cs

def adoptT (n j : Nat) : T → T
  | .one c => .one (adoptC n c)
  | .agg cs => .agg (adoptAt n j cs)
  | t => t

/-- The nil slice in tmp 't' (of an aggregate: in its cell 'j') becomes an own object that is empty. -/
def adoptS (t j esz : Nat) (σ : State) : State := match σ with
  | ⟨ρ, o, κ⟩ => ⟨(t, adoptT o.length j (getρ ρ t)) :: ρ, snocO o ⟨esz, [], true, false, false⟩, κ⟩

theorem adoptC_CR {h : Array Obj} {n esz : Nat} {c : C} {y : Value} (hn : e[n]? = some (.live none esz 0 0)) (H : CR D h e c y) : CR D h e (adoptC n c) y := by
  unfold adoptC
  split
  · rename_i x
    split
    · rename_i hx
      simp only [CR] at H
      obtain ⟨rfl, _⟩ := H
      unfold nilB at hx
      split at hx
      · simp only [CR, hn]
        exact ⟨none, 0, rfl, Nat.le_refl _, Nat.le_refl _, Nat.le_refl _, .inl rfl⟩
      · cases hx
    · exact H
  · exact H

theorem adoptAt_CR {h : Array Obj} {n esz : Nat} (hn : e[n]? = some (.live none esz 0 0)) : ∀ {j : Nat} {cs : List C} {vs : List Value}, CRp D h e cs vs → CRp D h e (adoptAt n j cs) vs
  | j, [], vs, H => by cases j <;> simp [adoptAt, CRp]
  | j, c :: cs, [], H => by simp [CRp] at H
  | 0, c :: cs, v :: vs, H => by simp only [adoptAt, CRp] at H ⊢; exact ⟨adoptC_CR hn H.1, H.2⟩
  | j + 1, c :: cs, v :: vs, H => by simp only [adoptAt, CRp] at H ⊢; exact ⟨H.1, adoptAt_CR hn H.2⟩

theorem adoptAt_length (n : Nat) : ∀ (j : Nat) (cs : List C), (adoptAt n j cs).length = cs.length
  | j, [] => by cases j <;> rfl
  | 0, c :: cs => rfl
  | j + 1, c :: cs => by simp [adoptAt, adoptAt_length n j cs]

theorem adoptT_TR {h : Array Obj} {n esz j : Nat} {t : T} {y : Value} (hn : e[n]? = some (.live none esz 0 0)) (H : TR D h e t y) : TR D h e (adoptT n j t) y := by
  unfold adoptT
  split
  · simp only [TR] at H ⊢; exact adoptC_CR hn H
  · simp only [TR] at H ⊢
    obtain ⟨vs, hy, hl, hr⟩ := H
    exact ⟨vs, hy, by rw [adoptAt_length]; exact hl, adoptAt_CR hn hr⟩
  · exact H

theorem Rel.retmp (H : Rel N np G D e σ a w) {t : Nat} {x : T} (hx : TR D w.heap e x (a.tmps.getD t undef)) : Rel N np G D e ⟨(t, x) :: σ.ρ, σ.o, σ.k⟩ a w := by
  refine ⟨H.hnp, H.nple, H.ext, H.defers, H.size, fun u => ?_, H.sr, H.new, H.old, H.keep⟩
  simp only [getρ]
  split
  · rename_i hb
    have := Nat.eq_of_beq_eq_true hb
    subst this
    exact hx
  · exact H.tmps u

theorem Weak.adopt (t j esz : Nat) : Weak N np σ (adoptS t j esz σ) := fun {G D e a w} H => by
  have h1 := H.newEmpty (ob := ⟨esz, [], true, false, false⟩) rfl
  refine ⟨D, e ++ [.live none esz 0 0], ?_⟩
  have h2 := h1.retmp (t := t) (x := adoptT σ.o.length j (getρ σ.ρ t)) (adoptT_TR (esz := esz) (by rw [← H.sr.len]; exact getElem?_last _ _) (h1.tmps t))
  cases σ
  simpa only [adoptS, snocO_eq] using h2

theorem run_append_room {P : Program} {t t2 ty el el2 sz : Nat} {te : TI} (ht : P.underlying t = some (.slice el)) (ht2 : P.underlying t2 = some (.slice el2)) (hte : TIok P el te)
    {A : Option Addr} {l c n c2 : Nat} {B : Option Addr} {news : List Value} (hroom : l + n ≤ c) (hf : (Builtin.firstCells te.size n (.slice B n c2)).run P w = .ok news.toArray w) :
    (Builtin.append_ #[t, t2] ty #[.slice A l c, .slice B n c2]).run P w = match A with
      | none => .ok (.slice none (l + n) c) w
      | some ad => ((storeCells (ad.add (l * te.size)) news).run P w).andThen fun _ w' => .ok (.slice (some ad) (l + n) c) w' := by
  have hz := hte.sizeOf w
  cases A with
  | none => simp [Builtin.append_, run_underlying ht, run_underlying ht2, hz, Builtin.lenOf, hroom, hf]
  | some ad => simp [Builtin.append_, run_underlying ht, run_underlying ht2, hz, Builtin.lenOf, hroom, hf]

theorem TIok.typeInfo {P : Program} {t : Nat} {ti : TI} (H : TIok P t ti) : ∃ i, P.info? t = some i ∧ (∀ w : World, (Go.typeInfo t).run P w = .ok i w) ∧ i.size = ti.size ∧ i.bytes = ti.bytes := by
  obtain ⟨i, z, hi, hs, hb, _⟩ := H.info
  exact ⟨i, hi, fun w => by simp [Go.typeInfo, hi], hs, hb⟩

theorem run_append_grown {P : Program} {t t2 ty el el2 : Nat} {te : TI} (ht : P.underlying t = some (.slice el)) (ht2 : P.underlying t2 = some (.slice el2)) (hte : TIok P el te)
    {A : Option Addr} {l c n c2 : Nat} {B : Option Addr} {olds news : List Value} (hroom : ¬ l + n ≤ c) (hb : (l + n) * te.bytes ≤ 140737488355328) (hL : l + n ≤ 140737488355328)
    (hfo : (Builtin.firstCells te.size l (.slice A l c)).run P w.drew = .ok olds.toArray w.drew) (hf : (Builtin.firstCells te.size n (.slice B n c2)).run P w.drew = .ok news.toArray w.drew) :
    ∃ rest, (Builtin.append_ #[t, t2] ty #[.slice A l c, .slice B n c2]).run P w = .ok (.slice (some ⟨w.heap.size, 0, none⟩) (l + n) (grownCap w (l + n) c el))
      (w.drew.alloc (.cells (olds ++ news ++ rest).toArray el)) ∧ rest.length = (grownCap w (l + n) c el - (l + n)) * te.size := by
  obtain ⟨i, hi, hinf, hs, hby⟩ := hte.typeInfo
  obtain ⟨z, hz, hzc, hzl, _⟩ := hte.zeroValue'
  have hzs : z.cells.size = te.size := by have := (zcells_CRp (D := fun _ => False) (h := #[]) (e := []) hzc).2; simp at this; omega
  have hfit : Builtin.nextslicecap (l + n) c * te.bytes ≤ 281474976710656 := growslice_fits (by omega) hb
  have h48 : ¬ (281474976710656 < Builtin.nextslicecap (l + n) c * te.bytes) := by omega
  have h63 : ¬ (9223372036854775807 < ((l : Int) + (n : Int))) := by omega
  have hzo := hte.sizeOf w
  refine ⟨(Builtin.zeroCells z.cells (grownCap w (l + n) c el - (l + n))).toList, ?_, by simp [size_zeroCells, hzs]⟩
  simp [Builtin.append_, run_underlying ht, run_underlying ht2, hzo, Builtin.lenOf, hroom, hinf, hby, h48, h63, Question.forced, hf, hfo, newRow, grownCap, hz]
  congr 2
  apply Array.ext'
  simp [List.append_assoc]

/-- What is appended to: nothing, or an own slice from its object's start. -/
def Dst (np : Nat) (σ : State) (t : T) (esz : Nat) (md : Option Nat) (old : List (List C)) : Prop :=
  (t = .one nilSl ∧ md = none ∧ old = []) ∨
  (∃ id len kc ob, t = .one (.os id 0 len kc) ∧ md = some id ∧ np ≤ id ∧ getObj? σ id = some ob ∧ ob.fz = false ∧ ob.esz = esz ∧ len ≤ ob.elems.length ∧ old = ob.elems.take len)

theorem Dst.nil {t : T} {esz : Nat} (h : t = .one nilSl) : Dst np σ t esz none [] := .inl ⟨h, rfl, rfl⟩

theorem Dst.own {t : T} {esz id len kc : Nat} {ob : AObj} {old : List (List C)} (h : t = .one (.os id 0 len kc)) (hge : Nat.ble np id = true) (hob : getObj? σ id = some ob) (hf : ob.fz = false) (hes : ob.esz = esz) (hl : len ≤ ob.elems.length) (ho : old = ob.elems.take len) :
    Dst np σ t esz (some id) old := .inr ⟨id, len, kc, ob, h, rfl, Nat.le_of_ble_eq_true hge, hob, hf, hes, hl, ho⟩

def killO : Option Nat → List (Option AObj) → List (Option AObj)
  | none, o => o
  | some id, o => setNth o id none

/-- The state behind 'append': the slice that was appended to is given up. -/
def appendS (dst : Option Nat) (md : Option Nat) (esz : Nat) (rows : List (List C)) (n : Nat) (cl : Bool) (σ : State) : State := match σ with
  | ⟨ρ, o, κ⟩ => putS dst (.one (.os o.length 0 n n)) ⟨ρ, snocO (killO md o) ⟨esz, rows, cl, false, false⟩, κ⟩

theorem appendS_put {dst md : Option Nat} {esz : Nat} {rows : List (List C)} {cl : Bool} (hd : dstB N dst = true) {o1 : List (Option AObj)} (ho1 : o1 = killO md σ.o) (hl : o1.length = σ.o.length) :
    putT N dst (.one (.os o1.length 0 rows.length rows.length)) ⟨σ.ρ, o1 ++ [some ⟨esz, rows, cl, false, false⟩], σ.k⟩ = some (appendS dst md esz rows rows.length cl σ) := by
  rw [putS_eq hd]
  cases σ
  cases md with
  | none => subst ho1; simp only [appendS, snocO_eq, killO]
  | some id => subst ho1; simp only [appendS, snocO_eq, killO, setNth_eq, List.length_set]

theorem Rel.emptySlice (H : Rel N np G D e σ a w) {dst : Option Nat} {esz : Nat} {cl : Bool} {A : Option Addr} {σ' : State}
    (hp : putT N dst (.one (.os σ.o.length 0 0 0)) ⟨σ.ρ, σ.o ++ [some ⟨esz, [], cl, false, false⟩], σ.k⟩ = some σ') :
    Rel N np G D (e ++ [.live none esz 0 0]) σ' (a.put dst (.slice A 0 0)) w := by
  have h1 := H.newEmpty (ob := ⟨esz, [], cl, false, false⟩) rfl
  refine h1.putv ?_ hp
  simp only [TR, CR]
  rw [← H.sr.len, getElem?_last]
  exact ⟨A, 0, rfl, Nat.le_refl _, Nat.le_refl _, Nat.le_refl _, .inl rfl⟩

theorem dA_append {o : Oper} {x y : Operand} {t t2 : TypeId} {old rows : List (List C)} (all : List (List C)) (n : Nat) (cl : Bool) {md : Option Nat} {ti ti2 te : TI}
    (hx : Dst np σ (evalO σ x) te.size md old) (hy : Src σ (evalO σ y) rows) (ho : o.op = .call ⟨.builtin .append, #[x, y], #[t, t2]⟩) (hti : findTI X.L t = some ti) (hk : ti.kind = 2) (hti2 : findTI X.L t2 = some ti2) (hk2 : ti2.kind = 2) (hte : findTI X.L ti.elem = some te)
    (h0 : Nat.blt 0 te.size = true) (hd : dstB N o.dst = true) (hro : ∀ r ∈ old, r.length = te.size) (hrr : ∀ r ∈ rows, r.length = te.size) (hb : (old.length + rows.length) * te.bytes ≤ 140737488355328) (hL : old.length + rows.length ≤ 140737488355328)
    (hall : all = old ++ rows) (hn : all.length = n) (hcl : cl = true → noOwnR all = true) :
    DidA X N np o (.e md) σ (appendS o.dst md te.size all n cl σ) := fun {G D e a w} H => by
  subst hn
  have h0' : 0 < te.size := by simpa [Nat.blt_eq] using h0
  have hu := (X.tiok hti).slice hk
  have hu2 := (X.tiok hti2).slice hk2
  have hte' := X.tiok hte
  obtain ⟨B, c2, news, hyv, hnl, hnr, hnf⟩ := Src.cells (X := X) H hy hrr h0'
  have hn1 := CRr.oneCell hnl hnr
  have hlall : all.length = old.length + rows.length := by rw [hall]; simp
  -- the slice that is appended to, zs a value, and its cells
  have hxs : Src σ (evalO σ x) old := by
    rcases hx with ⟨h, _, rfl⟩ | ⟨id, len, kc, ob, h, _, _, hob, _, _, hl, ho⟩
    · exact .inr (.inr ⟨h, rfl⟩)
    · exact .inr (.inl ⟨id, 0, len, kc, ob, h, hob, by omega, by simpa using ho⟩)
  obtain ⟨A, c, olds, hxv, hol, hor, hof⟩ := Src.cells (X := X) H hxs hro h0'
  have ho1 := CRr.oneCell hol hor
  have hexec : ∀ (r : Result Value), (Builtin.append_ #[t, t2] o.type #[a.eval x, a.eval y]).run X.P w = r → (execOp a.eval o).run X.P w = r.andThen fun v w' => .ok (.value v) w' := by
    intro r hr
    subst hr
    simp [execOp, ho, resolve, invoke, Go.builtin]
  -- what is given up
  obtain ⟨o1, e1, ho1e, ho1l, H1, hle, hfree, hpres⟩ : ∃ (o1 : List (Option AObj)) (e1 : List ALoc), o1 = killO md σ.o ∧ o1.length = σ.o.length ∧ Rel N np G D e1 ⟨σ.ρ, o1, σ.k⟩ a w ∧ Leads e e1 ∧
      (∀ (id : Nat) (b : Addr) (esz cap n : Nat), e1[id]? = some (.live (some b) esz cap n) → md ≠ some id) ∧
      (∀ (id : Nat), ¬ md = some id → e1[id]? = e[id]?) := by
    rcases hx with ⟨h, rfl, _⟩ | ⟨id, len, kc, ob, h, rfl, hge, hob, hf, _, hl, ho⟩
    · exact ⟨σ.o, e, rfl, rfl, H, Leads.refl e, by simp, by simp⟩
    · refine ⟨σ.o.set id none, e.set id .dead, by simp [killO, setNth_eq], by simp, H.kill hge (fun ob' h' => by rw [getObj?_eq hob] at h'; simp at h'; subst h'; exact hf), ?_, ?_, ?_⟩
      · intro id' l hl'
        rw [getElem?_set_ite]
        by_cases hii : id = id'
        · subst hii; right; simp [lt_of_some hl']
        · left; simp [hii, hl']
      · intro id' b esz cap n he hii
        simp at hii
        subst hii
        rw [getElem?_set_ite, if_pos rfl] at he
        split at he <;> simp at he
      · intro id' hii
        rw [getElem?_set_ite, if_neg (fun h => hii (by rw [h]))]
  have hnle : ∀ (id : Nat), ¬ md = some id → ∀ (b : Addr) (esz cap n : Nat) (l : ALoc), e[id]? = some (.live (some b) esz cap n) → (e1 ++ [l])[id]? = some (.live (some b) esz cap n) := by
    intro id hid b esz cap n l he
    rw [List.getElem?_append_left (by have := H1.sr.len; simp only at this; rw [this, ho1l, ← H.sr.len]; exact lt_of_some he), hpres id hid]; exact he
  have hput := fun (rs : List (List C)) => appendS_put (N := N) (dst := o.dst) (md := md) (esz := te.size) (rows := rs) (cl := cl) (σ := σ) hd ho1e ho1l
  by_cases hroom : old.length + rows.length ≤ c
  · have hrun := run_append_room (P := X.P) (ty := o.type) (w := w) (sz := 0) hu hu2 hte' (A := A) (c2 := c2) (B := B) hroom (by have := hnf w rfl; rw [hyv] at this; exact this)
    rw [hxv, hyv] at hexec
    have empt : c = 0 → (Builtin.append_ #[t, t2] o.type #[.slice A old.length c, .slice B rows.length c2]).run X.P w = .ok (.slice A 0 0) w → Did X N np G D e o a w (.e md) σ (appendS o.dst md te.size all all.length cl σ) := by
      intro hc hr
      have hz : all = [] := List.eq_nil_of_length_eq_zero (by omega)
      subst hz
      refine ⟨D, _, _, _, w, by rw [hexec _ hr]; rfl, .inl rfl, H1.emptySlice (A := A) (hput []), Fixes.refl _ _, fun id hid b esz cap n he => ⟨hnle id hid b esz cap n _ he, rfl⟩⟩
    rcases Nat.eq_zero_or_pos c with hc | hc
    · subst hc
      have ho0 : old.length = 0 := by omega
      have hr0 : rows.length = 0 := by omega
      refine empt rfl ?_
      rw [hrun]
      have hn0 : news = [] := List.eq_nil_of_length_eq_zero (by rw [hnl, hr0]; simp)
      cases A with
      | none => simp [ho0, hr0]
      | some ad => simp [ho0, hr0, hn0, storeCells]
    · -- in place
      rcases hx with ⟨h, rfl, _⟩ | ⟨id, len, kc, ob, h, rfl, hge, hob, hf, hesz, hl, hoe⟩
      · have hx' := H.ev x
        rw [h] at hx'
        simp only [TR, CR, nilSl] at hx'
        rw [hxv] at hx'
        simp only [Value.slice.injEq] at hx'
        omega
      · obtain ⟨aa, cap, nn, he, hobr⟩ := H.sr.objs id ob (getObj?_eq hob)
        have hx' := H.ev x
        rw [h] at hx'
        simp only [TR, CR, he] at hx'
        obtain ⟨A', c', hv', q1, q2, q3, q4⟩ := hx'
        rw [hxv] at hv'
        simp only [Value.slice.injEq] at hv'
        obtain ⟨rfl, hlen, rfl⟩ := hv'
        rcases q4 with q4 | ⟨b, rfl, rfl, q5⟩
        · omega
        · obtain ⟨hnn, hclo, hsp, _, cells, t', hh, hcap, hsz, hrr'⟩ := hobr
          have hfz : ¬ D b.block := fun hD => by
            obtain ⟨ob', ho', hf'⟩ := (H.sr.own id b _ _ _ he).2 hD
            rw [getObj?_eq hob] at ho'; simp at ho'; subst ho'; rw [hf] at hf'; cases hf'
          have hcc : (old.length + rows.length) * te.size ≤ cap * ob.esz := by rw [hesz]; exact Nat.mul_le_mul_right _ (by omega)
          rw [Nat.add_mul] at hcc
          have hst := run_storeCells_at X.P b.block (b.off + old.length * te.size) t' news 0 cells w hh (by rw [hnl]; omega) hn1
          simp only [Nat.add_zero] at hst
          obtain ⟨cells', hcs'⟩ : ∃ cs, cs = (cells.toList.take (b.off + old.length * te.size) ++ news ++ cells.toList.drop (b.off + old.length * te.size + news.length)).toArray := ⟨_, rfl⟩
          rw [← hcs'] at hst
          have hsize : cells'.size = cells.size := by rw [hcs']; simp [hnl]; omega
          have hcrr : CRr D w.heap e1 te.size all (cells'.toList.drop b.off) := by
            have h1 : cells'.toList.drop b.off = (cells.toList.drop b.off).take (old.length * te.size) ++ (news ++ cells.toList.drop (b.off + old.length * te.size + news.length)) := by
              rw [hcs']
              simp only [List.toList_toArray, List.append_assoc]
              rw [List.drop_append_of_le_length (by simp; omega), List.drop_take]
              congr 2
              omega
            rw [h1, hall, CRr.app]
            refine ⟨CRr.more ?_, ?_⟩
            · have h2 := CRr.take len hrr'
              rw [← hoe, hesz] at h2
              refine CRr.congr (fun j hj => ?_) (CRr.mono (Fixes.refl _ _) _ _ hle _ _ _ h2)
              rw [List.getElem?_take, if_pos hj]
            · have h3 : ((cells.toList.drop b.off).take (old.length * te.size)).length = old.length * te.size := by simp; omega
              rw [List.drop_append_of_le_length (by omega), List.drop_eq_nil_of_le (by omega), List.nil_append]
              exact CRr.more (CRr.mono (Fixes.refl _ _) _ _ hle _ _ _ hnr)
          have H2 := H1.newObjIn (ob := ⟨te.size, all, cl, false, false⟩) (off := b.off) (cap := cap) (cells := cells) (cells' := cells') hh hfz (fun id' b' esz' cap' n' he' hbb => by
              have hne := hfree id' b' _ _ _ he'
              rw [hpres id' (fun h => hne h)] at he'
              have := H.sr.sep id' id b' b _ _ _ _ _ _ he' he hbb
              subst this
              exact hne rfl) (H.newer hge he) rfl hcl (by simp only; omega) hsize (by simp only; rw [← hesz]; exact hsz) hcrr
          refine ⟨D, _, _, .slice (some ⟨b.block, b.off + 0 * ob.esz, none⟩) (old.length + rows.length) c, w.setRow b.block cells', ?_, .inl rfl, H2.putv ?_ (hput all), ?_⟩
          · rw [hexec _ hrun]
            simp [add_eq, hst]
          · simp only [TR, CR]
            rw [show o1.length = e1.length from H1.sr.len.symm, getElem?_last]
            simp only
            refine ⟨_, c, by rw [hlall], Nat.le_refl _, by omega, by omega, .inr ⟨_, rfl, ?_, by omega⟩⟩
            cases b
            simp at hsp
            simp [hsp]
          · refine ⟨fun b' hb' => ⟨hb', setRow_other w _ _ _ (fun hbb => hfz (hbb ▸ hb'))⟩, fun id' hid' b' esz' cap' n' he' => ⟨hnle id' hid' b' esz' cap' n' _ he', setRow_other w _ _ _ (fun hbb => hid' ?_)⟩⟩
            rw [H.sr.sep id' id b' b _ _ _ _ _ _ he' he hbb]
  · obtain ⟨rest', hrun, hrl⟩ := run_append_grown (P := X.P) (ty := o.type) (w := w) hu hu2 hte' (A := A) (l := old.length) (c := c) (n := rows.length) (c2 := c2) (B := B) (olds := olds) (news := news) hroom hb hL
      (by have := hof w.drew rfl; rw [hxv] at this; exact this) (by have := hnf w.drew rfl; rw [hyv] at this; exact this)
    rw [hxv, hyv] at hexec
    have hge := grownCap_ge w (old.length + rows.length) c ti.elem
    have H2 := H1.newObj (w' := w.drew.alloc (.cells (olds ++ news ++ rest').toArray ti.elem)) (ob := ⟨te.size, all, cl, false, false⟩) (cap := grownCap w (old.length + rows.length) c ti.elem)
      (cells := (olds ++ news ++ rest').toArray) (t := ti.elem) rfl rfl rfl rfl rfl hcl (by simp only; omega) (by
        simp [hol, hnl, hrl, ← Nat.add_mul]
        refine Nat.mul_le_mul_right _ ?_
        omega) (by
        simp only [List.append_assoc, hall]
        rw [CRr.app]
        refine ⟨CRr.more (CRr.mono (Fixes.refl _ _) _ _ hle _ _ _ hor), ?_⟩
        rw [← hol, List.drop_left]
        exact CRr.more (CRr.mono (Fixes.refl _ _) _ _ hle _ _ _ hnr))
    refine ⟨D, _, _, .slice (some ⟨w.heap.size, 0, none⟩) (old.length + rows.length) (grownCap w (old.length + rows.length) c ti.elem), _, by rw [hexec _ hrun]; rfl, .inl rfl, H2.putv ?_ (hput all), ?_⟩
    · simp only [TR, CR]
      rw [show o1.length = e1.length from H1.sr.len.symm, getElem?_last]
      simp only
      exact ⟨_, _, by rw [hlall], Nat.le_refl _, by omega, by omega, .inr ⟨_, rfl, by simp, by omega⟩⟩
    · refine ⟨H.sr.fixes_push _, fun id' hid' b' esz' cap' n' he' => ⟨hnle id' hid' b' esz' cap' n' _ he', heap_push_old _ _ (H.sr.own id' b' _ _ _ he').1⟩⟩

end

section

variable {X : Pk} {N np : Nat} {G : Ctx} {D : Nat → Prop} {e : List ALoc} {σ σ' : State} {a : Act} {w : World} {K : KP}

theorem zcell_noOwn {v : Value} {c : C} (H : zcell v c = true) : noOwn c = true := by
  unfold zcell at H
  split at H <;> simp_all [noOwn]

theorem zcells_noOwn : ∀ {vs : List Value} {cs : List C}, zcells vs cs = true → noOwnL cs = true
  | [], [], _ => rfl
  | v :: vs, c :: cs, H => by simp only [zcells, Bool.and_eq_true] at H; simp [noOwnL, zcell_noOwn H.1, zcells_noOwn H.2]
  | [], c :: cs, H => by simp [zcells] at H
  | v :: vs, [], H => by simp [zcells] at H

theorem noOwnR_rep {z : List C} (h : noOwnL z = true) : ∀ n, noOwnR (List.replicate n z) = true
  | 0 => rfl
  | n + 1 => by simp [List.replicate_succ, noOwnR, h, noOwnR_rep h n]

theorem run_equal_nil {P : Program} {t el : Nat} (hu : P.underlying t = some (.slice el)) (A : Option Addr) (l c : Nat) (w : World) : (Op.equal t (.slice A l c) (.slice none 0 0)).run P w = .ok A.isNone w := by
  show (Op.equalIn (9999 + 1) t _ _).run P w = _
  rw [Op.equalIn]
  simp only [Sem.run_bind, run_underlying hu, Result.andThen_ok]
  cases A <;> rfl

theorem Src.val (H : Rel N np G D e σ a w) {y : Operand} {rows : List (List C)} (hs : Src σ (evalO σ y) rows) : ∃ A c, a.eval y = .slice A rows.length c ∧ (A = none → rows = []) := by
  have hy := H.ev y
  rcases hs with hs | ⟨id, off, len, kc, ob, hs, hob, hl, hr⟩ | ⟨hs, rfl⟩
  · rw [hs] at hy
    simp only [TR, CR] at hy
    obtain ⟨A, c, hv, hc, hr⟩ := hy
    refine ⟨A, c, hv, fun h => ?_⟩
    rcases hr with hr | ⟨ad, _, _, _, _, h', _⟩
    · exact hr
    · rw [h] at h'; cases h'
  · obtain ⟨aa, cap, nn, he, hobr⟩ := H.sr.objs id ob (getObj?_eq hob)
    rw [hs] at hy
    simp only [TR, CR, he] at hy
    obtain ⟨A, c, hv, q1, q2, q3, hA⟩ := hy
    have hrlen : rows.length = len := by rw [hr]; simp; omega
    refine ⟨A, c, by rw [hrlen]; exact hv, fun h => ?_⟩
    rcases hA with hA | ⟨b, _, h', _⟩
    · exact List.eq_nil_of_length_eq_zero (by omega)
    · rw [h] at h'; cases h'
  · rw [hs] at hy
    simp only [TR, CR, nilSl] at hy
    exact ⟨none, 0, hy.1, fun _ => rfl⟩

/-- 'xs == nil': it may say yes of what is empty. -/
theorem step_eqNil {ops : Array Oper} {i : Nat} {dst : Option Nat} {x y : Operand} {t ty ty' : TypeId} {pos : String} {aft : Array Edge} {g : Option (Nat × Bool)} {rows : List (List C)} {ti : TI}
    (ho : nthA ops i = some ⟨dst, .binOp .eql t x y ty, ty', pos, aft, g⟩) (hg : guardOf N ops g σ = .go) (hx : Src σ (evalO σ x) rows) (hy : evalO σ y = .one nilSl) (hti : findTI X.L t = some ti) (hk : ti.kind = 2) (hd : dstB N dst = true) :
    StepA X N np ops i (fun _ => False) σ (fun σ2 => ∃ b : Bool, (b = true → rows = []) ∧ σ2 = putS dst (.one (.bool b)) σ) := by
  intro G D e a w Q K' H next
  rw [nthA_eq] at ho
  unfold wpOp
  simp only [ho, (guardOf_spec H (ops := ops) (o := ⟨dst, .binOp .eql t x y ty, ty', pos, aft, g⟩)).1 hg, if_true]
  left
  obtain ⟨A, c, hv, hA⟩ := Src.val H hx
  have hyv := H.ev y
  rw [hy] at hyv
  simp only [TR, CR, nilSl] at hyv
  have hu := (X.tiok hti).slice hk
  have hrun : (execOp a.eval ⟨dst, .binOp .eql t x y ty, ty', pos, aft, g⟩).run X.P w = .ok (.value (.bool A.isNone)) w := by
    have h1 : (Go.binOp .eql t (.slice A rows.length c) (.slice none 0 0)).run X.P w = .ok (.bool A.isNone) w := by
      show (Op.equal t _ _ >>= fun r => pure (Value.bool r)).run X.P w = _
      simp only [Sem.run_bind, run_equal_nil hu, Result.andThen_ok, Sem.run_pure]
    simp only [execOp, hv, hyv.1, eqGuard]
    simp [h1]
  unfold Oper.wp
  rw [hrun]
  simp only [Oper.upon]
  refine next D e _ _ w (H.putv (x := .one (.bool A.isNone)) (by simp only [TR, CR]) (putS_eq hd)) (Pres.refl _ _ _ _) ⟨A.isNone, fun h => hA ?_, rfl⟩
  cases A with
  | none => rfl
  | some _ => simp at h

theorem dA_concat {o : Oper} {x y : Operand} {t ty : TypeId} {s s' : Str} (r : Str) (ho : o.op = .binOp .add t x y ty) (hx : evalO σ x = .one (.str s)) (hy : evalO σ y = .one (.str s')) (hl : s.length + s'.length ≤ 4611686018427387904) (hr : r = s ++ s') (hd : dstB N o.dst = true) :
    DidA X N np o (.q none) σ (putS o.dst (.one (.str r)) σ) := fun {G D e a w} H => by
  have hxv := one_str (hx ▸ H.ev x)
  have hyv := one_str (hy ▸ H.ev y)
  refine Did.pure H (v := .string ⟨(s ++ s').toArray⟩) (fun w _ => ?_) (by simp only [TR, CR, hr]) (putS_eq hd)
  have hsz : ¬ (9223372036854775807 < ((s.length : Int) + (s'.length : Int))) := by omega
  simp [execOp, ho, hxv, hyv, eqGuard, Go.binOp, Op.stringOp, ByteArray.size, hsz]
  apply ByteArray.ext
  simp [ByteArray.data_append]

end

section

variable {X : Pk} {N np : Nat} {G : Ctx} {D : Nat → Prop} {e : List ALoc} {σ σ' : State} {a : Act} {w : World} {K : KP}

theorem rn {c c' : Cfg} {σ σ' : State} (hr : run X.L N 1000 c σ = some (c', σ')) (h : goal X N np K c' σ') : goal X N np K c σ := run_sound 1000 _ _ _ _ hr h

def tellT1 {β : Type} (t : T) (k : T → Option β) : Option β :=
  match t with
  | .one c => tellC c fun c => k (.one c)
  | .agg cs => forceL cs fun cs => k (.agg cs)
  | .tup ts => k (.tup ts)
  | .junk => k .junk

theorem tellT1_eq {β : Type} (t : T) (k : T → Option β) : tellT1 t k = k t := by cases t <;> simp [tellT1, tellC_eq, forceL_eq]

def tellTs {β : Type} : List T → (List T → Option β) → Option β
  | [], k => k []
  | t :: ts, k => tellT1 t fun t => tellTs ts fun r => k (t :: r)

theorem tellTs_eq {β : Type} : ∀ (ts : List T) (k : List T → Option β), tellTs ts k = k ts
  | [], k => rfl
  | t :: ts, k => by simp [tellTs, tellT1_eq, tellTs_eq ts]

def tellT {β : Type} (t : T) (k : T → Option β) : Option β :=
  match t with
  | .tup ts => tellTs ts fun ts => k (.tup ts)
  | t => tellT1 t k

theorem tellT_eq {β : Type} (t : T) (k : T → Option β) : tellT t k = k t := by cases t <;> simp [tellT, tellT1_eq, tellTs_eq]

/-- What is returned, told in full. -/
def finC (L : List (Nat × TI)) (fn : Func) (np : Nat) (ks : List Nat) (d : Nat) (σ : State) : Option (T × List (Option AObj)) :=
  match nodupB (rangeL 0 np ks), resT L fn σ with
  | true, some t => tellT (reT (fun id => idxOf (rangeL 0 np ks) id 0) (fzAll (fun id => idxOf (rangeL 0 np ks) id 0) 0 σ.o) d t) fun r =>
      forceO (pickO (fzAll (fun id => idxOf (rangeL 0 np ks) id 0) 0 σ.o) d (rangeL 0 np ks)) fun o' => some (r, o')
  | _, _ => none

theorem fin_is {fn : Func} {Φ : Post} {r : T} {o' : List (Option AObj)} (ks : List Nat) (hc : finC X.L fn np ks 4 σ = some (r, o')) (h : Φ r o') : ∃ σ', Weak fn.ntmps np σ σ' ∧ Fin X fn np Φ σ' := by
  refine fin_now ?_
  unfold finC at hc
  split at hc
  · rename_i t hnd ht
    rw [tellT_eq, forceO_eq] at hc
    simp only [Option.some.injEq, Prod.mk.injEq] at hc
    obtain ⟨rfl, rfl⟩ := hc
    exact ⟨ks, 4, t, hnd, ht, h⟩
  · cases hc

/-- The same, a nil slice in tmp 't' taken zs an own one. -/
theorem fin_adopt {fn : Func} {Φ : Post} {r : T} {o' : List (Option AObj)} (t j esz : Nat) (ks : List Nat) (hc : finC X.L fn np ks 4 (adoptS t j esz σ) = some (r, o')) (h : Φ r o') : ∃ σ', Weak fn.ntmps np σ σ' ∧ Fin X fn np Φ σ' := by
  obtain ⟨σ', hw, hf⟩ := fin_is ks hc h
  exact ⟨σ', Weak.trans (Weak.adopt t j esz) hw, hf⟩

/-- An object is told otherwise: its memory is zs it was. -/
theorem Rel.reObj (H : Rel N np G D e σ a w) {id : Nat} {ob ob' : AObj} (hid : σ.o[id]? = some (some ob)) (hes : ob'.esz = ob.esz) (hfz : ob'.fz = ob.fz)
    (hr : ∀ aa cap n, ObjR D w.heap e ob aa cap n → ObjR D w.heap e ob' aa cap n) : Rel N np G D e ⟨σ.ρ, σ.o.set id (some ob'), σ.k⟩ a w := by
  have hidlt := lt_of_some hid
  refine ⟨H.hnp, by simpa using H.nple, H.ext, H.defers, H.size, H.tmps, ⟨by simpa using H.sr.len, ?_, ?_, H.sr.sep, H.sr.dom⟩, H.new, H.old, H.keep⟩
  · intro id' ob1 hid'
    rw [getElem?_set_ite] at hid'
    by_cases hii : id = id'
    · subst hii
      simp [hidlt] at hid'
      subst hid'
      obtain ⟨aa, cap, n, he, hob⟩ := H.sr.objs id ob hid
      exact ⟨aa, cap, n, by rw [hes]; exact he, hr aa cap n hob⟩
    · rw [if_neg hii] at hid'
      exact H.sr.objs id' ob1 hid'
  · intro id' b esz cap n he
    obtain ⟨h1, h2⟩ := H.sr.own id' b _ _ _ he
    refine ⟨h1, fun hD => ?_⟩
    obtain ⟨ob1, ho1, hf1⟩ := h2 hD
    by_cases hii : id = id'
    · subst hii
      rw [hid] at ho1; simp at ho1; subst ho1
      exact ⟨ob', by rw [getElem?_set_ite]; simp [hidlt], by rw [hfz]; exact hf1⟩
    · exact ⟨ob1, by rw [getElem?_set_ite, if_neg hii]; exact ho1, hf1⟩

/-- A nil slice in cell 'j' of the variable 'id' becomes an own object that is empty. -/
def adoptO (id j esz : Nat) (σ : State) : State := match σ with
  | ⟨ρ, o, κ⟩ => match nth o id with
    | some (some ⟨es, [row], false, fz, bx⟩) => ⟨ρ, setNth (snocO o ⟨esz, [], true, false, false⟩) id (some ⟨es, [adoptAt o.length j row], false, fz, bx⟩), κ⟩
    | _ => ⟨ρ, o, κ⟩

theorem Weak.adoptO (id j esz : Nat) : Weak N np σ (adoptO id j esz σ) := fun {G D e a w} H => by
  cases σ with
  | mk ρ o κ =>
  unfold Go.Proofs.YtbenojnoepkgbaaDoor.adoptO
  simp only
  split
  · rename_i es row fz bx hn
    rw [nth_eq] at hn
    have h1 := H.newEmpty (ob := ⟨esz, [], true, false, false⟩) rfl
    have hlast : (e ++ [ALoc.live none esz 0 0])[o.length]? = some (.live none esz 0 0) := by
      have := H.sr.len; simp only at this; rw [← this]; exact getElem?_last _ _
    have hid' : (o ++ [some ⟨esz, [], true, false, false⟩])[id]? = some (some ⟨es, [row], false, fz, bx⟩) := by
      rw [List.getElem?_append_left (lt_of_some hn)]; exact hn
    refine ⟨D, e ++ [.live none esz 0 0], ?_⟩
    rw [setNth_eq, snocO_eq]
    refine h1.reObj hid' rfl rfl ?_
    rintro aa cap n ⟨q1, q2, q3⟩
    refine ⟨q1, by simp, ?_⟩
    cases aa with
    | none => simp at q3
    | some b =>
      obtain ⟨z1, z2, cells, t, z3, z4, z5, z6⟩ := q3
      refine ⟨z1, z2, cells, t, z3, z4, z5, ?_⟩
      simp only [CRr] at z6 ⊢
      exact ⟨by rw [adoptAt_length]; exact z6.1, adoptAt_CR hlast z6.2.1, trivial⟩
  · exact ⟨D, e, H⟩

theorem fin_weak {fn : Func} {Φ : Post} {σ' : State} (hw : Weak fn.ntmps np σ σ') (h : ∃ σ'', Weak fn.ntmps np σ' σ'' ∧ Fin X fn np Φ σ'') : ∃ σ', Weak fn.ntmps np σ σ' ∧ Fin X fn np Φ σ' := by
  obtain ⟨σ2, hw2, hf⟩ := h
  exact ⟨σ2, Weak.trans hw hw2, hf⟩

def rowB (b : UInt8) : List C := [.int .u8 b.toNat]

theorem bytes_cells {h : Array Obj} : ∀ {s : Str} {vs : List Value}, vs.length = (s.map rowB).length * 1 → CRr D h e 1 (s.map rowB) vs → vs = (s.map fun b => (b.toNat : Int)).map (Value.int .u8)
  | [], vs, hl, _ => by simp at hl; subst hl; rfl
  | b :: s, [], hl, _ => by simp at hl
  | b :: s, v :: vs, hl, H => by
    simp only [List.map_cons, CRr, rowB, CRp, CR, List.drop_succ_cons, List.drop_zero] at H
    obtain ⟨_, ⟨rfl, _⟩, h2⟩ := H
    rw [bytes_cells (by simpa using hl) h2]
    simp

theorem foldl_push : ∀ (s : Str) (r : ByteArray), (s.map fun b => (b.toNat : Int)).foldl (fun r n => r.push (UInt8.ofNat n.toNat)) r = ⟨(r.data.toList ++ s).toArray⟩
  | [], r => by cases r; simp
  | b :: s, r => by
    simp only [List.map_cons, List.foldl_cons]
    rw [foldl_push s]
    apply ByteArray.ext
    apply Array.ext'
    simp

/-- string(bs), bs bytes. -/
theorem dA_ofBytes {o : Oper} {x : Operand} {t t2 : TypeId} (s : Str) {rows : List (List C)} {ti ti2 te : TI}
    (hx : Src σ (evalO σ x) rows) (ho : o.op = .convert t t2 x) (hti : findTI X.L t = some ti) (hk : ti.kind = 2) (hte : findTI X.L ti.elem = some te) (hkt : te.kind = 4) (hik : te.ik = .u8) (hti2 : findTI X.L t2 = some ti2) (hk2 : ti2.kind = 1)
    (hd : dstB N o.dst = true) (hrows : rows = s.map rowB) : DidA X N np o (.e none) σ (putS o.dst (.one (.str s)) σ) := fun {G D e a w} H => by
  have hu := (X.tiok hti).slice hk
  have hu2 := (X.tiok hti2).string hk2
  have hue := (X.tiok hte).int hkt
  rw [hik] at hue
  obtain ⟨A, c, news, hxv, hnl, hnr, hnf⟩ := Src.cells (X := X) H hx (size := 1) (by intro r hr; rw [hrows] at hr; obtain ⟨b, _, rfl⟩ := List.mem_map.1 hr; rfl) (by omega)
  have hlen : rows.length = s.length := by rw [hrows]; simp
  subst hrows
  have hnews := bytes_cells hnl hnr
  refine ⟨D, e, _, .string ⟨s.toArray⟩, w, ?_, .inl rfl, H.putv (x := .one (.str s)) (by simp only [TR, CR]) (putS_eq hd), Pres.refl _ _ _ _⟩
  have hf := hnf w rfl
  rw [hxv] at hf
  have hr : (Conv.bytesToString (a.eval x)).run X.P w = .ok (.string ⟨s.toArray⟩) w := by
    rw [hxv]
    cases A with
    | none =>
      simp only [Builtin.firstCells, Sem.run_pure, Result.ok.injEq, and_true] at hf
      have h0 : news = [] := by
        have := congrArg Array.toList hf
        simpa using this.symm
      have hs : s = [] := by
        apply List.eq_nil_of_length_eq_zero
        rw [h0] at hnl
        simpa using hnl.symm
      subst hs
      rfl
    | some ad =>
      simp only [Builtin.firstCells, Nat.mul_one] at hf
      rw [hnews] at hf
      rw [run_bytesToString w ad _ c _ hf, foldl_push]
      rfl
  simp only [execOp, ho, Go.convert, Sem.run_bind, run_underlying hu, run_underlying hu2, Result.andThen_ok]
  simp only [hxv] at hr ⊢
  simp only [List.length_map] at hr
  simp [run_underlying hue, hr]

end

def rdOk (rd : Option Nat) (prot : List Nat) : Bool := match rd with
  | none => true
  | some id => memB id prot

theorem rdOk_spec {rd : Option Nat} {prot : List Nat} (h : rdOk rd prot = true) : rdIn rd prot := by
  cases rd with
  | none => exact rdIn_none
  | some id => exact rdIn_mem h

/-- The operations 'is' may come up one behind the other, each free of what is not yet listed. -/
def orderOk (ops : Array Oper) : Array Bool → List Nat → Bool
  | _, [] => true
  | l, i :: r => Region.free .any ops l i && (Region.ready .any ops l).contains i && orderOk ops (l.setIfInBounds i true) r

def setAll : Array Bool → List Nat → Array Bool
  | l, [] => l
  | l, i :: r => setAll (l.setIfInBounds i true) r

def runD (L : List (Nat × TI)) (N : Nat) (ops : Array Oper) (prot : List Nat) : List Nat → State → Option State
  | [], σ => some σ
  | i :: r, σ => match nthA ops i with
    | none => none
    | some ⟨dst, op, _, _, _, g⟩ => match guardOf N ops g σ with
      | .go => match kindOf op σ with
        | .q rd => match rdOk rd prot with
          | true => match stepOp L N dst op σ with
            | some σ' => addKF dst op σ σ' fun σ' => runD L N ops prot r σ'
            | none => none
          | false => none
        | .e _ => none
      | .skip => match putT N dst (.tup []) σ with
        | some ⟨ρ, o, κ⟩ => match dst with
          | some d => runD L N ops prot r ⟨ρ, o, d :: κ⟩
          | none => runD L N ops prot r ⟨ρ, o, κ⟩
        | none => none
      | .open_ => none

section

variable {X : Pk} {N np : Nat} {K : KP} {σ σ' : State} {ops : Array Oper} {prot : List Nat} {fuel : Nat} {listed : Array Bool} {i : Nat}

theorem AH_addK {d : Option Nat} {b : Bool} (h : AH X N np ops K prot fuel listed (addK d b σ)) : AH X N np ops K prot fuel listed σ := fun G D e a w H => h G D e a w (H.addK d b)

theorem runD_sound (hs : Region.noSelect ops = true) : ∀ (is : List Nat) (l : Array Bool) (σ σ' : State) (f : Nat), orderOk ops l is = true → runD X.L N ops prot is σ = some σ' →
    AH X N np ops K prot f (setAll l is) σ' → AH X N np ops K prot (f + is.length) l σ
  | [], l, σ, σ', f, _, hr, H => by simp [runD] at hr; subst hr; exact H
  | i :: r, l, σ, σ', f, ho, hr, H => by
    simp only [orderOk, Bool.and_eq_true] at ho
    simp only [runD] at hr
    split at hr
    · cases hr
    · rename_i dst op ty pos aft g hop
      split at hr
      · rename_i hg
        split at hr
        · rename_i rd hk
          split at hr
          · rename_i hrd
            split at hr
            · rename_i σ1 hst
              rw [addKF_eq] at hr
              exact AH_take (o := ⟨dst, op, ty, pos, aft, g⟩) i hop hs ho.1.1 ho.1.2 hg (hk ▸ dA_step hst) (rdOk_spec hrd) (AH_addK (runD_sound hs r _ _ σ' f ho.2 hr H))
            · cases hr
          · cases hr
        · cases hr
      · rename_i hg
        split at hr
        · rename_i ρ1 o1 κ1 hst
          refine AH_skip (o := ⟨dst, op, ty, pos, aft, g⟩) i hop hs ho.1.1 ho.1.2 hg hst ?_
          split at hr
          · exact fun G D e a w HR => runD_sound hs r _ _ σ' f ho.2 hr H G D e a w (HR.hints _)
          · exact runD_sound hs r _ _ σ' f ho.2 hr H
        · cases hr
      · cases hr

/-- The operations 'is', all computed. -/
theorem drn (is : List Nat) (hs : Region.noSelect ops = true) (ho : orderOk ops listed is = true) (hr : runD X.L N ops prot is σ = some σ') (hf : Nat.ble is.length fuel = true)
    (h : AH X N np ops K prot (fuel - is.length) (setAll listed is) σ') : AH X N np ops K prot fuel listed σ := by
  have := runD_sound hs is listed σ σ' (fuel - is.length) ho hr h
  rwa [Nat.sub_add_cancel (Nat.le_of_ble_eq_true hf)] at this

/-- A drawn region; 'n' operations. -/
theorem goal_draw' {id : Nat} {k : List It} (prot : List Nat) (n : Nat) (hn : ops.size = n) (h : AH X N np ops (after X N np k K) prot n (Array.replicate n false) ⟨σ.ρ, σ.o, []⟩) : goal X N np K (.cod (.region id ops true) k) σ := by
  subst hn; exact goal_draw prot h

theorem step_callE {ops : Array Oper} {i : Nat} {dst : Option Nat} {c : Operand} {xs : Array Operand} {ts : Array TypeId} {ty : TypeId} {pos : String} {aft : Array Edge} {g : Option (Nat × Bool)}
    {f : FuncId} {caps : List C} {args args' : List T} {o1 : List (Option AObj)} {Φ : Post} {σ1 : State} (js : List Nat)
    (ho : nthA ops i = some ⟨dst, .call ⟨.value c, xs, ts⟩, ty, pos, aft, g⟩) (hg : guardOf N ops g σ = .go) (hc : evalO σ c = .one (.fn f caps))
    (hnd : nodupB js = true) (hd : dstB N dst = true)
    (hcs : callS np js σ (appT (evalArgs σ xs.toList) (onesT caps)) = some (σ1, args, o1)) (hae : args = args') (hcon : ACalls X f args' o1 Φ) :
    StepA X N np ops i (fun id => id ∈ js) σ (fun σ2 => ∃ r o', Φ r o' ∧ retS N js dst σ1 r o' = some σ2) := by
  subst hae; exact step_call js ho hg hc hnd hd hcs hcon

theorem step_lendE {ops : Array Oper} {i : Nat} {dst : Option Nat} {c : Operand} {xs : Array Operand} {ts : Array TypeId} {ty : TypeId} {pos : String} {aft : Array Edge} {g : Option (Nat × Bool)}
    {f : FuncId} {caps : List C} {args args' : List T} {o1 : List (Option AObj)} {Φ : Post} {σ1 : State} (js : List Nat)
    (ho : nthA ops i = some ⟨dst, .call ⟨.value c, xs, ts⟩, ty, pos, aft, g⟩) (hg : guardOf N ops g σ = .go) (hc : evalO σ c = .one (.fn f caps))
    (hnd : nodupB js = true) (hd : dstB N dst = true) (hlv : liveJs σ.o js = true)
    (hcs : callS np js σ (appT (evalArgs σ xs.toList) (onesT caps)) = some (σ1, args, o1)) (hae : args = args') (hcon : ACalls X f args' o1 Φ) (hno : ∀ r o', Φ r o' → noFzT r = true ∧ noFzO o' = true) :
    StepA X N np ops i (fun id => id ∈ js) σ (fun σ2 => ∃ r o', Φ r o' ∧ retS N js dst σ r o' = some σ2) := by
  subst hae; exact step_lend js ho hg hc hnd hd hlv hcs hcon hno

def mdFree (kd : Kd) (prot : List Nat) : Bool := match kd with
  | .q _ => true
  | .e none => true
  | .e (some id) => match memB id prot with
    | true => false
    | false => true

theorem mdOk {kd : Kd} {prot : List Nat} (h : mdFree kd prot = true) : ∀ id ∈ prot, ¬ mdOf kd id := by
  intro id hid
  cases kd with
  | q rd => exact fun h => h
  | e md =>
    cases md with
    | none => intro h'; cases h'
    | some id' =>
      intro h'
      simp only [mdOf, Option.some.injEq] at h'
      subst h'
      simp only [mdFree] at h
      split at h
      · cases h
      · rename_i hm; exact memB_false hm hid

theorem AH_end {k : List It} (hr : Region.ready .any ops listed = []) (h : goal X N np K (.nrm k) σ) : AH X N np ops (after X N np k K) prot fuel listed σ := AH_done hr h

/-- An operation that reads, by a rule of its own. -/
theorem AH_did {o : Oper} {rd : Option Nat} (i : Nat) (ho : nthA ops i = some o) (hs : Region.noSelect ops = true) (hf : Region.free .any ops listed i = true) (hr : (Region.ready .any ops listed).contains i = true)
    (hg : guardOf N ops o.guard σ = .go) (hrd : rdOk rd prot = true) (hd : DidA X N np o (.q rd) σ σ')
    (h : AH X N np ops K prot fuel (listed.setIfInBounds i true) σ') : AH X N np ops K prot (fuel + 1) listed σ := AH_take i ho hs hf hr hg hd (rdOk_spec hrd) h

/-- One that may write, and alone is ready. -/
theorem AH_oneDid {kd : Kd} {o : Oper} (i : Nat) (ho : nthA ops i = some o) (hr : Region.ready .any ops listed = [i]) (hg : guardOf N ops o.guard σ = .go) (hd : DidA X N np o kd σ σ') (hmd : ∀ id ∈ prot, ¬ mdOf kd id)
    (h : AH X N np ops K prot fuel (listed.setIfInBounds i true) σ') : AH X N np ops K prot (fuel + 1) listed σ :=
  AH_one hr (step_did ho hg hd) hmd (by rintro _ rfl; exact h)

end

/-- A result, its own objects but for 'ks' told zs data. -/
def finR (np : Nat) (ks : List Nat) (r : T) (o' : List (Option AObj)) : Option (T × List (Option AObj)) :=
  match nodupB (rangeL 0 np ks) with
  | true => tellT (reT (fun id => idxOf (rangeL 0 np ks) id 0) (fzAll (fun id => idxOf (rangeL 0 np ks) id 0) 0 o') 4 r) fun r =>
      forceO (pickO (fzAll (fun id => idxOf (rangeL 0 np ks) id 0) 0 o') 4 (rangeL 0 np ks)) fun o' => some (r, o')
  | false => none

theorem ACalls.told {X : Pk} {f : FuncId} {args : List T} {o : List (Option AObj)} {Φ Ψ : Post} (h : ACalls X f args o Φ) (ks : List Nat)
    (hm : ∀ r o', Φ r o' → ∃ r2 o2, finR o.length ks r o' = some (r2, o2) ∧ Ψ r2 o2) : ACalls X f args o Ψ := by
  refine ⟨h.1, fun D e w vals hgl hsr hargs hnd => Calls.mono (h.2 D e w vals hgl hsr hargs hnd) ?_⟩
  rintro en w' ⟨v, r, o', D1, e1, hen, hΦ, hr, hsr1, hext, hnew, hold, hkeep, hlen⟩
  obtain ⟨r2, o2, hf, hΨ⟩ := hm r o' hΦ
  unfold finR at hf
  split at hf
  · rename_i hnd'
    rw [tellT_eq, forceO_eq] at hf
    simp only [Option.some.injEq, Prod.mk.injEq] at hf
    obtain ⟨rfl, rfl⟩ := hf
    have H0 : Rel 1 o.length ⟨w, D, e, hgl⟩ D1 e1 ⟨[(0, r)], o', []⟩ { tmps := #[v], defers := [] } w' := by
      refine ⟨Nat.le_of_eq hsr.len.symm, by rw [← hsr.len]; exact hlen, hext, rfl, rfl, fun t => ?_, hsr1, hnew, fun b hb hlt => .inl (hold b hb hlt), fun id hid => hkeep id (by rw [hsr.len]; exact hid)⟩
      cases t with
      | zero => exact hr
      | succ t => simp [getρ, TR, Nat.beq]
    obtain ⟨D2, H2, hD2⟩ := H0.fzAll (fun id => idxOf (rangeL 0 o.length ks) id 0) (fun id hid => by
      have : (rangeL 0 o.length ks)[id]? = some id := by rw [rangeL_get, if_pos hid]; simp
      obtain ⟨i, hi⟩ := idxOf_some (m := 0) this
      simp [hi])
    have htv2 : TR D2 w'.heap e1 r v := TR.mono (fun b hb => ⟨hD2 b hb, rfl⟩) (Leads.refl e1) r v hr
    have hlt : ∀ id, id < o.length → (rangeL 0 o.length ks)[id]? = some id := fun id hid => by rw [rangeL_get, if_pos hid]; simp
    refine ⟨v, _, _, D2, pickE e1 (rangeL 0 o.length ks), hen, hΨ, reT_spec H2.sr (fun id j l => pick_map id j l) 4 r v htv2, H2.sr.pick hnd' 4, hext, ?_, fun b hb hlt => (H2.old b hb hlt).elim id (fun h => (h.none (Nat.le_of_eq hsr.len)).elim), ?_, ?_⟩
    · intro id b esz cap n he
      rw [pickE_get] at he
      cases hi : (rangeL 0 o.length ks)[id]? with
      | none => rw [hi] at he; simp at he
      | some id' =>
        rw [hi] at he
        simp only [Option.map_some, Option.some.injEq] at he
        refine hnew id' b esz cap n ?_
        rw [List.getD_eq_getElem?_getD] at he
        cases h1 : e1[id']? with
        | none => rw [h1] at he; simp at he
        | some l => rw [h1] at he; simp at he; rw [he]
    · intro id hid
      have h1 := hlt id (by rw [← hsr.len]; exact hid)
      rw [pickE_get, h1]
      simp only [Option.map_some]
      have h2 : id < e1.length := by have := hsr1.len; omega
      rw [← hkeep id hid, List.getD_eq_getElem?_getD, List.getElem?_eq_getElem h2]; rfl
    · simp only [pickO, pickO'_length, rangeL_length]
      rw [hsr.len]; omega
  · cases hf

section

variable {X : Pk} {N np : Nat} {K : KP} {σ σ' : State}

/-- Objects are frozen, then what is not needed is left. -/
def frz (ids : List Nat) (σ : State) : State := match σ with | ⟨ρ, o, κ⟩ => ⟨ρ, fzL ids o, κ⟩

/-- Objects are frozen; what is in tmp 't' is told zs data. -/
def dataS (t : Nat) (ids : List Nat) (σ : State) : State := match σ with
  | ⟨ρ, o, κ⟩ => ⟨(t, reT (fun id => match memB id ids with
      | true => none
      | false => some id) (fzL ids o) 4 (getρ ρ t)) :: ρ, fzL ids o, κ⟩

theorem Weak.data (t : Nat) (ids : List Nat) (hge : allGe np ids = true) : Weak N np σ (dataS t ids σ) := fun {G D e a w} H => by
  obtain ⟨D1, H1⟩ := Rel.frz ids hge H
  refine ⟨D1, e, Rel.retmp H1 (t := t) (reT_spec H1.sr ?_ 4 _ _ (H1.tmps t))⟩
  intro id j l hm he
  split at hm
  · cases hm
  · simp only [Option.some.injEq] at hm; subst hm; exact he

end

def atReg (stop : Nat) : Cfg → Bool
  | .cod c _ => match c with
    | .region id _ _ => Nat.beq id stop
    | .seq x _ => match x with
      | .region id _ _ => Nat.beq id stop
      | _ => false
    | _ => false
  | _ => false

def runTo (L : List (Nat × TI)) (N stop : Nat) : Nat → Cfg → State → Option (Cfg × State)
  | 0, c, σ => some (c, σ)
  | n + 1, c, σ => match atReg stop c with
    | true => some (c, σ)
    | false => match run L N 1 c σ with
      | some (c', σ') => runTo L N stop n c' σ'
      | none => none

section

variable {X : Pk} {N np : Nat} {K : KP} {σ σ' : State}

theorem runTo_sound {stop : Nat} : ∀ (n : Nat) (c c' : Cfg) (σ σ' : State), runTo X.L N stop n c σ = some (c', σ') → goal X N np K c' σ' → goal X N np K c σ
  | 0, c, c', σ, σ', hr, h => by simp [runTo] at hr; obtain ⟨rfl, rfl⟩ := hr; exact h
  | n + 1, c, c', σ, σ', hr, h => by
    simp only [runTo] at hr
    split at hr
    · simp at hr; obtain ⟨rfl, rfl⟩ := hr; exact h
    · split at hr
      · rename_i c1 σ1 h1
        exact run_sound 1 c c1 σ σ1 h1 (runTo_sound n c1 c' σ1 σ' hr h)
      · cases hr

/-- On to region 'stop'. -/
theorem rt (stop : Nat) {c c' : Cfg} (hr : runTo X.L N stop 60 c σ = some (c', σ')) (h : goal X N np K c' σ') : goal X N np K c σ := runTo_sound 60 _ _ _ _ hr h

def cutR (N np : Nat) (Φ : State → Prop) (K : KP) : KP := fun ex σ => match ex with
  | .normal => ∃ σ', Weak N np σ σ' ∧ Φ σ'
  | ex => K ex σ

theorem goal_cutR {c : Code} {k : List It} (Φ : State → Prop) (h : goal X N np (cutR N np Φ (after X N np k K)) (.cod c []) σ) (rest : ∀ σ', Φ σ' → goal X N np K (.nrm k) σ') : goal X N np K (.cod c k) σ := by
  intro G D e a w H
  refine wp_mono (h G D e a w H) ?_
  rintro ex a' w' ⟨D', e', σ', H', hk⟩
  cases ex with
  | normal =>
    obtain ⟨σ1, hw, hΦ⟩ := hk
    obtain ⟨D1, e1, H1⟩ := hw H'
    exact ⟨D1, e1, σ1, H1, rest σ1 hΦ⟩
  | exit id => exact ⟨D', e', σ', H', hk⟩
  | goto l => exact ⟨D', e', σ', H', hk⟩
  | ret => exact ⟨D', e', σ', H', hk⟩
  | panic c => exact ⟨D', e', σ', H', hk⟩
  | outgrown => exact ⟨D', e', σ', H', hk⟩

theorem cut_nrm {Φ : State → Prop} {K : KP} (ts ks : List Nat) (hnd : nodupB (rangeL 0 np ks) = true) (h : Φ (keepS np ts ks 4 σ)) : goal X N np (cutR N np Φ K) (.nrm []) σ := ⟨_, Weak.keep ts ks 4 hnd, h⟩

end

section

variable {N np : Nat} {G : Ctx} {D : Nat → Prop} {e : List ALoc} {σ σ' : State} {a : Act} {w : World}

end

theorem cons_eq {α : Type} {a b : α} {zs bs : List α} (h : a = b) (t : zs = bs) : a :: zs = b :: bs := by subst h; subst t; rfl

section

variable {X : Pk} {N np : Nat} {σ σ' : State}

theorem Weak.to {σ1 σ2 : State} (h : σ1 = σ2) (hw : Weak N np σ σ1) : Weak N np σ σ2 := h ▸ hw

end

section

variable {X : Pk} {N np : Nat} {G : Ctx} {D : Nat → Prop} {e : List ALoc} {σ σ' : State} {a : Act} {w : World} {K : KP}

theorem one_nil {h : Array Obj} {v : Value} (H : TR D h e (.one nilSl) v) : v = .slice none 0 0 := by
  simp only [TR, nilSl, CR] at H; exact H.1

/-- cap(nil). -/
theorem dA_capNil {o : Oper} {x : Operand} {t : TypeId} {ti : TI} (ho : o.op = .call ⟨.builtin .cap, #[x], #[t]⟩) (hx : evalO σ x = .one nilSl) (hti : findTI X.L t = some ti) (hk : ti.kind = 2) (hd : dstB N o.dst = true) :
    DidA X N np o (.q none) σ (putS o.dst (.one (.int .i64 0)) σ) := fun {G D e a w} H => by
  have hxv := one_nil (hx ▸ H.ev x)
  have hu := (X.tiok hti).slice hk
  refine Did.pure H (v := .int .i64 0) (fun w _ => ?_) (by simp only [TR, CR]) (putS_eq hd)
  simp [execOp, ho, resolve, invoke, Go.builtin, hxv, Builtin.cap_, run_underlying hu, goInt]

/-- nil[:0]. -/
theorem dA_sliceNil {o : Oper} {t : TypeId} {x y : Operand} {kk : IntKind} {ti te : TI} (ho : o.op = .slice t x none (some y) none) (hti : findTI X.L t = some ti) (hk : ti.kind = 2) (hte : findTI X.L ti.elem = some te)
    (hx : evalO σ x = .one nilSl) (hy : evalO σ y = .one (.int kk 0)) (hd : dstB N o.dst = true) : DidA X N np o (.q none) σ (putS o.dst (.one nilSl) σ) := fun {G D e a w} H => by
  have hxv := one_nil (hx ▸ H.ev x)
  have hyv := one_int (hy ▸ H.ev y)
  have hb : ∀ w, (Instr.sliceBounds true 0 0 none (some (.int kk 0)) none).run X.P w = .ok (0, 0, 0) w := fun w =>
    run_sliceBounds (L := 0) (Hh := 0) (M := 0) true (.inl ⟨rfl, rfl⟩) (.inr ⟨kk, by simp⟩) (.inl ⟨rfl, rfl⟩) (by omega) (by omega) (by omega) w
  refine Did.pure H (v := .slice none 0 0) (fun w _ => ?_) (by simp only [TR, nilSl, CR]; exact ⟨trivial, by simp [isCell]⟩) (putS_eq hd)
  simp only [execOp, ho, hxv, hyv, Sem.run_bind, Option.map_none, Option.map_some, run_slice_slice (X.tiok hti) hk (X.tiok hte) rfl hb, Result.andThen_ok, Sem.run_pure]
  rfl

/-- append(nil, make([]T, m)...), m > 0. -/
theorem dA_growMake {o : Oper} {x y : Operand} {t t2 : TypeId} (m : Nat) (rows : List (List C)) {n : Int} {ti te t2i : TI}
    (hx : evalO σ x = .one nilSl) (hy : evalO σ y = .one (.int .i64 n)) (hn : n = (m : Int)) (hm0 : 0 < m) (ho : o.op = .call ⟨.builtin .append, #[x, y], #[t, t2]⟩) (hti : findTI X.L t = some ti) (hk : ti.kind = 2) (hti2 : findTI X.L t2 = some t2i) (hk2 : t2i.kind = 4) (hte : findTI X.L ti.elem = some te)
    (h0 : Nat.blt 0 te.size = true) (hd : dstB N o.dst = true) (hb : m * te.bytes ≤ 140737488355328) (hm : m ≤ 140737488355328) (hrows : rows = List.replicate m te.zero) :
    DidA X N np o (.e none) σ (appendS o.dst none te.size rows m true σ) := fun {G D e a w} H => by
  subst hn
  have h0' : 0 < te.size := by simpa [Nat.blt_eq] using h0
  have hu := (X.tiok hti).slice hk
  have hu2 := (X.tiok hti2).int hk2
  have hte' := X.tiok hte
  have hxv := one_nil (hx ▸ H.ev x)
  have hyv := one_int (hy ▸ H.ev y)
  obtain ⟨i, hi, hinf, hs, hby⟩ := hte'.typeInfo
  obtain ⟨z, hz, hzc, hzl, _⟩ := hte'.zeroValue'
  have hcr := zcells_CRp (D := D) (h := w.heap) (e := e) hzc
  have hzs : z.cells.size = te.size := by have := hcr.2; simp at this; omega
  have hw64 : IntKind.i64.wrap (m : Int) = m := by
    simp only [IntKind.wrap, IntKind.bits, IntKind.signed]
    simp
    omega
  have hlarge : ¬ (281474976710656 < ((m : Int) * (te.bytes : Int))) := by
    have : ((m * te.bytes : Nat) : Int) ≤ 140737488355328 := by omega
    rw [Int.natCast_mul] at this
    omega
  have hfit : Builtin.nextslicecap m 0 * te.bytes ≤ 281474976710656 := growslice_fits (by omega) hb
  have h48 : ¬ (281474976710656 < Builtin.nextslicecap m 0 * te.bytes) := by omega
  have h63 : ¬ (9223372036854775807 < (m : Int)) := by omega
  have hneg : ¬ ((m : Int) < 0) := by omega
  have hms : ¬ (m * te.size = 0) := by
    intro h; rcases Nat.mul_eq_zero.1 h with h | h <;> omega
  have hm0' : ¬ (m = 0) := by omega
  have hs0 : ¬ (te.size = 0) := by omega
  have hzo := hte'.sizeOf w
  have hlen : rows.length = m := by rw [hrows]; simp
  have hge := grownCap_ge w m 0 ti.elem
  obtain ⟨rest, hrest⟩ : ∃ rest, rest = Builtin.zeroCells z.cells (grownCap w m 0 ti.elem - m) := ⟨_, rfl⟩
  have hrl : rest.size = (grownCap w m 0 ti.elem - m) * te.size := by rw [hrest, size_zeroCells, hzs]
  have hfc : (Builtin.firstCells te.size 0 (.slice none 0 0)).run X.P w.drew = .ok #[] w.drew := by
    simp [Builtin.firstCells]
  have hrun : (execOp a.eval o).run X.P w = .ok (.value (.slice (some ⟨w.heap.size, 0, none⟩) m (grownCap w m 0 ti.elem))) (w.drew.alloc (.cells (Builtin.zeroCells z.cells m ++ rest) ti.elem)) := by
    rw [hrest]
    simp [execOp, ho, hxv, hyv, resolve, invoke, Go.builtin, Builtin.append_, run_underlying hu, run_underlying hu2, hzo, asInt, asIntOf, hw64, hneg, hinf, hby, hlarge, h48, h63, hm0', Question.forced, hfc, hms, hs0, newRow, grownCap, hz]
  have H2 := H.newObj (w' := w.drew.alloc (.cells (Builtin.zeroCells z.cells m ++ rest) ti.elem)) (ob := ⟨te.size, rows, true, false, false⟩) (cap := grownCap w m 0 ti.elem)
    (cells := Builtin.zeroCells z.cells m ++ rest) (t := ti.elem) rfl rfl rfl rfl rfl (fun _ => by rw [hrows]; exact noOwnR_rep (zcells_noOwn hzc) m) (by simp only; omega) (by
      simp [size_zeroCells, hzs, hrl, ← Nat.add_mul]
      refine Nat.mul_le_mul_right _ ?_
      omega) (by
      simp only [hrows, Array.toList_append]
      refine CRr.more ?_
      have := zero_rows (D := D) (h := w.heap) (e := e) hcr.1 hzs hzl m
      simpa [Builtin.zeroCells, hzs] using this)
  have hput := appendS_put (N := N) (dst := o.dst) (md := none) (esz := te.size) (rows := rows) (cl := true) (σ := σ) hd (o1 := σ.o) rfl rfl
  rw [hlen] at hput
  refine ⟨D, _, _, .slice (some ⟨w.heap.size, 0, none⟩) m (grownCap w m 0 ti.elem), _, hrun, .inl rfl, H2.putv ?_ hput, ?_⟩
  · simp only [TR, CR]
    rw [show σ.o.length = e.length from H.sr.len.symm, getElem?_last]
    simp only
    exact ⟨_, _, rfl, Nat.le_refl _, by omega, by omega, .inr ⟨_, rfl, by simp, by omega⟩⟩
  · refine ⟨H.sr.fixes_push _, fun id' hid' b' esz' cap' n' he' => ⟨?_, heap_push_old _ _ (H.sr.own id' b' _ _ _ he').1⟩⟩
    rw [List.getElem?_append_left (lt_of_some he')]; exact he'

/-- A call whose arguments speak of no own memory, handed over zs they are. -/
theorem step_callRaw {ops : Array Oper} {i : Nat} {dst : Option Nat} {c : Operand} {xs : Array Operand} {ts : Array TypeId} {ty : TypeId} {pos : String} {aft : Array Edge} {g : Option (Nat × Bool)}
    {f : FuncId} {caps : List C} {Φ : Post} {args : List T}
    (ho : nthA ops i = some ⟨dst, .call ⟨.value c, xs, ts⟩, ty, pos, aft, g⟩) (hg : guardOf N ops g σ = .go) (hc : evalO σ c = .one (.fn f caps))
    (hd : dstB N dst = true) (hargs : appT (evalArgs σ xs.toList) (onesT caps) = args) (hno : noOwnTs args = true) (hcon : ACalls X f args [] Φ) :
    StepA X N np ops i (fun id => id ∈ ([] : List Nat)) σ (fun σ2 => ∃ r o', Φ r o' ∧ retS N [] dst σ r o' = some σ2) := by
  intro G D e a w Q K' H next
  rw [nthA_eq] at ho
  obtain ⟨ρ, oo, κ⟩ := σ
  unfold wpOp
  simp only [ho, (guardOf_spec H (ops := ops) (o := ⟨dst, .call ⟨.value c, xs, ts⟩, ty, pos, aft, g⟩)).1 hg, if_true]
  left
  have hcv := H.ev c
  rw [hc] at hcv
  simp only [TR, CR] at hcv
  obtain ⟨cv, hcv, hcl, hcr⟩ := hcv
  have hargs0 : TRs D w.heap e args (xs.toList.map a.eval ++ cv.toList) := by
    rw [← hargs, appT_eq]
    exact (evalArgs_spec H xs.toList).append (onesT_spec (by simpa using hcl) hcr)
  have hargs1 := TRs.env e [] _ _ hno hargs0
  have hsr1 : SR D w.heap [] [] := ⟨rfl, by simp, by simp, by simp, H.sr.dom⟩
  unfold Oper.wp
  rw [run_call rfl hcv hcon.1]
  simp only [Oper.upon]
  have hC := hcon.2 D [] w (xs.toList.map a.eval ++ cv.toList) (G.gl.next H.ext (by simp)) hsr1 hargs1 (by simp)
  have hvals : (xs.toList.map a.eval ++ cv.toList).toArray = xs.map a.eval ++ cv := by
    apply Array.ext'; simp
  rw [hvals] at hC
  refine hC.mono ?_
  rintro en w' ⟨v, r, o', D', e', rfl, hΦ, htr, hsr', hext, hnew, hold, hkeep, hlen⟩
  obtain ⟨D2, e2, H2, hT2, hP2⟩ := H.called (js := []) rfl (by simp) hsr' hext hnew hold hkeep hlen
  have hx := hT2 r v htr
  have H3 := H2.putv hx (putS_eq hd)
  refine next D2 e2 _ _ w' H3 hP2 ⟨r, o', hΦ, ?_⟩
  simp only [retS, lenK_eq, Nat.zero_add, forceO_eq, appO_eq]
  exact putS_eq hd

end

noncomputable def tab : List (Nat × TI) := [
  (1, ⟨false, 1, 8, [.v .nilFunc], [], 0, 0, .i64⟩),
  (2, ⟨false, 1, 8, [.int .i64 0], [], 0, 4, .i64⟩),
  (3, ⟨false, 1, 8, [.int .i64 0], [], 0, 4, .i64⟩),
  (4, ⟨false, 1, 1, [.bool false], [], 0, 5, .i64⟩),
  (5, ⟨false, 1, 1, [.int .u8 0], [], 0, 4, .u8⟩),
  (6, ⟨false, 1, 1, [.int .u8 0], [], 0, 4, .u8⟩),
  (7, ⟨true, 4, 24, [.int .i64 0, .int .i64 0, .bool false, .int .u8 0], [(0, 2), (1, 3), (2, 4), (3, 6)], 0, 3, .i64⟩),
  (8, ⟨true, 4, 24, [.int .i64 0, .int .i64 0, .bool false, .int .u8 0], [(0, 2), (1, 3), (2, 4), (3, 6)], 0, 3, .i64⟩),
  (9, ⟨false, 1, 16, [.str []], [], 0, 1, .i64⟩),
  (10, ⟨false, 1, 16, [.str []], [], 0, 1, .i64⟩),
  (11, ⟨false, 1, 16, [.str []], [], 0, 1, .i64⟩),
  (12, ⟨false, 1, 8, [.int .u64 0], [], 0, 4, .u64⟩),
  (13, ⟨true, 2, 24, [.str [], .int .u64 0], [(0, 9), (1, 12)], 0, 3, .i64⟩),
  (14, ⟨true, 2, 24, [.str [], .int .u64 0], [(0, 9), (1, 12)], 0, 3, .i64⟩),
  (15, ⟨false, 1, 8, [.v (.pointer none)], [], 0, 0, .i64⟩),
  (16, ⟨false, 1, 8, [.v (.pointer none)], [], 0, 0, .i64⟩),
  (17, ⟨false, 1, 8, [.v (.pointer none)], [], 0, 0, .i64⟩),
  (18, ⟨true, 1, 8, [.v (.pointer none)], [(0, 17)], 0, 3, .i64⟩),
  (19, ⟨true, 1, 8, [.v (.pointer none)], [(0, 17)], 0, 3, .i64⟩),
  (20, ⟨false, 1, 16, [.v .nilIface], [], 0, 0, .i64⟩),
  (21, ⟨false, 1, 4, [.int .i32 0], [], 0, 4, .i32⟩),
  (22, ⟨false, 1, 24, [.v (.slice none 0 0)], [], 48, 2, .i64⟩),
  (23, ⟨false, 1, 8, [.v .nilFunc], [], 0, 0, .i64⟩),
  (24, ⟨false, 1, 8, [.v .nilFunc], [], 0, 0, .i64⟩),
  (25, ⟨false, 1, 24, [.v (.slice none 0 0)], [], 54, 2, .i64⟩),
  (26, ⟨false, 1, 8, [.v .nilFunc], [], 0, 0, .i64⟩),
  (27, ⟨false, 1, 8, [.v .nilFunc], [], 0, 0, .i64⟩),
  (28, ⟨false, 1, 8, [.v .nilFunc], [], 0, 0, .i64⟩),
  (29, ⟨false, 1, 24, [.v (.slice none 0 0)], [], 9, 2, .i64⟩),
  (30, ⟨true, 2, 32, [.int .i64 0, .v (.slice none 0 0)], [(0, 3), (1, 29)], 0, 3, .i64⟩),
  (31, ⟨true, 2, 32, [.int .i64 0, .v (.slice none 0 0)], [(0, 3), (1, 29)], 0, 3, .i64⟩),
  (33, ⟨false, 1, 8, [.v .nilFunc], [], 0, 0, .i64⟩),
  (34, ⟨false, 1, 8, [.v .nilFunc], [], 0, 0, .i64⟩),
  (35, ⟨false, 1, 8, [.v .nilFunc], [], 0, 0, .i64⟩),
  (36, ⟨false, 1, 8, [.v .nilFunc], [], 0, 0, .i64⟩),
  (37, ⟨false, 1, 24, [.v (.slice none 0 0)], [], 5, 2, .i64⟩),
  (38, ⟨false, 1, 8, [.v .nilFunc], [], 0, 0, .i64⟩),
  (39, ⟨false, 1, 8, [.v .nilFunc], [], 0, 0, .i64⟩),
  (40, ⟨false, 1, 8, [.v .nilFunc], [], 0, 0, .i64⟩),
  (41, ⟨false, 1, 8, [.v .nilFunc], [], 0, 0, .i64⟩),
  (42, ⟨false, 1, 8, [.v .nilFunc], [], 0, 0, .i64⟩),
  (43, ⟨false, 1, 8, [.v .nilFunc], [], 0, 0, .i64⟩),
  (44, ⟨false, 1, 24, [.v (.slice none 0 0)], [], 126, 2, .i64⟩),
  (45, ⟨true, 1, 24, [.v (.slice none 0 0)], [(0, 44)], 0, 3, .i64⟩),
  (46, ⟨true, 1, 24, [.v (.slice none 0 0)], [(0, 44)], 0, 3, .i64⟩),
  (47, ⟨true, 2, 40, [.str [], .v (.slice none 0 0)], [(0, 9), (1, 46)], 0, 3, .i64⟩),
  (48, ⟨true, 2, 40, [.str [], .v (.slice none 0 0)], [(0, 9), (1, 46)], 0, 3, .i64⟩),
  (49, ⟨false, 1, 8, [.v .nilFunc], [], 0, 0, .i64⟩),
  (50, ⟨false, 1, 24, [.v (.slice none 0 0)], [], 111, 2, .i64⟩),
  (51, ⟨true, 1, 24, [.v (.slice none 0 0)], [(0, 50)], 0, 3, .i64⟩),
  (52, ⟨true, 1, 24, [.v (.slice none 0 0)], [(0, 50)], 0, 3, .i64⟩),
  (53, ⟨true, 2, 40, [.str [], .v (.slice none 0 0)], [(0, 9), (1, 52)], 0, 3, .i64⟩),
  (54, ⟨true, 2, 40, [.str [], .v (.slice none 0 0)], [(0, 9), (1, 52)], 0, 3, .i64⟩),
  (55, ⟨false, 1, 8, [.v .nilFunc], [], 0, 0, .i64⟩),
  (56, ⟨false, 1, 8, [.v (.pointer none)], [], 0, 0, .i64⟩),
  (57, ⟨true, 2, 32, [.v (.pointer none), .v (.slice none 0 0)], [(0, 56), (1, 37)], 0, 3, .i64⟩),
  (58, ⟨true, 2, 32, [.v (.pointer none), .v (.slice none 0 0)], [(0, 56), (1, 37)], 0, 3, .i64⟩),
  (59, ⟨false, 1, 16, [.v .nilIface], [], 0, 0, .i64⟩),
  (60, ⟨false, 1, 16, [.v .nilIface], [], 0, 0, .i64⟩),
  (62, ⟨false, 1, 8, [.v .nilFunc], [], 0, 0, .i64⟩),
  (63, ⟨false, 1, 8, [.v .nilFunc], [], 0, 0, .i64⟩),
  (64, ⟨false, 1, 8, [.v .nilFunc], [], 0, 0, .i64⟩),
  (65, ⟨false, 1, 8, [.v .nilFunc], [], 0, 0, .i64⟩),
  (66, ⟨false, 1, 8, [.v .nilFunc], [], 0, 0, .i64⟩),
  (68, ⟨false, 1, 8, [.v .nilFunc], [], 0, 0, .i64⟩),
  (69, ⟨false, 1, 8, [.v .nilFunc], [], 0, 0, .i64⟩),
  (70, ⟨false, 1, 8, [.v .nilFunc], [], 0, 0, .i64⟩),
  (71, ⟨false, 1, 8, [.v .nilFunc], [], 0, 0, .i64⟩),
  (72, ⟨false, 1, 8, [.v .nilFunc], [], 0, 0, .i64⟩),
  (73, ⟨false, 1, 8, [.v .nilFunc], [], 0, 0, .i64⟩),
  (74, ⟨false, 1, 8, [.v (.pointer none)], [], 0, 0, .i64⟩),
  (75, ⟨false, 1, 8, [.v .nilFunc], [], 0, 0, .i64⟩),
  (76, ⟨false, 1, 8, [.v .nilFunc], [], 0, 0, .i64⟩),
  (77, ⟨false, 1, 8, [.v .nilFunc], [], 0, 0, .i64⟩),
  (78, ⟨false, 1, 8, [.v .nilFunc], [], 0, 0, .i64⟩),
  (79, ⟨false, 1, 8, [.v .nilFunc], [], 0, 0, .i64⟩),
  (80, ⟨false, 1, 8, [.v .nilFunc], [], 0, 0, .i64⟩),
  (81, ⟨false, 1, 8, [.v .nilFunc], [], 0, 0, .i64⟩),
  (82, ⟨false, 1, 8, [.v .nilFunc], [], 0, 0, .i64⟩),
  (83, ⟨false, 1, 8, [.v .nilFunc], [], 0, 0, .i64⟩),
  (84, ⟨false, 1, 8, [.v .nilFunc], [], 0, 0, .i64⟩),
  (85, ⟨false, 1, 8, [.v .nilFunc], [], 0, 0, .i64⟩),
  (86, ⟨false, 1, 8, [.v .nilFunc], [], 0, 0, .i64⟩),
  (87, ⟨false, 1, 8, [.v .nilFunc], [], 0, 0, .i64⟩),
  (88, ⟨false, 1, 8, [.v (.pointer none)], [], 0, 0, .i64⟩),
  (89, ⟨false, 1, 8, [.v .nilFunc], [], 0, 0, .i64⟩),
  (90, ⟨false, 1, 8, [.v .nilFunc], [], 0, 0, .i64⟩),
  (91, ⟨false, 1, 8, [.v .nilFunc], [], 0, 0, .i64⟩),
  (92, ⟨false, 1, 24, [.v (.slice none 0 0)], [], 3, 2, .i64⟩),
  (93, ⟨false, 1, 24, [.v (.slice none 0 0)], [], 121, 2, .i64⟩),
  (94, ⟨true, 2, 48, [.v (.slice none 0 0), .v (.slice none 0 0)], [(0, 92), (1, 93)], 0, 3, .i64⟩),
  (95, ⟨true, 2, 48, [.v (.slice none 0 0), .v (.slice none 0 0)], [(0, 92), (1, 93)], 0, 3, .i64⟩),
  (96, ⟨false, 1, 8, [.v .nilFunc], [], 0, 0, .i64⟩),
  (97, ⟨false, 1, 8, [.v .nilFunc], [], 0, 0, .i64⟩),
  (98, ⟨false, 1, 8, [.v .nilFunc], [], 0, 0, .i64⟩),
  (99, ⟨true, 2, 32, [.v (.slice none 0 0), .int .i64 0], [(0, 37), (1, 3)], 0, 3, .i64⟩),
  (100, ⟨true, 2, 32, [.v (.slice none 0 0), .int .i64 0], [(0, 37), (1, 3)], 0, 3, .i64⟩),
  (101, ⟨false, 1, 8, [.v .nilFunc], [], 0, 0, .i64⟩),
  (102, ⟨false, 1, 24, [.v (.slice none 0 0)], [], 29, 2, .i64⟩),
  (103, ⟨false, 1, 8, [.v .nilFunc], [], 0, 0, .i64⟩),
  (104, ⟨false, 1, 8, [.v .nilFunc], [], 0, 0, .i64⟩),
  (105, ⟨false, 1, 8, [.v .nilFunc], [], 0, 0, .i64⟩),
  (106, ⟨false, 1, 8, [.v .nilFunc], [], 0, 0, .i64⟩),
  (107, ⟨false, 1, 8, [.v .nilFunc], [], 0, 0, .i64⟩),
  (109, ⟨false, 1, 8, [.v .nilFunc], [], 0, 0, .i64⟩),
  (110, ⟨true, 4, 40, [.str [], .int .i64 0, .bool false, .int .i64 0], [(0, 9), (1, 3), (2, 4), (3, 3)], 0, 3, .i64⟩),
  (111, ⟨true, 4, 40, [.str [], .int .i64 0, .bool false, .int .i64 0], [(0, 9), (1, 3), (2, 4), (3, 3)], 0, 3, .i64⟩),
  (112, ⟨false, 1, 8, [.v .nilFunc], [], 0, 0, .i64⟩),
  (113, ⟨false, 1, 8, [.v .nilFunc], [], 0, 0, .i64⟩),
  (114, ⟨false, 1, 8, [.v .nilFunc], [], 0, 0, .i64⟩),
  (115, ⟨false, 1, 8, [.v .nilFunc], [], 0, 0, .i64⟩),
  (116, ⟨false, 1, 8, [.v .nilFunc], [], 0, 0, .i64⟩),
  (117, ⟨false, 1, 8, [.v .nilFunc], [], 0, 0, .i64⟩),
  (118, ⟨false, 1, 8, [.v .nilFunc], [], 0, 0, .i64⟩),
  (119, ⟨false, 1, 8, [.v .nilFunc], [], 0, 0, .i64⟩),
  (120, ⟨true, 2, 24, [.str [], .int .i64 0], [(0, 9), (1, 3)], 0, 3, .i64⟩),
  (121, ⟨true, 2, 24, [.str [], .int .i64 0], [(0, 9), (1, 3)], 0, 3, .i64⟩),
  (122, ⟨false, 1, 8, [.v .nilFunc], [], 0, 0, .i64⟩),
  (123, ⟨false, 1, 8, [.v .nilFunc], [], 0, 0, .i64⟩),
  (124, ⟨false, 1, 8, [.v .nilFunc], [], 0, 0, .i64⟩),
  (125, ⟨false, 1, 8, [.v .nilFunc], [], 0, 0, .i64⟩),
  (126, ⟨true, 4, 40, [.str [], .int .i64 0, .bool false, .int .i64 0], [(0, 9), (1, 3), (2, 4), (3, 3)], 0, 3, .i64⟩),
  (127, ⟨false, 1, 8, [.v .nilFunc], [], 0, 0, .i64⟩),
  (128, ⟨false, 1, 8, [.v .nilFunc], [], 0, 0, .i64⟩),
  (129, ⟨false, 1, 8, [.v .nilFunc], [], 0, 0, .i64⟩),
  (130, ⟨false, 1, 8, [.v .nilFunc], [], 0, 0, .i64⟩),
  (131, ⟨false, 1, 8, [.v .nilFunc], [], 0, 0, .i64⟩),
  (132, ⟨false, 1, 8, [.v .nilFunc], [], 0, 0, .i64⟩),
  (133, ⟨false, 1, 8, [.v .nilFunc], [], 0, 0, .i64⟩),
  (134, ⟨false, 1, 8, [.v .nilFunc], [], 0, 0, .i64⟩),
  (135, ⟨false, 1, 8, [.v .nilFunc], [], 0, 0, .i64⟩),
  (137, ⟨false, 1, 8, [.v .nilFunc], [], 0, 0, .i64⟩),
  (138, ⟨false, 1, 8, [.v .nilFunc], [], 0, 0, .i64⟩),
  (139, ⟨false, 1, 8, [.int .i64 0], [], 0, 4, .i64⟩),
  (141, ⟨false, 1, 8, [.v .nilFunc], [], 0, 0, .i64⟩),
  (142, ⟨false, 1, 8, [.v (.pointer none)], [], 0, 0, .i64⟩),
  (143, ⟨false, 1, 8, [.v .nilFunc], [], 0, 0, .i64⟩),
  (144, ⟨false, 1, 8, [.v .nilFunc], [], 0, 0, .i64⟩),
  (145, ⟨false, 1, 8, [.v .nilFunc], [], 0, 0, .i64⟩),
  (146, ⟨false, 1, 8, [.v .nilFunc], [], 0, 0, .i64⟩),
  (148, ⟨false, 1, 8, [.int .u64 0], [], 0, 4, .u64⟩),
  (149, ⟨false, 1, 8, [.v .nilFunc], [], 0, 0, .i64⟩),
  (150, ⟨false, 1, 8, [.v .nilFunc], [], 0, 0, .i64⟩),
  (152, ⟨false, 1, 8, [.v .nilFunc], [], 0, 0, .i64⟩),
  (153, ⟨false, 1, 8, [.int .u64 0], [], 0, 4, .u64⟩),
  (155, ⟨false, 1, 8, [.v .nilFunc], [], 0, 0, .i64⟩),
  (156, ⟨false, 1, 8, [.v .nilFunc], [], 0, 0, .i64⟩),
  (157, ⟨true, 3, 48, [.str [], .str [], .v .nilIface], [(0, 9), (1, 9), (2, 60)], 0, 3, .i64⟩),
  (158, ⟨true, 3, 48, [.str [], .str [], .v .nilIface], [(0, 9), (1, 9), (2, 60)], 0, 3, .i64⟩),
  (159, ⟨false, 1, 8, [.v .nilFunc], [], 0, 0, .i64⟩),
  (160, ⟨false, 1, 8, [.v .nilFunc], [], 0, 0, .i64⟩),
  (162, ⟨false, 1, 4, [.int .u32 0], [], 0, 4, .u32⟩),
  (164, ⟨false, 1, 8, [.v .nilFunc], [], 0, 0, .i64⟩),
  (166, ⟨true, 2, 2, [.int .u8 0, .int .u8 0], [(0, 5), (1, 5)], 0, 3, .i64⟩),
  (167, ⟨true, 2, 2, [.int .u8 0, .int .u8 0], [(0, 5), (1, 5)], 0, 3, .i64⟩),
  (170, ⟨false, 1, 8, [.v .nilFunc], [], 0, 0, .i64⟩),
  (171, ⟨false, 1, 8, [.v .nilFunc], [], 0, 0, .i64⟩),
  (172, ⟨false, 1, 8, [.v (.pointer none)], [], 0, 0, .i64⟩),
  (173, ⟨true, 1, 16, [.str []], [(0, 9)], 0, 3, .i64⟩),
  (174, ⟨true, 1, 16, [.str []], [(0, 9)], 0, 3, .i64⟩),
  (175, ⟨false, 1, 8, [.v .nilFunc], [], 0, 0, .i64⟩),
  (178, ⟨true, 4, 40, [.v (.pointer none), .v (.pointer none), .v (.pointer none), .str []], [(0, 17), (1, 17), (2, 17), (3, 9)], 0, 3, .i64⟩),
  (179, ⟨true, 4, 40, [.v (.pointer none), .v (.pointer none), .v (.pointer none), .str []], [(0, 17), (1, 17), (2, 17), (3, 9)], 0, 3, .i64⟩),
  (181, ⟨true, 0, 0, [], [(0, 180)], 0, 3, .i64⟩),
  (182, ⟨true, 0, 0, [], [(0, 180)], 0, 3, .i64⟩),
  (183, ⟨false, 1, 8, [.v .nilFunc], [], 0, 0, .i64⟩),
  (184, ⟨false, 1, 1, [.int .u8 0], [], 0, 4, .u8⟩),
  (185, ⟨false, 1, 1, [.int .u8 0], [], 0, 4, .u8⟩),
  (186, ⟨false, 1, 8, [.v .nilFunc], [], 0, 0, .i64⟩),
  (187, ⟨false, 1, 4, [.int .i32 0], [], 0, 4, .i32⟩),
  (188, ⟨false, 1, 4, [.int .i32 0], [], 0, 4, .i32⟩),
  (189, ⟨true, 11, 48, [.int .u64 0, .int .u64 0, .int .u32 0, .int .u8 0, .int .u8 0, .int .u8 0, .int .u8 0, .v .nilFunc, .v (.pointer none), .int .i32 0, .int .i32 0], [(0, 12), (1, 12), (2, 162), (3, 184), (4, 5), (5, 5), (6, 185), (7, 186), (8, 88), (9, 187), (10, 188)], 0, 3, .i64⟩),
  (190, ⟨true, 11, 48, [.int .u64 0, .int .u64 0, .int .u32 0, .int .u8 0, .int .u8 0, .int .u8 0, .int .u8 0, .v .nilFunc, .v (.pointer none), .int .i32 0, .int .i32 0], [(0, 12), (1, 12), (2, 162), (3, 184), (4, 5), (5, 5), (6, 185), (7, 186), (8, 88), (9, 187), (10, 188)], 0, 3, .i64⟩),
  (191, ⟨false, 1, 8, [.v .nilFunc], [], 0, 0, .i64⟩)]

theorem tab_all : tab.all (fun x => x.2.okB Tryd.prog x.1) = true := by kernel_rfl

theorem mixed_ok : Tryd.prog.follows .mixedOrders = true := by kernel_rfl

noncomputable def pk : Pk := ⟨Tryd.prog, tab, fun x hx => (List.all_eq_true.1 tab_all) x hx, mixed_ok⟩

structure Pair where
  name : Str
  value : Int
deriving DecidableEq

theorem wrap64 {n : Int} (h0 : -9223372036854775808 ≤ n) (h1 : n ≤ 9223372036854775807) : IntKind.i64.wrap n = n := by
  simp only [IntKind.wrap, IntKind.bits, IntKind.signed]
  simp
  split <;> omega

theorem map_at {α : Type} {xs : List α} {enc : α → List C} {i : Nat} {x : α} (h : xs[i]? = some x) : (xs.map enc)[i]? = some (enc x) := by simp [h]

theorem at_some {α : Type} {xs : List α} {i : Nat} (h : i < xs.length) : ∃ x, xs[i]? = some x := ⟨xs[i], by simp [h]⟩

theorem drop_at {α : Type} {xs : List α} {i : Nat} {x : α} (h : xs[i]? = some x) : xs.drop i = x :: xs.drop (i + 1) := by
  have hlt : i < xs.length := lt_of_some h
  rw [List.drop_eq_getElem_cons hlt]; congr 1
  rw [List.getElem?_eq_getElem hlt] at h; simpa using h

structure Flat where
  places : List Int
  named : List Pair
deriving DecidableEq

theorem noOwnR_map {α : Type} (enc : α → List C) (h : ∀ x, noOwnL (enc x) = true) : ∀ xs : List α, noOwnR (xs.map enc) = true
  | [] => rfl
  | x :: xs => by simp [noOwnR, h x, noOwnR_map enc h xs]

theorem take_set_step {α : Type} (xs ys : List α) (i : Nat) (x : α) (hx : xs[i]? = some x) (hl : ys.length = xs.length) (h : ys.take i = xs.take i) : (ys.set i x).take (i + 1) = xs.take (i + 1) := by
  have hlt := lt_of_some hx
  apply List.ext_getElem?
  intro j
  rw [List.getElem?_take, List.getElem?_take]
  by_cases hj : j < i + 1
  · rw [if_pos hj, if_pos hj, List.getElem?_set]
    by_cases hji : i = j
    · subst hji; rw [if_pos rfl, if_pos (by omega), hx]
    · rw [if_neg hji]
      have := congrArg (·[j]?) h
      simp only [List.getElem?_take] at this
      rwa [if_pos (by omega), if_pos (by omega)] at this
  · rw [if_neg hj, if_neg hj]

theorem map_set {α : Type} (enc : α → List C) (xs : List α) (i : Nat) (x : α) : (xs.set i x).map enc = (xs.map enc).set i (enc x) := by
  induction xs generalizing i with
  | nil => rfl
  | cons y ys ih => cases i with
    | zero => rfl
    | succ i => simp [ih]

theorem take_eq_step {α : Type} {xs ys : List α} {i : Nat} {x y : α} (hpre : xs.take i = ys.take i) (hx : xs[i]? = some x) (hy : ys[i]? = some y) : xs.take (i + 1) = ys.take (i + 1) ↔ x = y := by
  rw [List.take_add_one, List.take_add_one, hpre, hx, hy]; simp

def digs : Nat → Nat → Str → Str
  | 0, _, acc => acc
  | f + 1, q, acc => if q = 0 then acc else digs f (q / 10) (UInt8.ofNat (48 + q % 10) :: acc)

theorem digs_zero (f : Nat) (acc : Str) : digs f 0 acc = acc := by cases f <;> simp [digs]

def markText (k : Int) : Str := if k ≤ 0 then [109, 48] else 109 :: digs k.toNat k.toNat []

theorem wrap_u8 {n : Int} (h0 : 0 ≤ n) (h1 : n < 256) : IntKind.u8.wrap n = n := by
  simp only [IntKind.wrap, IntKind.bits, IntKind.signed]
  simp
  omega

theorem digit (q : Nat) : IntKind.u8.wrap (IntKind.i64.wrap (48 + Int.tmod (q : Int) 10)) = ((UInt8.ofNat (48 + q % 10)).toNat : Int) := by
  have h1 : Int.tmod (q : Int) 10 = ((q % 10 : Nat) : Int) := by
    rw [Int.tmod_eq_emod_of_nonneg (by omega)]; omega
  rw [h1, wrap64 (by omega) (by omega), wrap_u8 (by omega) (by omega)]
  simp
  omega

theorem markText_ct (k : Int) (hk : k ≤ 1099511627776) : ACalls pk 69 [.one (.int .i64 k)] [] (fun r o => r = .one (.str (markText k)) ∧ o = []) := by
  refine acalls_of_body Tryd.func69 rfl (by kernel_rfl) rfl ?_
  refine rn rfl ?_
  refine goal_cond rfl (fun h => ?_) (fun h => ?_) <;> simp only [decide_eq_true_eq, decide_eq_false_iff_not] at h
  · exact rn rfl (fin_is [] rfl ⟨by simp only [markText, h, if_true], rfl⟩)
  · obtain ⟨kn, rfl⟩ : ∃ n : Nat, k = n := ⟨k.toNat, by omega⟩
    refine rn rfl ?_
    refine goal_loop_keep (fun m σ => ∃ (n : Int) (f : Nat) (acc : Str), n = m ∧ m ≤ f ∧ m + acc.length ≤ kn ∧ digs kn kn [] = digs f m acc ∧
        σ = ⟨[(3, .one (.str acc)), (0, .one (.int .i64 n))], [], []⟩) kn [3, 0] [] rfl
      ⟨_, kn, [], rfl, Nat.le_refl _, by simp, rfl, rfl⟩ ?_
    rintro m σ ⟨n, f, acc, rfl, hf, hacc, hd, rfl⟩
    refine rn rfl ?_
    refine goal_cond rfl (fun h2 => ?_) (fun h2 => ?_) <;> simp only [decide_eq_true_eq, decide_eq_false_iff_not] at h2
    · refine rn rfl ?_
      refine goal_did rfl rfl (dA_ofBytes [UInt8.ofNat (48 + m % 10)] (rows := [[.int .u8 (IntKind.u8.wrap (IntKind.i64.wrap (48 + Int.tmod (m : Int) 10)))]]) (Src.os rfl rfl (Nat.le_refl 1) rfl) rfl rfl rfl rfl rfl rfl rfl rfl rfl (by simp only [List.map_cons, List.map_nil, rowB, digit])) ?_
      refine rn rfl ?_
      refine goal_did rfl rfl (dA_concat (UInt8.ofNat (48 + m % 10) :: acc) rfl rfl rfl (by simp; omega) rfl rfl) ?_
      refine rn rfl ?_
      have hq : IntKind.i64.wrap (Int.tdiv (m : Int) (Int.ofNat (9 + 1))) = ((m / 10 : Nat) : Int) := by
        have h1 : Int.tdiv (m : Int) (Int.ofNat (9 + 1)) = ((m / 10 : Nat) : Int) := by
          rw [Int.tdiv_eq_ediv_of_nonneg (by omega)]; simp
        rw [h1]; exact wrap64 (by omega) (by omega)
      refine round_keep (m / 10) [3, 0] [] (by omega) rfl ⟨_, f - 1, _, hq, by omega, ?_, ?_, rfl⟩
      · simp only [List.length_cons]; omega
      · rw [hd]
        obtain ⟨f', rfl⟩ : ∃ f', f = f' + 1 := ⟨f - 1, by omega⟩
        simp only [digs, if_neg (show ¬ m = 0 by omega), Nat.add_sub_cancel]
    · refine rn rfl ?_
      refine round_ext ?_
      refine rn rfl ?_
      have hm : m = 0 := by omega
      subst hm
      rw [digs_zero] at hd
      refine goal_did rfl rfl (dA_concat (109 :: acc) rfl rfl rfl (by simp; omega) rfl rfl) ?_
      refine rn rfl (fin_is [] rfl ⟨?_, rfl⟩)
      simp only [markText, if_neg h, Int.toNat_natCast, hd]

theorem rows_len {α : Type} {enc : α → List C} {n : Nat} (h : ∀ x, (enc x).length = n) (xs : List α) : ∀ r ∈ xs.map enc, r.length = n := by
  intro r hr; obtain ⟨x, _, rfl⟩ := List.mem_map.1 hr; exact h x

def inR (n lo hi : Int) : Bool := decide (lo ≤ n) && decide (n ≤ hi)

theorem iin_ct (n lo hi : Int) : ACalls pk 51 [.one (.int .i64 n), .one (.int .i64 lo), .one (.int .i64 hi)] [] (fun r o => r = .one (.bool (inR n lo hi)) ∧ o = []) := by
  refine acalls_of_body Tryd.func51 rfl (by kernel_rfl) rfl ?_
  refine rn rfl ?_
  refine goal_guard rfl rfl rfl (fun h => ?_) (fun h => ?_) <;> simp only [ge_iff_le, decide_eq_true_eq, decide_eq_false_iff_not] at h
  · exact rn rfl (fin_is [] rfl ⟨by simp [inR, h], rfl⟩)
  · exact rn rfl (fin_is [] rfl ⟨by simp [inR, h], rfl⟩)

theorem sin_ct (n lo hi : Int) : ACalls pk 64 [.one (.int .i64 n), .one (.int .i64 lo), .one (.int .i64 hi)] [] (fun r o => r = .one (.bool (inR n lo hi)) ∧ o = []) := by
  refine acalls_of_body Tryd.func64 rfl (by kernel_rfl) rfl ?_
  refine rn rfl ?_
  refine goal_guard rfl rfl rfl (fun h => ?_) (fun h => ?_) <;> simp only [decide_eq_true_eq, decide_eq_false_iff_not] at h
  · exact rn rfl (fin_is [] rfl ⟨by simp [inR, h], rfl⟩)
  · exact rn rfl (fin_is [] rfl ⟨by simp [inR, h], rfl⟩)

def okVal (n : Int) : Bool := inR n (-99) 99

def letter (b : UInt8) : Bool := decide (97 ≤ (b.toNat : Int)) && decide ((b.toNat : Int) ≤ 122)

def okName (s : Str) : Bool := s.all letter && inR s.length 1 6

theorem all_take_succ {α : Type} {p : α → Bool} {xs : List α} {i : Nat} {x : α} (h : xs[i]? = some x) : (xs.take (i + 1)).all p = ((xs.take i).all p && p x) := by
  rw [List.take_add_one, h]; simp

theorem all_false_of_take {α : Type} {p : α → Bool} {xs : List α} {i : Nat} (h : (xs.take i).all p = false) : xs.all p = false := by
  cases hb : xs.all p with
  | false => rfl
  | true =>
    rw [List.all_eq_true] at hb
    rw [List.all_eq_false] at h
    obtain ⟨x, hx, hp⟩ := h
    exact absurd (hb x (List.mem_of_mem_take hx)) hp

theorem isName_ct (s : Str) (hl : s.length ≤ 9223372036854775807) : ACalls pk 50 [.one (.str s)] [] (fun r o => r = .one (.bool (okName s)) ∧ o = []) := by
  refine acalls_of_body Tryd.func50 rfl (by kernel_rfl) rfl ?_
  refine rn rfl ?_
  refine goal_loop_keep (fun m σ => ∃ (n : Int) (i : Nat), n = i ∧ i ≤ s.length ∧ m = s.length - i ∧ (s.take i).all letter = true ∧
      σ = ⟨[(3, .one (.int .i64 n)), (0, .one (.str s))], [], []⟩) s.length [3, 0] [] rfl
    ⟨_, 0, rfl, by omega, by omega, rfl, rfl⟩ ?_
  rintro m σ ⟨n, i, rfl, hi, rfl, hall, rfl⟩
  refine rn rfl ?_
  refine goal_cond rfl (fun h => ?_) (fun h => ?_) <;> simp only [decide_eq_true_eq, decide_eq_false_iff_not] at h
  · obtain ⟨b, hb⟩ := at_some (xs := s) (i := i) (by omega)
    have hst := all_take_succ (p := letter) hb
    refine rn rfl ?_
    refine goal_did rfl rfl (dA_strIndex b rfl rfl rfl rfl rfl rfl (by omega) (by simpa using hb)) ?_
    refine rn rfl ?_
    refine goal_guard rfl rfl rfl (fun h1 => ?_) (fun h1 => ?_) <;> simp only [decide_eq_true_eq, decide_eq_false_iff_not] at h1
    · refine rn rfl ?_
      refine rn rfl (round_ret (fin_is [] rfl ⟨?_, rfl⟩))
      have : (s.take (i + 1)).all letter = false := by rw [hst]; simp [letter, show ¬ (97 ≤ (b.toNat : Int)) by omega]
      simp [okName, all_false_of_take this]
    · refine rn rfl ?_
      refine goal_did rfl rfl (dA_strIndex b rfl rfl rfl rfl rfl rfl (by omega) (by simpa using hb)) ?_
      refine rn rfl ?_
      refine goal_cond rfl (fun h2 => ?_) (fun h2 => ?_) <;> simp only [decide_eq_true_eq, decide_eq_false_iff_not] at h2
      · refine rn rfl (round_ret (fin_is [] rfl ⟨?_, rfl⟩))
        have : (s.take (i + 1)).all letter = false := by rw [hst]; simp [letter, show ¬ ((b.toNat : Int) ≤ 122) by omega]
        simp [okName, all_false_of_take this]
      · refine rn rfl ?_
        refine round_keep (s.length - (i + 1)) [3, 0] [] (by omega) rfl ⟨_, i + 1, wrap64 (by omega) (by omega), by omega, rfl, ?_, rfl⟩
        rw [hst, hall]; simp only [letter, Bool.true_and, Bool.and_eq_true, decide_eq_true_eq]; omega
  · refine rn rfl (round_ext ?_)
    refine rn rfl ?_
    refine goal_step (step_call [] rfl rfl rfl rfl rfl rfl (iin_ct s.length 1 6)) ?_
    rintro σ2 ⟨r, o', ⟨rfl, rfl⟩, hσ⟩
    obtain rfl := Option.some.inj hσ
    refine rn rfl (fin_is [] rfl ⟨?_, rfl⟩)
    rw [show i = s.length by omega, List.take_length] at hall
    simp [okName, hall]

theorem validName_ct (s : Str) (hl : s.length ≤ 9223372036854775807) : ACalls pk 63 [.one (.str s)] [] (fun r o => r = .one (.bool (okName s)) ∧ o = []) := by
  refine acalls_of_body Tryd.func63 rfl (by kernel_rfl) rfl ?_
  refine rn rfl ?_
  refine goal_loop_keep (fun m σ => ∃ (n : Int) (i : Nat), n = i ∧ i ≤ s.length ∧ m = s.length - i ∧ (s.take i).all letter = true ∧
      σ = ⟨[(3, .one (.int .i64 n)), (0, .one (.str s))], [], []⟩) s.length [3, 0] [] rfl
    ⟨_, 0, rfl, by omega, by omega, rfl, rfl⟩ ?_
  rintro m σ ⟨n, i, rfl, hi, rfl, hall, rfl⟩
  refine rn rfl ?_
  refine goal_cond rfl (fun h => ?_) (fun h => ?_) <;> simp only [decide_eq_true_eq, decide_eq_false_iff_not] at h
  · obtain ⟨b, hb⟩ := at_some (xs := s) (i := i) (by omega)
    have hst := all_take_succ (p := letter) hb
    refine rn rfl ?_
    refine goal_did rfl rfl (dA_strIndex b rfl rfl rfl rfl rfl rfl (by omega) (by simpa using hb)) ?_
    refine rn rfl ?_
    refine goal_guard rfl rfl rfl (fun h1 => ?_) (fun h1 => ?_) <;> simp only [decide_eq_true_eq, decide_eq_false_iff_not] at h1
    · refine rn rfl ?_
      refine rn rfl (round_ret (fin_is [] rfl ⟨?_, rfl⟩))
      have : (s.take (i + 1)).all letter = false := by rw [hst]; simp [letter, show ¬ (97 ≤ (b.toNat : Int)) by omega]
      simp [okName, all_false_of_take this]
    · refine rn rfl ?_
      refine goal_did rfl rfl (dA_strIndex b rfl rfl rfl rfl rfl rfl (by omega) (by simpa using hb)) ?_
      refine rn rfl ?_
      refine goal_cond rfl (fun h2 => ?_) (fun h2 => ?_) <;> simp only [decide_eq_true_eq, decide_eq_false_iff_not] at h2
      · refine rn rfl (round_ret (fin_is [] rfl ⟨?_, rfl⟩))
        have : (s.take (i + 1)).all letter = false := by rw [hst]; simp [letter, show ¬ ((b.toNat : Int) ≤ 122) by omega]
        simp [okName, all_false_of_take this]
      · refine rn rfl ?_
        refine round_keep (s.length - (i + 1)) [3, 0] [] (by omega) rfl ⟨_, i + 1, wrap64 (by omega) (by omega), by omega, rfl, ?_, rfl⟩
        rw [hst, hall]; simp only [letter, Bool.true_and, Bool.and_eq_true, decide_eq_true_eq]; omega
  · refine rn rfl (round_ext ?_)
    refine rn rfl ?_
    refine goal_step (step_call [] rfl rfl rfl rfl rfl rfl (sin_ct s.length 1 6)) ?_
    rintro σ2 ⟨r, o', ⟨rfl, rfl⟩, hσ⟩
    obtain rfl := Option.some.inj hσ
    refine rn rfl (fin_is [] rfl ⟨?_, rfl⟩)
    rw [show i = s.length by omega, List.take_length] at hall
    simp [okName, hall]

def okPair (p : Pair) : Bool := okName p.name && okVal p.value

def idxI {α : Type} (pred : α → Bool) : List α → Nat → Int
  | [], _ => -1
  | x :: xs, i => if pred x then i else idxI pred xs (i + 1)

theorem idxI_none {α : Type} {pred : α → Bool} : ∀ {xs : List α} {i : Nat}, idxI pred xs i = -1 ↔ xs.any pred = false
  | [], i => by simp [idxI]
  | x :: xs, i => by
    simp only [idxI, List.any_cons, Bool.or_eq_false_iff]
    cases h : pred x with
    | true => simp
    | false => simp [idxI_none (xs := xs)]

theorem idxI_some {α : Type} {pred : α → Bool} : ∀ {xs : List α} {i : Nat}, xs.any pred = true → idxI pred xs i = ((i + xs.findIdx pred : Nat) : Int)
  | [], i, h => by simp at h
  | x :: xs, i, h => by
    simp only [idxI, List.findIdx_cons]
    cases hp : pred x with
    | true => simp
    | false =>
      simp only [List.any_cons, hp, Bool.false_or] at h
      simp only [Bool.false_eq_true, if_false, idxI_some h, cond_false]
      omega

theorem idxI_ge {α : Type} {pred : α → Bool} {xs : List α} {i : Nat} : (0 ≤ idxI pred xs i) ↔ xs.any pred = true := by
  cases h : xs.any pred with
  | true => rw [idxI_some h]; simp; omega
  | false => rw [idxI_none.2 h]; simp

def nameIs (n : Str) (p : Pair) : Bool := p.name == n

def namesOf (ps : List Pair) : List Str := ps.map Pair.name

def okFlat (f : Flat) : Bool := f.named.all okPair && decide (namesOf f.named).Nodup && f.places.all okVal && decide (f.places.length ≤ 8) && decide (f.named.length ≤ 8)

def ltS (a b : Str) : Bool := Op.bytesLess a b

theorem foldl_take_succ {α β : Type} (f : β → α → β) (b : β) {xs : List α} {i : Nat} {x : α} (h : xs[i]? = some x) : (xs.take (i + 1)).foldl f b = f ((xs.take i).foldl f b) x := by
  rw [List.take_add_one, h]; simp

theorem whole {α : Type} {xs : List α} {n : Nat} (h : xs.length ≤ n) : xs = xs.take n := (List.take_of_length_le h).symm

def zF : Flat := ⟨[], []⟩

theorem u8_lt_irrefl (a : UInt8) : ¬ a < a := by simp [UInt8.lt_iff_toNat_lt]

theorem ltS_irrefl : ∀ a : Str, ltS a a = false
  | [] => rfl
  | x :: a => by
    have := ltS_irrefl a
    simp only [ltS] at this ⊢
    simp only [Op.bytesLess, this, Bool.and_false, Bool.or_false, decide_eq_false_iff_not]
    exact u8_lt_irrefl x

theorem ltS_cons (x y : UInt8) (a b : Str) : ltS (x :: a) (y :: b) = true ↔ x.toNat < y.toNat ∨ (x = y ∧ ltS a b = true) := by
  simp [ltS, Op.bytesLess, UInt8.lt_iff_toNat_lt]

theorem ltS_nil (a : Str) : ltS a [] = false := by cases a <;> rfl

theorem ltS_trans : ∀ {a b c : Str}, ltS a b = true → ltS b c = true → ltS a c = true
  | a, [], c, h, _ => by rw [ltS_nil] at h; cases h
  | a, y :: b, [], _, h => by rw [ltS_nil] at h; cases h
  | [], y :: b, z :: c, _, _ => rfl
  | x :: a, y :: b, z :: c, h1, h2 => by
    rw [ltS_cons] at h1 h2 ⊢
    rcases h1 with h1 | ⟨rfl, h1⟩
    · rcases h2 with h2 | ⟨rfl, h2⟩
      · left; omega
      · left; exact h1
    · rcases h2 with h2 | ⟨rfl, h2⟩
      · left; exact h2
      · right; exact ⟨rfl, ltS_trans h1 h2⟩

theorem ltS_total : ∀ {a b : Str}, a ≠ b → ltS a b = false → ltS b a = true
  | [], [], h, _ => absurd rfl h
  | [], y :: b, _, h => by cases h
  | x :: a, [], _, _ => rfl
  | x :: a, y :: b, hne, h => by
    have h' : ¬ ltS (x :: a) (y :: b) = true := by rw [h]; simp
    rw [ltS_cons] at h'
    rw [ltS_cons]
    by_cases hxy : x = y
    · subst hxy
      right
      refine ⟨rfl, ltS_total (fun h0 => hne (by rw [h0])) ?_⟩
      cases hb : ltS a b with
      | false => rfl
      | true => exact absurd (.inr ⟨rfl, hb⟩) h'
    · left
      have : x.toNat ≠ y.toNat := fun h0 => hxy (UInt8.toNat_inj.1 h0)
      omega

theorem ltS_asymm {a b : Str} (h : ltS a b = true) : ltS b a = false := by
  cases hb : ltS b a with
  | false => rfl
  | true => have := ltS_trans h hb; rw [ltS_irrefl] at this; cases this

def putP (ps : List Pair) (n : Str) (v : Int) : List Pair :=
  if ps.any (nameIs n) then ps.modify (ps.findIdx (nameIs n)) (fun p => ⟨p.name, v⟩) else ps ++ [⟨n, v⟩]

theorem putP_length (ps : List Pair) (n : Str) (v : Int) : (putP ps n v).length ≤ ps.length + 1 := by
  unfold putP; split <;> simp

theorem putP_mem {ps : List Pair} {n : Str} {v : Int} {p : Pair} (h : p ∈ putP ps n v) : p.name = n ∨ ∃ q ∈ ps, p.name = q.name := by
  unfold putP at h
  split at h
  · rename_i hy
    obtain ⟨j, hj⟩ := List.getElem?_of_mem h
    rw [List.getElem?_modify] at hj
    cases hq : ps[j]? with
    | none => rw [hq] at hj; simp at hj
    | some q =>
      rw [hq] at hj
      right
      refine ⟨q, List.mem_of_getElem? hq, ?_⟩
      simp at hj
      split at hj <;> (subst hj; rfl)
  · rcases List.mem_append.1 h with h | h
    · exact .inr ⟨p, h, rfl⟩
    · simp at h; subst h; exact .inl rfl

def eS (s : Str) : List C := [.str s]

theorem CRr_strsV {D : Nat → Prop} {h : Array Obj} {e : List ALoc} : ∀ (xs : List Str) (vs : List Value), CRr D h e 1 (xs.map eS) vs → ∀ j, j < xs.length → vs[j]? = some (Value.string ⟨xs[j]!.toArray⟩)
  | [], vs, _, j, hj => by simp at hj
  | x :: xs, vs, H, j, hj => by
    simp only [List.map_cons, CRr] at H
    obtain ⟨_, h1, h2⟩ := H
    cases vs with
    | nil => simp [eS, CRp] at h1
    | cons v vs =>
      simp only [eS, CRp, CR] at h1
      cases j with
      | zero => simp [h1.1]
      | succ j => simpa using CRr_strsV xs vs (by simpa using h2) j (by simpa using hj)

theorem strs_CRrV {D : Nat → Prop} {h : Array Obj} {e : List ALoc} : ∀ (xs : List Str) (vs : List Value), (∀ j, j < xs.length → vs[j]? = some (Value.string ⟨xs[j]!.toArray⟩)) → CRr D h e 1 (xs.map eS) vs
  | [], vs, _ => by simp [CRr]
  | x :: xs, vs, H => by
    have h0 := H 0 (by simp)
    cases vs with
    | nil => simp at h0
    | cons v vs =>
      simp only [List.map_cons, CRr]
      refine ⟨rfl, ?_, ?_⟩
      · simp only [eS, CRp, CR]
        exact ⟨by simpa using h0, trivial⟩
      · exact strs_CRrV xs _ fun j hj => by simpa using H (j + 1) (by simpa using hj)

section
open Go Go.RowKit
/-- A contract of the library's, for texts and numbers. -/
theorem acalls_plain {X : Pk} {f : FuncId} {args : List T} {Φ : T → Prop} (hc : Callable X.P f)
    (h : ∀ (D : Nat → Prop) (w : World) (vals : List Value), GlobOk w [] → TRs D w.heap [] args vals → Calls X.P f vals.toArray w fun en w' => ∃ v r, en = .returned v ∧ Below w.heap.size w w' ∧ Φ r ∧ TR D w'.heap [] r v) :
    ACalls X f args [] (fun r o => Φ r ∧ o = []) := by
  refine ⟨hc, fun D e w vals hG hS hT hb => ?_⟩
  have he : e = [] := List.eq_nil_of_length_eq_zero (by rw [hS.len]; rfl)
  subst he
  refine (h D w vals hG hT).mono ?_
  rintro en w' ⟨v, r, rfl, bel, hr, hv⟩
  exact ⟨v, r, [], D, [], rfl, ⟨hr, rfl⟩, hv, ⟨rfl, by simp, by simp, by simp, fun b hb => Nat.lt_of_lt_of_le (hS.dom b hb) bel.size⟩,
    ⟨bel.os, bel.tape, bel.output, bel.size, fun b hb _ => bel.block b hb⟩, by simp, fun _ h _ => h, by simp, by simp⟩

theorem glob_cell {w : World} {e : List ALoc} (h : GlobOk w e) {g : Nat} (hg : g ∈ GL) : ∃ (cs : Array Value) (t : TypeId) (fr : Nat × Nat), w.heap[g]? = some (.cells cs t fr) ∧ GLok g (.cells cs t fr) := by
  obtain ⟨_, ob, h1, h2⟩ := h g hg
  obtain ⟨cs, t, fr, rfl, h3⟩ := h2
  exact ⟨cs, t, fr, h1, cs, t, fr, rfl, h3⟩

theorem glob_tab {w : World} {e : List ALoc} (h : GlobOk w e) : Lib.TabIs Tryd.prog w "internal/strconv.uint64pow10" .u64 Lib.pow10Tab := by
  obtain ⟨cs, t, fr, h1, cs', t', fr', h2, _, _, h3⟩ := glob_cell h (g := 3) (by simp [GL])
  cases h2
  have hn : Tryd.prog.globalNamed "internal/strconv.uint64pow10" = some 3 := by kernel_rfl
  unfold Lib.TabIs World.var?
  rw [hn]
  simp only [Option.bind_some, h1]
  rw [h3 rfl]

theorem glob_int {w : World} {e : List ALoc} (h : GlobOk w e) : ∃ m, w.cell? ⟨0, 0, none⟩ = some (.int .i64 m) := by
  obtain ⟨cs, t, fr, h1, cs', t', fr', h2, h3, _, _⟩ := glob_cell h (g := 0) (by simp [GL])
  cases h2
  obtain ⟨m, hm⟩ := h3 rfl
  exact ⟨m, by simp [World.cell?, h1, hm]⟩

theorem glob_err {w : World} {e : List ALoc} (h : GlobOk w e) {g : Nat} (hg : g = 1 ∨ g = 2) : ∃ te pe, w.cell? ⟨g, 0, none⟩ = some (.iface te pe) := by
  obtain ⟨cs, t, fr, h1, cs', t', fr', h2, _, h3, _⟩ := glob_cell h (g := g) (by rcases hg with rfl | rfl <;> simp [GL])
  cases h2
  obtain ⟨te, pe, hm⟩ := h3 hg
  exact ⟨te, pe, by simp [World.cell?, h1, hm]⟩

theorem below_grow {w : World} (k : Nat) (os : Array Obj) : Below w.heap.size w (Go.Sort.grow (w.drewN k) os) := by
  refine ⟨rfl, rfl, rfl, by simp [Go.Sort.grow, World.drewN], fun i hi => ?_⟩
  simp only [Go.Sort.grow, World.drewN]
  rw [Array.getElem?_append_left hi]

theorem itoa_ct (n : Int) (h0 : -9223372036854775808 ≤ n) (h1 : n ≤ 9223372036854775807) : ACalls pk 45 [.one (.int .i64 n)] [] (fun r o => r = .one (.str (Lib.itoa n)) ∧ o = []) := by
  refine acalls_plain ⟨_, Tryd.func45, rfl, by kernel_rfl⟩ fun D w vals hG hT => ?_
  simp only [TRs, TR, CR] at hT
  obtain ⟨x, r, rfl, rfl, rfl⟩ := hT
  refine (Go.Proofs.Any.strconv_Itoa lays_n171 n h0 h1 w (glob_tab hG)).mono ?_
  rintro en w' ⟨rfl, k, os, rfl⟩
  exact ⟨_, _, rfl, below_grow k os, rfl, by simp only [TR, CR]⟩

/-- What Atoi gives: a number, and an error that is nil or not. -/
def errC (ok : Bool) (N : Nat) : C := if ok then .v .nilIface else .v (.iface 142 (.pointer (some ⟨N, 0, none⟩)))

def AtoiR (s : Str) (r : T) : Prop := ∃ (n : Int) (ok : Bool) (N : Nat), r = .tup [.one (.int .i64 n), .one (errC ok N)] ∧ (ok = true → Lib.atoiAll s = .ok n) ∧ (∀ v, Lib.atoiAll s = .ok v → ok = true) ∧ -9223372036854775808 ≤ n ∧ n ≤ 9223372036854775807

theorem atoi_range {s : Str} {v : Int} (h : Lib.atoiAll s = .ok v) : -9223372036854775808 ≤ v ∧ v ≤ 9223372036854775807 := by
  unfold Lib.atoiAll at h
  split at h
  · cases h
  · simp only at h
    split at h
    · cases h
    · cases h
    · split at h
      · cases h
      · split at h
        · cases h
        · cases h
          split <;> omega

theorem atoi_ct (s : Str) (hs : s.length ≤ 1073741824) : ACalls pk 66 [.one (.str s)] [] (fun r o => AtoiR s r ∧ o = []) := by
  refine acalls_plain ⟨_, Tryd.func66, rfl, by kernel_rfl⟩ fun D w vals hG hT => ?_
  simp only [TRs, TR, CR] at hT
  obtain ⟨x, r, rfl, rfl, rfl⟩ := hT
  have hsz : (⟨s.toArray⟩ : ByteArray).size = s.length := by simp [ByteArray.size]
  cases h : Lib.atoiAll s with
  | ok v =>
    refine (Go.Proofs.Any.strconv_Atoi_ok lays_n172 ⟨s.toArray⟩ (by rw [hsz]; omega) v (by simpa using h) w).mono ?_
    rintro en w' ⟨rfl, hw⟩
    obtain ⟨a1, a2⟩ := atoi_range h
    refine ⟨_, .tup [.one (.int .i64 v), .one (errC true 0)], rfl, ?_, ⟨v, true, 0, rfl, fun _ => h, fun _ _ => rfl, a1, a2⟩, ?_⟩
    · rcases hw with rfl | ⟨t, rfl⟩
      · exact Below.refl _ _
      · exact Lib.bytesWorld_below _ _ _
    · simp only [TR, TRs, CR, errC, if_true]
      exact ⟨_, rfl, _, _, rfl, rfl, _, _, rfl, ⟨rfl, rfl⟩, rfl⟩
  | range =>
    obtain ⟨te, pe, hv⟩ := glob_err hG (.inr rfl)
    refine (Go.Proofs.Any.strconv_Atoi_range lays_n172 ⟨s.toArray⟩ (by rw [hsz]; omega) (by simpa using h) (.iface te pe) w hv (.inr ⟨te, pe, rfl⟩)).mono ?_
    rintro en w' ⟨N, rfl, _, _, bel⟩
    exact ⟨_, .tup [.one (.int .i64 (Lib.atoiSat s)), .one (errC false N)], rfl, bel, ⟨_, false, N, rfl, (fun h0 => by cases h0), (fun v h0 => by rw [h] at h0; cases h0), by unfold Lib.atoiSat; split <;> omega, by unfold Lib.atoiSat; split <;> omega⟩, by
      simp only [TR, TRs, CR, errC, Bool.false_eq_true, if_false]
      exact ⟨_, rfl, _, _, rfl, rfl, _, _, rfl, ⟨rfl, rfl⟩, rfl⟩⟩
  | _ =>
    obtain ⟨te, pe, hv⟩ := glob_err hG (.inl rfl)
    refine (Go.Proofs.Any.strconv_Atoi_syntax lays_n172 ⟨s.toArray⟩ (by rw [hsz]; omega) (by simpa using h) (.iface te pe) w hv (.inr ⟨te, pe, rfl⟩)).mono ?_
    rintro en w' ⟨N, rfl, _, _, bel⟩
    exact ⟨_, .tup [.one (.int .i64 0), .one (errC false N)], rfl, bel, ⟨0, false, N, rfl, (fun h0 => by cases h0), (fun v h0 => by rw [h] at h0; cases h0), by omega, by omega⟩, by
      simp only [TR, TRs, CR, errC, Bool.false_eq_true, if_false]
      exact ⟨_, rfl, _, _, rfl, rfl, _, _, rfl, ⟨rfl, rfl⟩, rfl⟩⟩

/-- Where rows that are data lie. -/
theorem fs_at {D : Nat → Prop} {h : Array Obj} {xs : List Str} {v : Value} (H : CR D h [] (.fs (xs.map eS)) v) : ∃ A cap, v = .slice A xs.length cap ∧ xs.length ≤ cap ∧ (xs = [] ∨ ∃ (b : Addr) (cells : Array Value) (t : TypeId) (fr : Nat × Nat), A = some b ∧ b.spot = none ∧ h[b.block]? = some (.cells cells t fr) ∧ ∀ j, j < xs.length → cells[b.off + j]? = some (Value.string ⟨xs[j]!.toArray⟩)) := by
  simp only [CR] at H
  obtain ⟨A, cap, rfl, hc, hA⟩ := H
  refine ⟨A, cap, by simp, by simpa using hc, ?_⟩
  rcases hA with hA | ⟨b, cells, t, fr, sz, rfl, hs, hD, hh, hr⟩
  · left; exact List.map_eq_nil_iff.1 hA
  · cases xs with
    | nil => exact .inl rfl
    | cons x xs =>
      right
      have hsz : sz = 1 := by
        simp only [List.map_cons, CRr] at hr
        exact hr.1.symm
      subst hsz
      refine ⟨b, cells, t, fr, rfl, hs, hh, fun j hj => ?_⟩
      have := CRr_strsV _ _ hr j hj
      rw [List.getElem?_drop, Array.getElem?_toList] at this
      exact this

theorem build_ex : Go.Proofs.Builder.Extra Tryd.prog lays_n156_ren where
  sizeBuilder := by kernel_rfl
  liesBuilder := by kernel_rfl
  t5 := Tryd.underlying5
  a5 := Tryd.isAgg5
  z5 := Tryd.sizeOf5
  v5 := Tryd.zeroValue5
  infoByte := by kernel_rfl
  cellsByte := by kernel_rfl
  sizeByte := by kernel_rfl
  neB5 := by decide

theorem join_ct (xs : List Str) (sep : Str) (h1 : xs.length ≤ 1073741824) (h2 : (Lib.join xs sep).length ≤ 1073741824) : ACalls pk 43 [.one (.fs (xs.map eS)), .one (.str sep)] [] (fun r o => r = .one (.str (Lib.join xs sep)) ∧ o = []) := by
  refine acalls_plain ⟨_, Tryd.func43, rfl, by kernel_rfl⟩ fun D w vals hG hT => ?_
  simp only [TRs, TR] at hT
  obtain ⟨x, r, rfl, hx, y, r', rfl, hy, rfl⟩ := hT
  obtain ⟨A, cap, rfl, hcap, hA⟩ := fs_at hx
  simp only [CR] at hy
  subst hy
  have fin : ∀ (en : Ending) (w' : World), en = .returned (.string ⟨(Lib.join xs sep).toArray⟩) → Below w.heap.size w w' → ∃ v r, en = .returned v ∧ Below w.heap.size w w' ∧ r = T.one (.str (Lib.join xs sep)) ∧ TR D w'.heap [] r v := fun en w' h1 h2 =>
    ⟨_, _, h1, h2, rfl, by simp only [TR, CR]⟩
  rcases hA with rfl | ⟨b, cells, t, fr, rfl, hs, hh, hat⟩
  · refine (Go.Proofs.Any.strings_Join_none lays_n156 build_ex A cap ⟨sep.toArray⟩ w).mono ?_
    rintro en w' ⟨rfl, rfl⟩
    exact fin _ _ rfl (Below.refl _ _)
  · have hmap : ((xs.map fun x => (⟨x.toArray⟩ : ByteArray)).map (·.data.toList)) = xs := by simp [Function.comp_def]
    have hbl : b.block < w.heap.size := (Array.getElem?_eq_some_iff.1 hh).1
    have key := Go.Proofs.Any.strings_Join lays_n156 build_ex b.block b.off cap (xs.map fun x => (⟨x.toArray⟩ : ByteArray)) ⟨sep.toArray⟩ w (fun j x hj => by
        rw [List.getElem?_map, Option.map_eq_some_iff] at hj
        obtain ⟨y, hy, rfl⟩ := hj
        have := hat j (lt_of_some hy)
        simp only [World.cell?, hh, Option.isSome_none, Bool.false_eq_true, if_false]
        rw [this]
        have hyy : xs[j]! = y := by simp [List.getElem!_eq_getElem?_getD, hy]
        rw [hyy]) hbl (by simp; omega) (by simpa using hcap) (by rw [hmap]; simp only [List.toList_toArray]; omega)
    rw [hmap] at key
    simp only [List.toList_toArray, List.length_map] at key
    have hb : b = ⟨b.block, b.off, none⟩ := by cases b; simp only at hs; subst hs; rfl
    rw [← hb] at key
    refine key.mono ?_
    rintro en w' ⟨rfl, bel⟩
    exact fin _ _ rfl bel

theorem splitB_len (sep : ByteArray) (h1 : 1 ≤ sep.size) : ∀ (k : Nat) (s : ByteArray), k = Lib.countB s sep → (Lib.splitB sep 0 k s).length = k + 1
  | 0, s, _ => rfl
  | k + 1, s, h => by
    cases hi : Lib.indexB s sep == -1 with
    | true =>
      have := Lib.countB_miss s sep (by simpa using hi)
      omega
    | false =>
      have hne : Lib.indexB s sep ≠ -1 := by simpa using hi
      have hge : -1 ≤ Lib.indexB s sep := Lib.index_ge _ _
      obtain ⟨i, hi2⟩ : ∃ i : Nat, Lib.indexB s sep = i := ⟨(Lib.indexB s sep).toNat, by omega⟩
      have := Lib.countB_hit s sep i h1 hi2
      rw [Lib.splitB_hit sep 0 k s i hi2, List.length_cons, splitB_len sep h1 k _ (by omega)]

theorem splitB_is (s sep : Str) : (Lib.splitB ⟨sep.toArray⟩ 0 (Lib.countB ⟨s.toArray⟩ ⟨sep.toArray⟩) ⟨s.toArray⟩).map (·.data.toList) = Lib.split s sep := by
  rw [Lib.splitB_data]
  rfl

theorem split_ct (s sep : Str) (hs : s.length ≤ 1073741824) (h1 : 1 ≤ sep.length) : ACalls pk 35 [.one (.str s), .one (.str sep)] [] (fun r o => r = .one (.fs ((Lib.split s sep).map eS)) ∧ o = []) := by
  refine ⟨⟨_, Tryd.func35, rfl, by kernel_rfl⟩, fun D e w vals hG hS hT hb => ?_⟩
  have he : e = [] := List.eq_nil_of_length_eq_zero (by rw [hS.len]; rfl)
  subst he
  simp only [TRs, TR, CR] at hT
  obtain ⟨x, r, rfl, rfl, y, r', rfl, rfl, rfl⟩ := hT
  obtain ⟨m, hm⟩ := glob_int hG
  have key := Go.Proofs.Any.strings_Split lays_n146 (by kernel_rfl) ⟨s.toArray⟩ ⟨sep.toArray⟩ m w (by simp [ByteArray.size]; omega) hm (by simpa [ByteArray.size] using h1)
  have hlen := splitB_len ⟨sep.toArray⟩ (by simpa [ByteArray.size] using h1) _ ⟨s.toArray⟩ rfl
  have his := splitB_is s sep
  generalize Lib.splitB ⟨sep.toArray⟩ 0 (Lib.countB ⟨s.toArray⟩ ⟨sep.toArray⟩) ⟨s.toArray⟩ = ps at *
  rw [← hlen] at key
  have hpl : (Lib.split s sep).length = ps.length := by rw [← his]; simp
  refine key.mono ?_
  rintro en w' ⟨rfl, rfl⟩
  have hnew : (w.alloc (.cells (ps.map Value.string).toArray (lays_n146_ren.t 9))).heap[w.heap.size]? = some (.cells (ps.map Value.string).toArray (lays_n146_ren.t 9)) := by
    show (w.heap.push _)[w.heap.size]? = _
    simp
  have hsize : (w.alloc (.cells (ps.map Value.string).toArray (lays_n146_ren.t 9))).heap.size = w.heap.size + 1 := by simp
  have hold : ∀ b, b < w.heap.size → (w.alloc (.cells (ps.map Value.string).toArray (lays_n146_ren.t 9))).heap[b]? = w.heap[b]? := fun b hb => by
    show (w.heap.push _)[b]? = _
    rw [Array.getElem?_push, if_neg (by omega)]
  refine ⟨_, _, [], fun b => D b ∨ b = w.heap.size, [], rfl, ⟨rfl, rfl⟩, ?_, ⟨rfl, by simp, by simp, by simp, fun b hb => ?_⟩, ⟨rfl, rfl, rfl, by rw [hsize]; omega, fun b hb _ => hold b hb⟩, by simp, fun b hb hlt => ?_, by simp, by simp⟩
  · simp only [TR, CR]
    refine ⟨some ⟨w.heap.size, 0, none⟩, ps.length, by simp [hpl], by simp [hpl], .inr ⟨_, _, _, _, 1, rfl, rfl, .inr rfl, hnew, ?_⟩⟩
    refine strs_CRrV _ _ fun j hj => ?_
    rw [hpl] at hj
    rw [← his]
    simp [hj]
  · rcases hb with hb | hb
    · rw [hsize]; have := hS.dom b hb; omega
    · rw [hsize]; omega
  · rcases hb with hb | hb
    · exact hb
    · omega
end

theorem itoa_nat (n : Nat) : Lib.itoa (n : Int) = Lib.decDigits n := by
  unfold Lib.itoa
  rw [if_neg (by omega)]; simp

theorem dec_len : ∀ n : Nat, (Lib.decDigits n).length ≤ n + 1 := fun n => by
  induction n using Nat.strongRecOn with
  | ind n ih =>
    rw [Lib.decDigits]
    split
    · simp
    · have := ih (n / 10) (by omega)
      simp only [List.length_append, List.length_singleton]; omega

theorem dec_short {n : Nat} (h : n ≤ 9223372036854775807) : (Lib.decDigits n).length ≤ 1000000000000000000 := by
  rw [Lib.decDigits]
  split
  · simp
  · have := dec_len (n / 10)
    simp only [List.length_append, List.length_singleton]; omega

theorem digit_at {n : Nat} (h : n < 10) : [UInt8.ofNat (48 + n)] = (List.drop n [48, 49, 50, 51, 52, 53, 54, 55, 56, 57]).take (n + 1 - n) := by
  have : n = 0 ∨ n = 1 ∨ n = 2 ∨ n = 3 ∨ n = 4 ∨ n = 5 ∨ n = 6 ∨ n = 7 ∨ n = 8 ∨ n = 9 := by omega
  rcases this with rfl | rfl | rfl | rfl | rfl | rfl | rfl | rfl | rfl | rfl <;> rfl

theorem number_nat : ∀ (k n : Nat), n < k → n ≤ 9223372036854775807 → ACalls pk 62 [.one (.int .i64 n)] [] (fun r o => r = .one (.str (Lib.itoa n)) ∧ o = []) := by
  intro k
  induction k with
  | zero => intro n h; omega
  | succ k ih =>
    intro n hk hn
    refine acalls_of_body Tryd.func62 rfl (by kernel_rfl) rfl ?_
    refine rn rfl ?_
    refine goal_cond rfl (fun h => by simp at h; omega) (fun _ => ?_)
    refine rn rfl ?_
    refine goal_cond rfl (fun h => ?_) (fun h => ?_) <;> (try simp only [gt_iff_lt, ge_iff_le, bne_iff_ne, ne_eq, bne_eq_false_iff_eq, beq_iff_eq, beq_eq_false_iff_ne, Bool.not_eq_true', Bool.not_eq_false', decide_eq_true_eq, decide_eq_false_iff_not, List.length_map] at h)
    · have hn10 : n < 10 := by omega
      rw [itoa_nat, Lib.decDigits_one hn10]
      refine rn rfl ?_
      refine goal_did rfl rfl (dA_strSlice n (n + 1) [UInt8.ofNat (48 + n)] rfl rfl rfl rfl (Bnd.some_ rfl rfl) (Bnd.some_ rfl (wrap64 (by omega) (by omega))) (by omega) (by simp; omega) rfl (digit_at hn10)) ?_
      refine rn rfl ?_
      exact rn rfl (fin_is [] rfl ⟨rfl, rfl⟩)
    · have hn10 : ¬ n < 10 := by omega
      have hq : IntKind.i64.wrap ((n : Int).tdiv (Int.ofNat (9 + 1))) = ((n / 10 : Nat) : Int) := by
        rw [show (Int.ofNat (9 + 1)) = ((10 : Nat) : Int) from rfl, Int.tdiv_eq_ediv_of_nonneg (by omega), wrap64 (by omega) (by omega)]; omega
      have hr : (n : Int).tmod (Int.ofNat (9 + 1)) = ((n % 10 : Nat) : Int) := by
        rw [show (Int.ofNat (9 + 1)) = ((10 : Nat) : Int) from rfl, Int.tmod_eq_emod_of_nonneg (by omega)]; omega
      have h1 := dec_len (n / 10)
      have e : Lib.itoa (n : Int) = Lib.itoa ((n / 10 : Nat) : Int) ++ Lib.itoa ((n % 10 : Nat) : Int) := by
        rw [itoa_nat, itoa_nat, itoa_nat, Lib.decDigits_one (show n % 10 < 10 by omega)]
        conv => lhs; rw [Lib.decDigits, dif_neg hn10]
      rw [e]
      refine rn rfl ?_
      refine goal_step (step_callE [] rfl rfl rfl rfl rfl rfl (congrArg (fun z => [T.one (C.int .i64 z)]) hq) (ih (n / 10) (by omega) (by omega))) ?_
      rintro σ2 ⟨r, o', ⟨rfl, rfl⟩, hσ⟩
      obtain rfl := Option.some.inj hσ
      clear hσ
      refine rn rfl ?_
      refine goal_step (step_callE [] rfl rfl rfl rfl rfl rfl (congrArg (fun z => [T.one (C.int .i64 z)]) hr) (ih (n % 10) (by omega) (by omega))) ?_
      rintro σ2 ⟨r, o', ⟨rfl, rfl⟩, hσ⟩
      obtain rfl := Option.some.inj hσ
      clear hσ
      refine rn rfl ?_
      refine goal_did rfl rfl (dA_concat (Lib.itoa ((n / 10 : Nat) : Int) ++ Lib.itoa ((n % 10 : Nat) : Int)) rfl rfl rfl (by rw [itoa_nat, itoa_nat, Lib.decDigits_one (show n % 10 < 10 by omega)]; simp; omega) rfl rfl) ?_
      refine rn rfl ?_
      exact rn rfl (fin_is [] rfl ⟨rfl, rfl⟩)

theorem number_ct (n : Int) (h1 : -9223372036854775807 ≤ n) (h2 : n ≤ 9223372036854775807) : ACalls pk 62 [.one (.int .i64 n)] [] (fun r o => r = .one (.str (Lib.itoa n)) ∧ o = []) := by
  rcases (show n < 0 ∨ 0 ≤ n by omega) with h | h
  · have hw : IntKind.i64.wrap (0 - n) = ((n.natAbs : Nat) : Int) := by rw [wrap64 (by omega) (by omega)]; omega
    have e : Lib.itoa n = [45] ++ Lib.itoa ((n.natAbs : Nat) : Int) := by
      rw [itoa_nat]; unfold Lib.itoa; rw [if_pos h]; rfl
    have hd := dec_len n.natAbs
    rw [e]
    refine acalls_of_body Tryd.func62 rfl (by kernel_rfl) rfl ?_
    refine rn rfl ?_
    refine goal_cond rfl (fun _ => ?_) (fun h0 => by simp at h0; omega)
    refine rn rfl ?_
    refine goal_step (step_callE [] rfl rfl rfl rfl rfl rfl (congrArg (fun z => [T.one (C.int .i64 z)]) hw) (number_nat (n.natAbs + 1) n.natAbs (by omega) (by omega))) ?_
    rintro σ2 ⟨r, o', ⟨rfl, rfl⟩, hσ⟩
    obtain rfl := Option.some.inj hσ
    clear hσ
    refine rn rfl ?_
    refine goal_did rfl rfl (dA_concat ([45] ++ Lib.itoa ((n.natAbs : Nat) : Int)) rfl rfl rfl (by rw [itoa_nat]; simp; have := dec_short (n := n.natAbs) (by omega); omega) rfl rfl) ?_
    refine rn rfl ?_
    exact rn rfl (fin_is [] rfl ⟨rfl, rfl⟩)
  · have := number_nat (n.toNat + 1) n.toNat (by omega) (by omega)
    rw [show ((n.toNat : Nat) : Int) = n by omega] at this
    exact this

def stepD (n : Nat) (c : UInt8) : Option Nat := if (c.toNat : Int) < 48 then none else if (c.toNat : Int) > 57 then none else if (n : Int) > 9 then none else some (10 * n + (c.toNat - 48))

def foldD : Nat → Str → Option Nat
  | n, [] => some n
  | n, c :: l => (stepD n c).bind fun m => foldD m l

theorem foldD_nil (n : Nat) : foldD n [] = some n := rfl

theorem foldD_cons (n : Nat) (c : UInt8) (l : Str) : foldD n (c :: l) = (stepD n c).bind fun m => foldD m l := rfl

def sgnAt (s : Str) : Nat := match s with
  | [] => 0
  | c :: _ => if (c.toNat : Int) == 45 then 1 else 0

def sgQ (s : Str) (n : Nat) : Int := if sgnAt s = 1 then -(n : Int) else n

def RdS (s : Str) : Int × Bool := match foldD 0 (s.drop (sgnAt s)) with
  | none => (0, false)
  | some n => (sgQ s n, s == Lib.itoa (sgQ s n))

theorem stepD_le {n m : Nat} {c : UInt8} (h : stepD n c = some m) : m ≤ 99 := by
  unfold stepD at h
  split at h
  · cases h
  · split at h
    · cases h
    · split at h
      · cases h
      · cases h; omega

theorem sgnAt_le (s : Str) : sgnAt s ≤ s.length ∧ sgnAt s ≤ 1 := by
  cases s with
  | nil => simp [sgnAt]
  | cons c l => simp only [sgnAt, List.length_cons]; split <;> omega

theorem wrap8 {x : Int} (h1 : 0 ≤ x) (h2 : x < 256) : IntKind.u8.wrap x = x := by
  simp [IntKind.wrap, IntKind.signed, IntKind.bits]
  omega

theorem srd_ct (s : Str) (hl : s.length ≤ 1073741824) : ACalls pk 33 [.one (.str s)] [] (fun r o => r = .tup [.one (.int .i64 (RdS s).1), .one (.bool (RdS s).2)] ∧ o = []) := by
  obtain ⟨a1, a2⟩ := sgnAt_le s
  refine acalls_of_body Tryd.func33 rfl (by kernel_rfl) rfl ?_
  refine rt 2 rfl ?_
  refine goal_cutR (fun σ => σ = ⟨[(4, .one (.int .i64 (sgnAt s : Int))), (0, .one (.str s))], [], []⟩) ?_ ?_
  · refine rn rfl ?_
    cases s with
    | nil =>
      refine goal_guard rfl rfl rfl (fun h => by simp at h) (fun _ => ?_)
      refine rn rfl ?_
      exact cut_nrm [4, 0] [] rfl rfl
    | cons c l =>
      refine goal_guard rfl rfl rfl (fun _ => ?_) (fun h => by simp at h)
      refine rn rfl ?_
      refine goal_did rfl rfl (dA_strIndex c rfl rfl rfl rfl rfl rfl (by omega) rfl) ?_
      refine rn rfl ?_
      cases h : ((c.toNat : Int) == 45) with
      | true =>
        refine goal_cond rfl (fun _ => ?_) (fun h0 => by simp at h0)
        refine rn rfl ?_
        refine cut_nrm [4, 0] [] rfl ?_
        rw [show sgnAt (c :: l) = 1 by simp only [sgnAt, h]; rfl]; rfl
      | false =>
        refine goal_cond rfl (fun h0 => by simp at h0) (fun _ => ?_)
        refine rn rfl ?_
        refine cut_nrm [4, 0] [] rfl ?_
        rw [show sgnAt (c :: l) = 0 by simp only [sgnAt, h]; rfl]; rfl
  rintro _ rfl
  refine rn rfl ?_
  refine goal_loop_keep (fun m σ => ∃ (z q : Int) (i n : Nat), z = n ∧ q = i ∧ i ≤ s.length ∧ m = s.length - i ∧ n ≤ 99 ∧ foldD 0 (s.drop (sgnAt s)) = foldD n (s.drop i) ∧ σ = ⟨[(6, .one (.int .i64 q)), (5, .one (.int .i64 z)), (4, .one (.int .i64 (sgnAt s : Int))), (0, .one (.str s))], [], []⟩) (s.length - sgnAt s) [6, 5, 4, 0] [] rfl
    ⟨0, _, sgnAt s, 0, rfl, rfl, a1, rfl, by omega, rfl, rfl⟩ ?_
  rintro m σ ⟨z, q, i, n, rfl, rfl, hi, rfl, hn, hf, rfl⟩
  refine rn rfl ?_
  refine goal_cond rfl (fun h => ?_) (fun h => ?_) <;> (try simp only [gt_iff_lt, ge_iff_le, bne_iff_ne, ne_eq, bne_eq_false_iff_eq, beq_iff_eq, beq_eq_false_iff_ne, Bool.not_eq_true', Bool.not_eq_false', decide_eq_true_eq, decide_eq_false_iff_not, List.length_map] at h)
  · obtain ⟨c, hc⟩ := at_some (xs := s) (i := i) (by omega)
    rw [drop_at hc, foldD_cons] at hf
    refine rn rfl ?_
    refine goal_did rfl rfl (dA_strIndex c rfl rfl rfl rfl rfl rfl (by omega) (by simpa using hc)) ?_
    refine rn rfl ?_
    have dead : stepD n c = none → RdS s = (0, false) := fun h0 => by
      unfold RdS
      rw [hf, h0]; rfl
    refine goal_guard rfl rfl rfl (fun h1 => ?_) (fun h1 => ?_) <;> (try simp only [gt_iff_lt, ge_iff_le, bne_iff_ne, ne_eq, bne_eq_false_iff_eq, beq_iff_eq, beq_eq_false_iff_ne, Bool.not_eq_true', Bool.not_eq_false', decide_eq_true_eq, decide_eq_false_iff_not, List.length_map] at h1)
    · rw [dead (by unfold stepD; rw [if_pos h1])]
      refine rn rfl ?_
      refine round_ret ?_
      exact fin_is [] rfl ⟨rfl, rfl⟩
    · refine rn rfl ?_
      refine goal_did rfl rfl (dA_strIndex c rfl rfl rfl rfl rfl rfl (by omega) (by simpa using hc)) ?_
      refine rn rfl ?_
      refine goal_guard rfl rfl rfl (fun h2 => ?_) (fun h2 => ?_) <;> (try simp only [gt_iff_lt, ge_iff_le, bne_iff_ne, ne_eq, bne_eq_false_iff_eq, beq_iff_eq, beq_eq_false_iff_ne, Bool.not_eq_true', Bool.not_eq_false', decide_eq_true_eq, decide_eq_false_iff_not, List.length_map] at h2)
      · rw [dead (by unfold stepD; rw [if_neg h1, if_pos h2])]
        refine rn rfl ?_
        refine round_ret ?_
        exact fin_is [] rfl ⟨rfl, rfl⟩
      · refine rn rfl ?_
        refine goal_cond rfl (fun h3 => ?_) (fun h3 => ?_) <;> (try simp only [gt_iff_lt, ge_iff_le, bne_iff_ne, ne_eq, bne_eq_false_iff_eq, beq_iff_eq, beq_eq_false_iff_ne, Bool.not_eq_true', Bool.not_eq_false', decide_eq_true_eq, decide_eq_false_iff_not, List.length_map] at h3)
        · rw [dead (by unfold stepD; rw [if_neg h1, if_neg h2, if_pos h3])]
          refine rn rfl ?_
          refine round_ret ?_
          exact fin_is [] rfl ⟨rfl, rfl⟩
        · have hst : stepD n c = some (10 * n + (c.toNat - 48)) := by unfold stepD; rw [if_neg h1, if_neg h2, if_neg h3]
          rw [hst] at hf
          refine rn rfl ?_
          refine goal_did rfl rfl (dA_strIndex c rfl rfl rfl rfl rfl rfl (by omega) (by simpa using hc)) ?_
          refine rn rfl ?_
          refine round_keep (s.length - (i + 1)) [6, 5, 4, 0] [] (by omega) rfl ⟨_, _, i + 1, 10 * n + (c.toNat - 48), ?_, wrap64 (by omega) (by omega), by omega, rfl, stepD_le hst, hf, rfl⟩
          rw [wrap8 (by omega) (by omega), wrap64 (n := (c.toNat : Int) - 48) (by omega) (by omega), wrap64 (n := 10 * (n : Int)) (by omega) (by omega), wrap64 (by omega) (by omega)]
          omega
  · rw [show i = s.length by omega, List.drop_length, foldD_nil] at hf
    have e : RdS s = (sgQ s n, s == Lib.itoa (sgQ s n)) := by unfold RdS; rw [hf]
    rw [e]
    refine rn rfl ?_
    refine round_ext ?_
    refine rn rfl ?_
    cases h5 : ((sgnAt s : Int) == 1) with
    | true =>
      have hs : sgQ s n = -(n : Int) := by unfold sgQ; rw [if_pos (by have := beq_iff_eq.1 h5; omega)]
      rw [hs]
      refine goal_cond rfl (fun _ => ?_) (fun h0 => by simp at h0)
      refine rn rfl ?_
      have hw : IntKind.i64.wrap (0 - (n : Int)) = -(n : Int) := by rw [wrap64 (by omega) (by omega)]; omega
      rw [hw]
      refine goal_step (step_call [] rfl rfl rfl rfl rfl rfl (number_ct (-(n : Int)) (by omega) (by omega))) ?_
      rintro σ2 ⟨r, o', ⟨rfl, rfl⟩, hσ⟩
      obtain rfl := Option.some.inj hσ
      clear hσ
      refine rn rfl ?_
      exact rn rfl (fin_is [] rfl ⟨rfl, rfl⟩)
    | false =>
      have hs : sgQ s n = (n : Int) := by unfold sgQ; rw [if_neg (by have := beq_eq_false_iff_ne.1 h5; omega)]
      rw [hs]
      refine goal_cond rfl (fun h0 => by simp at h0) (fun _ => ?_)
      refine rn rfl ?_
      refine goal_step (step_call [] rfl rfl rfl rfl rfl rfl (number_ct (n : Int) (by omega) (by omega))) ?_
      rintro σ2 ⟨r, o', ⟨rfl, rfl⟩, hσ⟩
      obtain rfl := Option.some.inj hσ
      clear hσ
      refine rn rfl ?_
      exact rn rfl (fin_is [] rfl ⟨rfl, rfl⟩)

section

variable {X : Pk} {N np : Nat} {σ : State}

/-- 'err == nil'. -/
theorem dA_errNil {o : Oper} {t ty : TypeId} {x : Operand} {ok : Bool} {M : Nat} (ho : o.op = .binOp .eql t x (.const .nilIface) ty) (hu : X.P.underlying t = some (.interface (X.P.methodsAt t))) (hx : evalO σ x = .one (errC ok M)) (hd : dstB N o.dst = true) :
    DidA X N np o (.q none) σ (putS o.dst (.one (.bool ok)) σ) := fun {G D e a w} H => by
  have hxv := hx ▸ H.ev x
  refine Did.pure H (v := .bool ok) (fun w _ => ?_) (by simp only [TR, CR]) (putS_eq hd)
  have hn : a.eval (.const .nilIface) = .nilIface := rfl
  cases ok with
  | true =>
    simp only [errC, if_true, TR, CR] at hxv
    simp [execOp, ho, hxv.1, hn, eqGuard, run_eql_nil_nil w t hu]
  | false =>
    simp only [errC, Bool.false_eq_true, if_false, TR, CR] at hxv
    simp [execOp, ho, hxv.1, hn, eqGuard, run_eql_held_nil w t _ _ hu]

end

theorem atoi_digit {n : Nat} (h : n ≤ 8) : Lib.atoiAll (Lib.itoa (n : Int)) = .ok (n : Int) := by
  rw [itoa_nat, Lib.decDigits_one (by omega)]
  have : n = 0 ∨ n = 1 ∨ n = 2 ∨ n = 3 ∨ n = 4 ∨ n = 5 ∨ n = 6 ∨ n = 7 ∨ n = 8 := by omega
  rcases this with rfl | rfl | rfl | rfl | rfl | rfl | rfl | rfl | rfl <;> rfl

def RdI (s : Str) (r : T) : Prop := ∃ (n : Int) (ok : Bool), r = .tup [.one (.int .i64 n), .one (.bool ok)] ∧ (ok = true → s = Lib.itoa n) ∧ (∀ m, Lib.atoiAll s = .ok m → Lib.itoa m = s → ok = true ∧ n = m) ∧ -9223372036854775808 ≤ n ∧ n ≤ 9223372036854775807

theorem ird_ct (s : Str) (hl : s.length ≤ 1073741824) : ACalls pk 36 [.one (.str s)] [] (fun r o => RdI s r ∧ o = []) := by
  refine acalls_of_body Tryd.func36 rfl (by kernel_rfl) rfl ?_
  refine rn rfl ?_
  refine goal_step (step_call [] rfl rfl rfl rfl rfl rfl (atoi_ct s hl)) ?_
  rintro σ2 ⟨r, o', ⟨⟨n, ok, M, rfl, h1, h2, h3, h4⟩, rfl⟩, hσ⟩
  obtain rfl := Option.some.inj hσ
  clear hσ
  cases ok with
  | false =>
    refine rn rfl ?_
    refine goal_did rfl rfl (dA_errNil (ok := false) (M := M) rfl (by kernel_rfl) rfl rfl) ?_
    refine rn rfl ?_
    refine goal_guard rfl rfl rfl (fun h => by cases h) (fun _ => ?_)
    refine rn rfl (fin_is [] rfl ⟨⟨n, false, rfl, (fun h => by cases h), fun m hm _ => ?_, h3, h4⟩, rfl⟩)
    have := h2 m hm
    cases this
  | true =>
    refine rn rfl ?_
    refine goal_did rfl rfl (dA_errNil (ok := true) (M := M) rfl (by kernel_rfl) rfl rfl) ?_
    refine rn rfl ?_
    refine goal_guard rfl rfl rfl (fun _ => ?_) (fun h => by cases h)
    refine rn rfl ?_
    refine goal_step (step_call [] rfl rfl rfl rfl rfl rfl (itoa_ct n h3 h4)) ?_
    rintro σ2 ⟨r, o', ⟨rfl, rfl⟩, hσ⟩
    obtain rfl := Option.some.inj hσ
    clear hσ
    refine rn rfl ?_
    refine rn rfl (fin_is [] rfl ⟨⟨n, Lib.itoa n == s, rfl, (fun h => (beq_iff_eq.1 h).symm), fun m hm he => ?_, h3, h4⟩, rfl⟩)
    have := h1 rfl
    rw [hm] at this
    cases this
    exact ⟨beq_iff_eq.2 he, rfl⟩

def cutF (c : UInt8) : Str → Str → List Str
  | cur, [] => [cur]
  | cur, x :: l => if x = c then cur :: cutF c [] l else cutF c (cur ++ [x]) l

def cutC (c : UInt8) (s : Str) : List Str := cutF c [] s

theorem cutF_nil (c : UInt8) (cur : Str) : cutF c cur [] = [cur] := rfl

theorem cutF_eq (c : UInt8) (cur l : Str) : cutF c cur (c :: l) = cur :: cutF c [] l := by rw [cutF, if_pos rfl]

theorem cutF_ne {c x : UInt8} (h : x ≠ c) (cur l : Str) : cutF c cur (x :: l) = cutF c (cur ++ [x]) l := by rw [cutF, if_neg h]

def hdApp (a : Str) : List Str → List Str
  | [] => []
  | h :: t => (a ++ h) :: t

theorem cutF_hd (c : UInt8) : ∀ (l cur : Str), cutF c cur l = hdApp cur (cutF c [] l) := by
  intro l
  induction l with
  | nil => intro cur; simp [cutF_nil, hdApp]
  | cons x l ih =>
    intro cur
    by_cases h : x = c
    · subst h; rw [cutF_eq, cutF_eq]; simp [hdApp]
    · rw [cutF_ne h, cutF_ne h, ih (cur ++ [x]), ih ([] ++ [x])]
      cases cutF c [] l with
      | nil => rfl
      | cons a t => simp [hdApp]

theorem split_cut (c : UInt8) : ∀ s : Str, Lib.split s [c] = cutC c s := by
  intro s
  induction s with
  | nil =>
    have : Lib.count [] [c] = 0 := by rw [Lib.count_one]; rfl
    unfold Lib.split cutC
    rw [this]; rfl
  | cons b l ih =>
    unfold Lib.split at ih ⊢
    unfold cutC at ih ⊢
    by_cases h : b = c
    · subst h
      rw [Lib.count_cons_eq, Nat.add_comm, Lib.splitK, cutF_eq, ← ih]
      have hi : Lib.index (b :: l) [b] = 0 := by rw [Lib.index]; simp [List.isPrefixOf]
      rw [hi]; simp
    · have hp : ([c] : List UInt8).isPrefixOf (b :: l) = false := by simp [List.isPrefixOf, Ne.symm h]
      have hix : Lib.index (b :: l) [c] = if Lib.index l [c] == -1 then -1 else Lib.index l [c] + 1 := by rw [Lib.index, hp]; simp
      rw [Lib.count_cons_ne b c l h, cutF_ne h, cutF_hd, ← ih]
      cases hk : Lib.count l [c] with
      | zero => rfl
      | succ k =>
        have hne : ¬ Lib.index l [c] = -1 := fun h0 => by rw [Lib.count_miss h0] at hk; cases hk
        have hge := Lib.index_ge l [c]
        have hb : (Lib.index l [c] == -1) = false := by simpa using hne
        rw [Lib.splitK, Lib.splitK, hix, hb]
        simp only [Bool.false_eq_true, if_false]
        have h2 : ¬ ((Lib.index l [c] + 1 == -1) = true) := by simp; omega
        rw [if_neg h2]
        simp only [hdApp]
        have h3 : (Lib.index l [c] + 1).toNat = (Lib.index l [c]).toNat + 1 := by omega
        rw [h3]
        simp [Nat.add_right_comm]

theorem cutF_ne_nil (c : UInt8) (l cur : Str) : cutF c cur l ≠ [] := by
  induction l generalizing cur with
  | nil => simp [cutF_nil]
  | cons x l ih =>
    by_cases h : x = c
    · subst h; rw [cutF_eq]; simp
    · rw [cutF_ne h]; exact ih _

theorem join_cut (c : UInt8) : ∀ (l cur : Str), Lib.join (cutF c cur l) [c] = cur ++ l := by
  intro l
  induction l with
  | nil => intro cur; rw [cutF_nil, Lib.join_one]; simp
  | cons x l ih =>
    intro cur
    by_cases h : x = c
    · subst h
      rw [cutF_eq, Lib.join_cons]
      have hne := cutF_ne_nil x l []
      have := ih []
      cases hc : cutF x [] l with
      | nil => exact absurd hc hne
      | cons a t =>
        rw [hc, Lib.join_cons] at this
        simp only [Lib.joinTail, List.map_cons, List.flatten_cons] at this ⊢
        rw [List.append_assoc, this]; simp
    · rw [cutF_ne h, ih]; simp

theorem cutF_len (c : UInt8) : ∀ (l cur : Str), (cutF c cur l).length ≤ l.length + 1 ∧ ∀ p ∈ cutF c cur l, p.length ≤ cur.length + l.length := by
  intro l
  induction l with
  | nil => intro cur; rw [cutF_nil]; simp
  | cons x l ih =>
    intro cur
    by_cases h : x = c
    · subst h
      rw [cutF_eq]
      obtain ⟨i1, i2⟩ := ih []
      refine ⟨by simp only [List.length_cons]; omega, fun p hp => ?_⟩
      rcases List.mem_cons.1 hp with rfl | hp
      · omega
      · have := i2 p hp; simp only [List.length_nil, List.length_cons] at *; omega
    · rw [cutF_ne h]
      obtain ⟨i1, i2⟩ := ih (cur ++ [x])
      refine ⟨by simp only [List.length_cons]; omega, fun p hp => ?_⟩
      have := i2 p hp; simp at this ⊢; omega

theorem takeAll {α : Type} (enc : α → List C) (xs : List α) (n : Nat) (h : xs.length = n) : List.take n (List.drop 0 (xs.map enc)) = xs.map enc := by
  subst h; simp [List.take_of_length_le]

structure OkF (f : Flat) : Prop where
  pairs : ∀ p ∈ f.named, okPair p = true
  nodup : (namesOf f.named).Nodup
  vals : ∀ n ∈ f.places, okVal n = true
  places : f.places.length ≤ 8
  named : f.named.length ≤ 8

theorem okFlat_iff {f : Flat} : okFlat f = true ↔ OkF f := by
  simp only [okFlat, Bool.and_eq_true, List.all_eq_true, decide_eq_true_eq]
  exact ⟨fun ⟨⟨⟨⟨a, b⟩, c⟩, d⟩, e⟩ => ⟨a, b, c, d, e⟩, fun ⟨a, b, c, d, e⟩ => ⟨⟨⟨⟨a, b⟩, c⟩, d⟩, e⟩⟩

structure Param where
  name : Str
  kind : Int
  hasD : Bool
  dflt : Int
deriving DecidableEq

abbrev Sig := List Param

theorem eS_len (p : Str) : (eS p).length = 1 := rfl

theorem eS_noOwn (p : Str) : noOwnL (eS p) = true := rfl

def ownS (xs : List Str) : Option AObj := some ⟨1, xs.map eS, true, false, false⟩

def placedQ (p : Param) : Bool := p.kind == 0 || p.kind == 1

def namedQ (p : Param) : Bool := p.kind == 1 || p.kind == 3

def singleQ (p : Param) : Bool := placedQ p || p.kind == 3

def qIs (n : Str) (p : Param) : Bool := p.name == n

def kIs (k : Int) (p : Param) : Bool := p.kind == k

def okQ (p : Param) : Bool := okName p.name && inR p.kind 0 4 && okVal p.dflt && (p.hasD || p.dflt == 0) && (singleQ p || !p.hasD)

def nextQ (l p : Param) : Bool := decide (l.kind ≤ p.kind) && (p.kind != l.kind || singleQ p) && (!placedQ p || !l.hasD || p.hasD)

def stepQ (pre : Sig) (p : Param) : Bool := okQ p && !pre.any (qIs p.name) && (match pre.getLast? with
  | none => true
  | some l => nextQ l p)

def okQs : Sig → Sig → Bool
  | _, [] => true
  | pre, p :: r => stepQ pre p && okQs (pre ++ [p]) r

def okSig (s : Sig) : Bool := okQs [] s && decide (s.length ≤ 8)

theorem take_snoc {α : Type} {xs : List α} {i : Nat} {x : α} (h : xs[i]? = some x) : xs.take i ++ [x] = xs.take (i + 1) := by
  rw [List.take_add_one, h]; rfl

theorem last_take {α : Type} {xs : List α} {i : Nat} {x : α} (h : xs[i]? = some x) : (xs.take (i + 1)).getLast? = some x := by
  rw [← take_snoc h]; simp

def takesQ (s : Sig) (n : Str) : Int := if (match s.find? (qIs n) with
  | some p => namedQ p
  | none => false) then idxI (qIs n) s 0 else idxI (kIs 4) s 0

theorem idxI_find {α : Type} {pred : α → Bool} {xs : List α} (h : 0 ≤ idxI pred xs 0) : ∃ x, xs.find? pred = some x ∧ xs[(idxI pred xs 0).toNat]? = some x ∧ pred x = true ∧ idxI pred xs 0 < xs.length := by
  have ha := idxI_ge.1 h
  have hs := idxI_some (i := 0) ha
  have hlt : xs.findIdx pred < xs.length := by
    rw [List.findIdx_lt_length]; simpa using ha
  refine ⟨xs[xs.findIdx pred], ?_, ?_, List.findIdx_getElem, ?_⟩
  · rw [List.find?_eq_some_iff_getElem]
    refine ⟨List.findIdx_getElem, xs.findIdx pred, hlt, rfl, fun j hj => ?_⟩
    have := List.not_of_lt_findIdx hj
    simpa using this
  · rw [hs]; simp [hlt]
  · rw [hs]; omega

def placesQ (s : Sig) : Nat := s.countP placedQ

theorem cloneS_ct (xs : List Str) (hl : xs.length ≤ 16777216) :
    ACalls pk 68 [.one (.fs (xs.map eS))] [] (fun r o => r = .one (.os 0 0 xs.length xs.length) ∧ o = [ownS xs]) := by
  refine acalls_of_body Tryd.func68 rfl (by kernel_rfl) rfl ?_
  refine rn rfl ?_
  refine goal_step (step_eqNil rfl rfl (Src.fs rfl) rfl rfl rfl rfl) ?_
  rintro σ2 ⟨b, hb, rfl⟩
  refine rn rfl ?_
  refine goal_cond rfl (fun h => ?_) (fun h => ?_)
  · have hx : xs = [] := by simpa using hb h
    subst hx
    exact rn rfl (fin_adopt 2 0 1 [0] rfl ⟨rfl, rfl⟩)
  · refine rn rfl ?_
    refine goal_did rfl rfl (dA_append (xs.map eS) xs.length true (Dst.own rfl rfl rfl rfl rfl (Nat.le_refl 0) rfl) (Src.fs rfl) rfl rfl rfl rfl rfl rfl rfl rfl (by simp) (rows_len eS_len _) (by simp only [List.length_map, List.take_zero, List.length_nil]; show _ * 16 ≤ _; omega) (by simp; omega) rfl (by simp) (fun _ => noOwnR_map _ eS_noOwn _)) ?_
    exact rn rfl (fin_is [1] rfl ⟨rfl, rfl⟩)

theorem clipS_ct (xs : List Str) (kc : Nat) (hk : xs.length ≤ kc) :
    ACalls pk 67 [.one (.os 0 0 xs.length kc)] [ownS xs] (fun r o => r = .one (.os 0 0 xs.length xs.length) ∧ o = [ownS xs]) := by
  refine acalls_of_body Tryd.func67 rfl (by kernel_rfl) rfl ?_
  refine rn rfl ?_
  refine goal_did rfl rfl (dA_sliceOwn 0 xs.length xs.length 0 xs.length xs.length rfl rfl rfl rfl rfl rfl rfl Bnd.none_ (Bnd.some_ rfl rfl) (.inr ⟨by simp, by simp, Bnd.some_ rfl rfl⟩) (by omega) (by omega) hk (by simp) rfl rfl rfl rfl) ?_
  exact rn rfl (fin_is [] rfl ⟨rfl, rfl⟩)

theorem okQs_all : ∀ (r pre : Sig), okQs pre r = true → ∀ (i : Nat) (p : Param), r[i]? = some p → stepQ (pre ++ r.take i) p = true
  | [], pre, _, i, p, hp => by simp at hp
  | q :: r, pre, h, 0, p, hp => by simp at hp; subst hp; simp only [okQs, Bool.and_eq_true] at h; simpa using h.1
  | q :: r, pre, h, i + 1, p, hp => by
    simp only [okQs, Bool.and_eq_true] at h
    have := okQs_all r (pre ++ [q]) h.2 i p (by simpa using hp)
    simpa using this

theorem okQs_of_all : ∀ (r pre : Sig), (∀ (i : Nat) (p : Param), r[i]? = some p → stepQ (pre ++ r.take i) p = true) → okQs pre r = true
  | [], pre, _ => rfl
  | q :: r, pre, h => by
    simp only [okQs, Bool.and_eq_true]
    refine ⟨by simpa using h 0 q rfl, okQs_of_all r (pre ++ [q]) fun i p hp => ?_⟩
    have := h (i + 1) p (by simpa using hp)
    simpa using this

structure OkS (s : Sig) : Prop where
  params : ∀ p ∈ s, okQ p = true
  nodup : (s.map Param.name).Nodup
  next : ∀ (i : Nat) (l p : Param), s[i]? = some l → s[i + 1]? = some p → nextQ l p = true
  len : s.length ≤ 8

theorem okSig_iff {s : Sig} : okSig s = true ↔ OkS s := by
  simp only [okSig, Bool.and_eq_true, decide_eq_true_eq]
  constructor
  · rintro ⟨h, hl⟩
    have hall := okQs_all s [] h
    simp only [List.nil_append] at hall
    refine ⟨fun p hp => ?_, ?_, fun i l p hl hp => ?_, hl⟩
    · obtain ⟨i, hi⟩ := List.getElem?_of_mem hp
      have := hall i p hi
      simp only [stepQ, Bool.and_eq_true] at this
      exact this.1.1
    · rw [List.nodup_iff_pairwise_ne, List.pairwise_iff_getElem]
      intro i j hi hj hij he
      simp only [List.length_map] at hi hj
      have := hall j s[j] (List.getElem?_eq_getElem hj)
      simp only [stepQ, Bool.and_eq_true, Bool.not_eq_true'] at this
      have h2 := this.1.2
      rw [List.any_eq_false] at h2
      refine h2 s[i] ?_ ?_
      · rw [List.mem_iff_getElem?]; exact ⟨i, by rw [List.getElem?_take, if_pos hij]; exact List.getElem?_eq_getElem hi⟩
      · simpa [qIs] using he
    · have := hall (i + 1) p hp
      simp only [stepQ, last_take hl, Bool.and_eq_true] at this
      exact this.2
  · intro h
    refine ⟨okQs_of_all s [] fun i p hp => ?_, h.len⟩
    simp only [List.nil_append, stepQ, Bool.and_eq_true, Bool.not_eq_true']
    refine ⟨⟨h.params p (List.mem_of_getElem? hp), ?_⟩, ?_⟩
    · rw [List.any_eq_false]
      intro q hq hqn
      obtain ⟨j, hj⟩ := List.getElem?_of_mem hq
      rw [List.getElem?_take] at hj
      split at hj
      · rename_i hji
        have hn := h.nodup
        rw [List.nodup_iff_pairwise_ne, List.pairwise_iff_getElem] at hn
        have hil := lt_of_some hp
        have hjl := lt_of_some hj
        refine hn j i (by simpa using hjl) (by simpa using hil) hji ?_
        rw [List.getElem?_eq_getElem hil] at hp
        rw [List.getElem?_eq_getElem hjl] at hj
        simp only [Option.some.injEq] at hp hj
        simp only [List.getElem_map, hp, hj]
        simpa [qIs] using hqn
      · cases hj
    · split
      · rfl
      · rename_i l hl
        cases i with
        | zero => simp at hl
        | succ i =>
          obtain ⟨l', hl'⟩ := at_some (xs := s) (i := i) (by have := lt_of_some hp; omega)
          rw [last_take hl'] at hl
          cases hl
          exact h.next i _ p hl' hp

theorem nextQ_kind {l p : Param} (h : nextQ l p = true) : l.kind ≤ p.kind ∧ (singleQ p = false → l.kind < p.kind) ∧ (placedQ p = true → l.hasD = true → p.hasD = true) := by
  simp only [nextQ, Bool.and_eq_true, decide_eq_true_eq, Bool.or_eq_true, bne_iff_ne, ne_eq, Bool.not_eq_true'] at h
  refine ⟨h.1.1, fun hs => ?_, fun h1 h2 => ?_⟩
  · rcases h.1.2 with h3 | h3
    · omega
    · rw [hs] at h3; cases h3
  · rcases h.2 with (h3 | h3) | h3
    · rw [h1] at h3; cases h3
    · rw [h2] at h3; cases h3
    · exact h3

theorem OkS.sorted {s : Sig} (h : OkS s) : ∀ (d i : Nat) (l p : Param), s[i]? = some l → s[i + d]? = some p → l.kind ≤ p.kind
  | 0, i, l, p, hl, hp => by rw [Nat.add_zero, hl] at hp; cases hp; exact Int.le_refl _
  | d + 1, i, l, p, hl, hp => by
    obtain ⟨q, hq⟩ := at_some (xs := s) (i := i + d) (by have := lt_of_some hp; omega)
    have h1 := OkS.sorted h d i l q hl hq
    have h2 := (nextQ_kind (h.next (i + d) q p hq hp)).1
    omega

theorem OkS.sortedLt {s : Sig} (h : OkS s) {i j : Nat} {l p : Param} (hij : i < j) (hl : s[i]? = some l) (hp : s[j]? = some p) (hs : singleQ p = false) : l.kind < p.kind := by
  obtain ⟨q, hq⟩ := at_some (xs := s) (i := j - 1) (by have := lt_of_some hp; omega)
  have h1 := h.sorted (j - 1 - i) i l q hl (by rw [show i + (j - 1 - i) = j - 1 by omega]; exact hq)
  have h2 := (nextQ_kind (h.next (j - 1) q p hq (by rw [show j - 1 + 1 = j by omega]; exact hp))).2.1 hs
  omega

theorem OkS.kindRange {s : Sig} (h : OkS s) {p : Param} (hp : p ∈ s) : 0 ≤ p.kind ∧ p.kind ≤ 4 := by
  have := h.params p hp
  simp only [okQ, inR, Bool.and_eq_true, decide_eq_true_eq] at this
  exact this.1.1.1.2

theorem OkS.nameLen {s : Sig} (h : OkS s) {p : Param} (hp : p ∈ s) : p.name.length ≤ 6 ∧ 1 ≤ p.name.length := by
  have := h.params p hp
  simp only [okQ, okName, inR, Bool.and_eq_true, decide_eq_true_eq] at this
  omega

theorem single_kind {p : Param} : singleQ p = true ↔ p.kind = 0 ∨ p.kind = 1 ∨ p.kind = 3 := by
  simp only [singleQ, placedQ, Bool.or_eq_true, beq_iff_eq]; omega

theorem placed_kind {p : Param} : placedQ p = true ↔ p.kind = 0 ∨ p.kind = 1 := by
  simp only [placedQ, Bool.or_eq_true, beq_iff_eq]

theorem named_kind {p : Param} : namedQ p = true ↔ p.kind = 1 ∨ p.kind = 3 := by
  simp only [namedQ, Bool.or_eq_true, beq_iff_eq]

/-- Of the kinds of which there is one parameter at most. -/
theorem OkS.one {s : Sig} (h : OkS s) {i j : Nat} {l p : Param} (hl : s[i]? = some l) (hp : s[j]? = some p) (hk : l.kind = p.kind) (hs : singleQ p = false) : i = j := by
  have hs' : singleQ l = false := by
    cases hx : singleQ l with
    | false => rfl
    | true => rw [single_kind, hk, ← single_kind, hs] at hx; cases hx
  rcases Nat.lt_trichotomy i j with h1 | h1 | h1
  · have := h.sortedLt h1 hl hp hs; omega
  · exact h1
  · have := h.sortedLt h1 hp hl hs'; omega

theorem countP_all {α : Type} {p : α → Bool} : ∀ {xs : List α}, (∀ x ∈ xs, p x = true) → xs.countP p = xs.length
  | [], _ => rfl
  | x :: xs, h => by rw [List.countP_cons_of_pos (h x (by simp)), countP_all (fun y hy => h y (by simp [hy]))]; rfl

theorem countP_none {α : Type} {p : α → Bool} : ∀ {xs : List α}, (∀ x ∈ xs, p x = false) → xs.countP p = 0
  | [], _ => rfl
  | x :: xs, h => by rw [List.countP_cons_of_neg (by rw [h x (by simp)]; simp), countP_none (fun y hy => h y (by simp [hy]))]

/-- The parameters that are found by their place come first. -/
theorem OkS.placed_iff {s : Sig} (h : OkS s) {i : Nat} {p : Param} (hp : s[i]? = some p) : placedQ p = true ↔ i < placesQ s := by
  have hsp := List.take_append_drop (i + 1) s
  have hspi := List.take_append_drop i s
  constructor
  · intro hpp
    have h1 : (s.take (i + 1)).countP placedQ = i + 1 := by
      rw [countP_all]
      · simp; have := lt_of_some hp; omega
      · intro q hq
        obtain ⟨j, hj⟩ := List.getElem?_of_mem hq
        rw [List.getElem?_take] at hj
        split at hj
        · have hk := h.sorted (i - j) j q p hj (by rw [show j + (i - j) = i by omega]; exact hp)
          have hr := h.kindRange (List.mem_of_getElem? hj)
          rw [placed_kind] at hpp ⊢
          omega
        · cases hj
    have h2 : placesQ s = (s.take (i + 1)).countP placedQ + (s.drop (i + 1)).countP placedQ := by
      unfold placesQ; rw [← List.countP_append, hsp]
    omega
  · intro hlt
    cases hpp : placedQ p with
    | true => rfl
    | false =>
      exfalso
      have h1 : (s.drop i).countP placedQ = 0 := by
        refine countP_none fun q hq => ?_
        obtain ⟨j, hj⟩ := List.getElem?_of_mem hq
        rw [List.getElem?_drop] at hj
        have hk := h.sorted j i p q hp hj
        have hr := h.kindRange (List.mem_of_getElem? hp)
        cases hqq : placedQ q with
        | false => rfl
        | true =>
          rw [placed_kind] at hqq
          have : placedQ p = true := placed_kind.2 (by omega)
          rw [hpp] at this; cases this
      have h2 : placesQ s = (s.take i).countP placedQ + (s.drop i).countP placedQ := by
        unfold placesQ; rw [← List.countP_append, hspi]
      have h3 := List.countP_le_length (p := placedQ) (l := s.take i)
      rw [List.length_take] at h3
      omega

theorem placesQ_le (s : Sig) : placesQ s ≤ s.length := List.countP_le_length

structure Slot where
  given : Bool
  list : List Int
  pairs : List Pair
deriving DecidableEq

def zL : Slot := ⟨false, [], []⟩

abbrev Bnds := List Slot

structure Problem where
  kind : Int
  name : Str
deriving DecidableEq

/-- What the places give to parameter number 'i'. -/
def place1 (np : Nat) (pl : List Int) (i : Nat) (p : Param) : Slot :=
  if placedQ p && decide (i < pl.length) then ⟨true, [pl.getD i 0], []⟩ else if p.kind == 2 then ⟨false, pl.drop np, []⟩ else zL

def phase1 (s : Sig) (pl : List Int) : Bnds := s.mapIdx (place1 (placesQ s) pl)

def manyQ (s : Sig) (pl : List Int) : List Problem := if decide (placesQ s < pl.length) && !s.any (kIs 2) then [⟨0, []⟩] else []

/-- What a name gives. -/
def stepB (s : Sig) (st : Bnds × List Problem) (q : Pair) : Bnds × List Problem :=
  if takesQ s q.name < 0 then (st.1, st.2 ++ [⟨1, q.name⟩]) else
  match s[(takesQ s q.name).toNat]?, st.1[(takesQ s q.name).toNat]? with
  | some p, some x => if p.kind = 4 then (st.1.set (takesQ s q.name).toNat ⟨x.given, x.list, x.pairs ++ [q]⟩, st.2) else
      if x.given then (st.1, st.2 ++ [⟨2, q.name⟩]) else (st.1.set (takesQ s q.name).toNat ⟨true, [q.value], []⟩, st.2)
  | _, _ => st

def boundQ (s : Sig) (f : Flat) : Bnds × List Problem := f.named.foldl (stepB s) (phase1 s f.places, manyQ s f.places)

def lackQ (px : Param × Slot) : Option Problem := if singleQ px.1 && !px.1.hasD && !px.2.given then some ⟨3, px.1.name⟩ else none

def missingQ (s : Sig) (b : Bnds) : List Problem := (s.zip b).filterMap lackQ

def bindQ (s : Sig) (f : Flat) : Bnds × List Problem := ((boundQ s f).1, (boundQ s f).2 ++ missingQ s (boundQ s f).1)

theorem phase1_len (s : Sig) (pl : List Int) : (phase1 s pl).length = s.length := by simp [phase1]

theorem stepB_len (s : Sig) (st : Bnds × List Problem) (q : Pair) : (stepB s st q).1.length = st.1.length := by
  unfold stepB
  split
  · rfl
  · split
    · split
      · simp
      · split <;> simp
    · rfl

theorem foldB_len (s : Sig) : ∀ (qs : List Pair) (st : Bnds × List Problem), (qs.foldl (stepB s) st).1.length = st.1.length
  | [], st => rfl
  | q :: qs, st => by rw [List.foldl_cons, foldB_len s qs, stepB_len]

theorem boundQ_len (s : Sig) (f : Flat) : (boundQ s f).1.length = s.length := by rw [boundQ, foldB_len, phase1_len]

variable {N np : Nat} {σ : State}

theorem single_four {p : Param} (h : p.kind = 4) : singleQ p = false := by
  cases hz : singleQ p with
  | false => rfl
  | true => rw [single_kind] at hz; omega

theorem takesQ_some {s : Sig} {n : Str} (h : ¬ takesQ s n < 0) : ∃ p, s[(takesQ s n).toNat]? = some p ∧ takesQ s n < s.length ∧ ((namedQ p = true ∧ p.name = n) ∨ p.kind = 4) := by
  have four : takesQ s n = idxI (kIs 4) s 0 → ∃ p, s[(takesQ s n).toNat]? = some p ∧ takesQ s n < s.length ∧ ((namedQ p = true ∧ p.name = n) ∨ p.kind = 4) := fun ht => by
    rw [ht] at h ⊢
    obtain ⟨p, hf, hp, hq, hlt⟩ := idxI_find (show 0 ≤ idxI (kIs 4) s 0 by omega)
    exact ⟨p, hp, hlt, .inr (by simpa [kIs] using hq)⟩
  cases hf : s.find? (qIs n) with
  | none => exact four (by simp [takesQ, hf])
  | some q =>
    cases hn : namedQ q with
    | false => exact four (by simp [takesQ, hf, hn])
    | true =>
      have ht : takesQ s n = idxI (qIs n) s 0 := by simp [takesQ, hf, hn]
      rw [ht] at h ⊢
      obtain ⟨p, hf', hp, hq, hlt⟩ := idxI_find (show 0 ≤ idxI (qIs n) s 0 by omega)
      rw [hf] at hf'
      cases hf'
      exact ⟨_, hp, hlt, .inl ⟨hn, by simpa [qIs] using hq⟩⟩

theorem stepB_neg {s : Sig} {st : Bnds × List Problem} {q : Pair} (h : takesQ s q.name < 0) : stepB s st q = (st.1, st.2 ++ [⟨1, q.name⟩]) := by simp [stepB, h]

theorem stepB_map {s : Sig} {st : Bnds × List Problem} {q : Pair} {i : Nat} {p : Param} {x : Slot} (h : takesQ s q.name = (i : Nat)) (hp : s[i]? = some p) (hx : st.1[i]? = some x) (hk : p.kind = 4) : stepB s st q = (st.1.set i ⟨x.given, x.list, x.pairs ++ [q]⟩, st.2) := by
  simp [stepB, h, hp, hx, hk]

theorem stepB_twice {s : Sig} {st : Bnds × List Problem} {q : Pair} {i : Nat} {p : Param} {x : Slot} (h : takesQ s q.name = (i : Nat)) (hp : s[i]? = some p) (hx : st.1[i]? = some x) (hk : p.kind ≠ 4) (hg : x.given = true) : stepB s st q = (st.1, st.2 ++ [⟨2, q.name⟩]) := by
  simp [stepB, h, hp, hx, hk, hg]

theorem stepB_set {s : Sig} {st : Bnds × List Problem} {q : Pair} {i : Nat} {p : Param} {x : Slot} (h : takesQ s q.name = (i : Nat)) (hp : s[i]? = some p) (hx : st.1[i]? = some x) (hk : p.kind ≠ 4) (hg : x.given = false) : stepB s st q = (st.1.set i ⟨true, [q.value], []⟩, st.2) := by
  simp [stepB, h, hp, hx, hk, hg]

/-- What the map has got. -/
def MapHas (s : Sig) (b : Bnds) (ps : List Pair) : Prop := ∀ (i : Nat) (p : Param) (x : Slot), s[i]? = some p → b[i]? = some x → p.kind = 4 → x.pairs = ps

theorem MapHas.set {s : Sig} {b : Bnds} {ps : List Pair} (h : MapHas s b ps) {i : Nat} {p : Param} {y : Slot} (hp : s[i]? = some p) (hk : p.kind ≠ 4) : MapHas s (b.set i y) ps := by
  intro j q x hq hx hqk
  rw [List.getElem?_set] at hx
  by_cases hij : i = j
  · subst hij; rw [hp] at hq; cases hq; exact absurd hqk hk
  · rw [if_neg hij] at hx; exact h j q x hq hx hqk

theorem MapHas.put {s : Sig} (hs : OkS s) {b : Bnds} {ps : List Pair} {i : Nat} {p : Param} {y : Slot} (hp : s[i]? = some p) (hk : p.kind = 4) (hy : y.pairs = ps) : MapHas s (b.set i y) ps := by
  intro j q x hq hx hqk
  have hij : i = j := hs.one hp hq (by omega) (single_four hqk)
  subst hij
  rw [List.getElem?_set] at hx
  split at hx
  · split at hx
    · cases hx; exact hy
    · cases hx
  · rename_i h0; exact absurd rfl h0

theorem set_same {α : Type} {xs : List α} {i : Nat} {x : α} (h : xs[i]? = some x) : xs.set i x = xs := by
  apply List.ext_getElem?
  intro j
  rw [List.getElem?_set]
  split
  · rename_i hij; subst hij; rw [if_pos (lt_of_some h), h]
  · rfl

def fitQ (s : Sig) (f : Flat) : Bool := okSig s && okFlat f

structure LenF (f : Flat) : Prop where
  places : f.places.length ≤ 1048576
  named : f.named.length ≤ 1048576
  names : ∀ p ∈ f.named, p.name.length ≤ 9223372036854775807

theorem fitQ_iff {s : Sig} {f : Flat} : fitQ s f = true ↔ OkS s ∧ OkF f := by
  rw [fitQ, Bool.and_eq_true, okSig_iff, okFlat_iff]

theorem OkF.len {f : Flat} (h : OkF f) : LenF f := ⟨by have := h.places; omega, by have := h.named; omega, fun p hp => by
  have := h.pairs p hp
  simp only [okPair, okName, inR, Bool.and_eq_true, decide_eq_true_eq] at this
  omega⟩

def accQ (s : Sig) (f : Flat) : Bool := decide ((bindQ s f).2 = [])

def partQ (s : Sig) (f : Flat) : Bool := fitQ s f && decide ((boundQ s f).2 = [])

theorem take_snoc' {α : Type} {xs : List α} {i : Nat} {x : α} (h : xs[i]? = some x) : xs.take i ++ [x] = xs.take (i + 1) := take_snoc h

def overN (ps qs : List Pair) : List Pair := qs.foldl (fun ps p => putP ps p.name p.value) ps

def overQ (f g : Flat) : Flat := ⟨f.places ++ g.places, overN f.named g.named⟩

theorem overN_len : ∀ (qs ps : List Pair), (overN ps qs).length ≤ ps.length + qs.length
  | [], ps => by simp [overN]
  | q :: qs, ps => by
    have h1 := overN_len qs (putP ps q.name q.value)
    have h2 := putP_length ps q.name q.value
    simp only [overN, List.foldl_cons, List.length_cons] at h1 ⊢
    omega

theorem overN_mem : ∀ {qs ps : List Pair} {p : Pair}, p ∈ overN ps qs → (∃ q ∈ ps, p.name = q.name) ∨ ∃ q ∈ qs, p.name = q.name
  | [], ps, p, h => .inl ⟨p, h, rfl⟩
  | q :: qs, ps, p, h => by
    rcases overN_mem (qs := qs) (ps := putP ps q.name q.value) h with ⟨r, hr, hn⟩ | ⟨r, hr, hn⟩
    · rcases putP_mem hr with h1 | ⟨r', hr', h1⟩
      · exact .inr ⟨q, by simp, by rw [hn, h1]⟩
      · exact .inl ⟨r', hr', by rw [hn, h1]⟩
    · exact .inr ⟨r, by simp [hr], hn⟩

theorem LenF.over {f g : Flat} (hf : LenF f) (hg : LenF g) : (overQ f g).places.length ≤ 16777216 ∧ (overQ f g).named.length ≤ 16777216 ∧ ∀ p ∈ (overQ f g).named, p.name.length ≤ 9223372036854775807 := by
  refine ⟨by have := hf.places; have := hg.places; simp [overQ]; omega, by have h := overN_len g.named f.named; have := hf.named; have := hg.named; simp only [overQ]; omega, fun p hp => ?_⟩
  rcases overN_mem hp with ⟨q, hq, hn⟩ | ⟨q, hq, hn⟩
  · rw [hn]; exact hf.names q hq
  · rw [hn]; exact hg.names q hq

theorem eqStringS_ct (xs ys : List Str) (hx : xs.length ≤ 9223372036854775807) :
    ACalls pk 38 [.one (.fs (xs.map eS)), .one (.fs (ys.map eS))] [] (fun r o => r = .one (.bool (decide (xs = ys))) ∧ o = []) := by
  refine acalls_of_body Tryd.func38 rfl (by kernel_rfl) rfl ?_
  refine rn rfl ?_
  refine goal_cond rfl (fun h => ?_) (fun h => ?_) <;> (try simp only [gt_iff_lt, ge_iff_le, bne_iff_ne, ne_eq, bne_eq_false_iff_eq, beq_iff_eq, beq_eq_false_iff_ne, Bool.not_eq_true', Bool.not_eq_false', decide_eq_true_eq, decide_eq_false_iff_not, List.length_map] at h)
  · refine rn rfl (fin_is [] rfl ⟨?_, rfl⟩)
    have : xs ≠ ys := fun h0 => h (by rw [h0])
    simp [this]
  · have hlen : xs.length = ys.length := by omega
    refine rn rfl ?_
    refine goal_loop_keep (fun m σ => ∃ (n : Int) (i : Nat), n = i ∧ i ≤ xs.length ∧ m = xs.length - i ∧ xs.take i = ys.take i ∧
        σ = ⟨[(5, .one (.int .i64 n)), (1, .one (.fs (ys.map eS))), (0, .one (.fs (xs.map eS)))], [], []⟩) xs.length [5, 1, 0] [] rfl
      ⟨_, 0, rfl, by omega, by omega, rfl, rfl⟩ ?_
    rintro m σ ⟨n, i, rfl, hi, rfl, hpre, rfl⟩
    refine rn rfl ?_
    refine goal_cond rfl (fun h => ?_) (fun h => ?_) <;> (try simp only [gt_iff_lt, ge_iff_le, bne_iff_ne, ne_eq, bne_eq_false_iff_eq, beq_iff_eq, beq_eq_false_iff_ne, Bool.not_eq_true', Bool.not_eq_false', decide_eq_true_eq, decide_eq_false_iff_not, List.length_map] at h)
    · obtain ⟨x, hxi⟩ := at_some (xs := xs) (i := i) (by omega)
      obtain ⟨y, hyi⟩ := at_some (xs := ys) (i := i) (by omega)
      refine rn rfl ?_
      refine goal_draw' [] 9 rfl ?_
      refine drn [0, 1, 4, 5] (by kernel_rfl) (by kernel_rfl) rfl rfl ?_
      refine AH_did 2 rfl (by kernel_rfl) (by kernel_rfl) (by kernel_rfl) rfl rfl (dA_index (eS x) rfl rfl rfl rfl rfl rfl rfl (by omega) (by (try simp); omega) (map_at (by simpa using hxi)) rfl) ?_
      refine AH_did 6 rfl (by kernel_rfl) (by kernel_rfl) (by kernel_rfl) rfl rfl (dA_index (eS y) rfl rfl rfl rfl rfl rfl rfl (by omega) (by (try simp); omega) (map_at (by simpa using hyi)) rfl) ?_
      refine drn [3, 7, 8] (by kernel_rfl) (by kernel_rfl) rfl rfl ?_
      refine AH_end (by kernel_rfl) ?_
      refine rn rfl ?_
      have hstep := take_eq_step hpre hxi hyi
      refine goal_cond rfl (fun h2 => ?_) (fun h2 => ?_) <;> simp only [bne_iff_ne, ne_eq, bne_eq_false_iff_eq, Bool.not_eq_true', Bool.not_eq_false', decide_eq_true_eq, decide_eq_false_iff_not, beq_iff_eq, beq_eq_false_iff_ne] at h2
      · refine rn rfl ?_
        refine round_ret (fin_is [] rfl ⟨?_, rfl⟩)
        have : xs ≠ ys := fun h0 => h2 (hstep.1 (by rw [h0]))
        simp [this]
      · refine rn rfl ?_
        refine round_keep (xs.length - (i + 1)) [5, 1, 0] [] (by omega) rfl ⟨_, i + 1, ?_, by omega, rfl, hstep.2 h2, rfl⟩
        exact wrap64 (by omega) (by omega)
    · refine rn rfl ?_
      refine round_ext ?_
      refine rn rfl (fin_is [] rfl ⟨?_, rfl⟩)
      rw [show i = xs.length by omega, List.take_length, hlen, List.take_length] at hpre
      simp [hpre]

def seqS (k : Int) : Nat → List Str
  | 0 => []
  | n + 1 => markText k :: seqS (k + 1) n

theorem seqS_length : ∀ (n : Nat) (k : Int), (seqS k n).length = n
  | 0, k => rfl
  | n + 1, k => by simp [seqS, seqS_length n]

theorem seqS_at : ∀ (n : Nat) (k : Int) (i : Nat), i < n → (seqS k n)[i]? = some (markText (k + i))
  | n + 1, k, 0, _ => by simp [seqS]
  | n + 1, k, i + 1, h => by
    have e1 : k + 1 + (i : Int) = k + ((i + 1 : Nat) : Int) := by omega
    simp only [seqS, List.getElem?_cons_succ, seqS_at n (k + 1) i (by omega), e1]

theorem markStringS_ct (xs : List Str) (k : Int) (kc : Nat) (hl : xs.length ≤ 16777216) (hk : 0 ≤ k) (hk' : k ≤ 16777216) :
    ACalls pk 39 [.one (.os 0 0 xs.length kc), .one (.int .i64 k)] [ownS xs] (fun r o => r = .one (.int .i64 (k + xs.length)) ∧ o = [ownS (seqS k xs.length)]) := by
  refine acalls_of_body Tryd.func39 rfl (by kernel_rfl) rfl ?_
  refine rn rfl ?_
  refine goal_loop_keep (fun m σ => ∃ (n q : Int) (i : Nat) (ys : List Str), n = i ∧ q = k + i ∧ i ≤ xs.length ∧ m = xs.length - i ∧ ys.length = xs.length ∧ ys.take i = (seqS k xs.length).take i ∧
      σ = ⟨[(5, .one (.int .i64 n)), (1, .one (.int .i64 q)), (0, .one (.os 0 0 xs.length kc))], [ownS ys], []⟩) xs.length [5, 1, 0] [] rfl
    ⟨_, _, 0, xs, rfl, by simp, by omega, by omega, rfl, rfl, rfl⟩ ?_
  rintro m σ ⟨n, q, i, ys, rfl, rfl, hi, rfl, hys, hpre, rfl⟩
  refine rn rfl ?_
  refine goal_cond rfl (fun h => ?_) (fun h => ?_) <;> (try simp only [gt_iff_lt, ge_iff_le, bne_iff_ne, ne_eq, bne_eq_false_iff_eq, beq_iff_eq, beq_eq_false_iff_ne, Bool.not_eq_true', Bool.not_eq_false', decide_eq_true_eq, decide_eq_false_iff_not, List.length_map] at h)
  · obtain ⟨y, hy⟩ := at_some (xs := ys) (i := i) (by omega)
    refine rn rfl ?_
    refine goal_step (step_call [] rfl rfl rfl rfl rfl rfl (markText_ct (k + i) (by omega))) ?_
    rintro σ2 ⟨r, o', ⟨rfl, rfl⟩, hσ⟩
    obtain rfl := Option.some.inj hσ
    clear hσ
    refine rn rfl ?_
    refine goal_did rfl rfl (dA_indexOwn rfl rfl rfl rfl rfl rfl rfl rfl rfl (by omega) (by omega)) ?_
    refine goal_did rfl rfl (dA_storeEl (eS y) ((ys.set i (markText (k + i))).map eS) true rfl rfl rfl rfl rfl (map_at (by simpa using hy)) rfl rfl (by simp [eS]) (by rw [map_set]; simp [patch, eS]) (fun _ => noOwnR_map _ eS_noOwn _)) ?_
    refine rn rfl ?_
    refine round_keep (xs.length - (i + 1)) [5, 1, 0] [] (by omega) rfl ⟨_, _, i + 1, ys.set i _, wrap64 (by omega) (by omega), ?_, by omega, rfl, by simp [hys], take_set_step _ ys i _ (seqS_at _ _ _ (by omega)) (by rw [seqS_length]; exact hys) hpre, rfl⟩
    rw [wrap64 (by omega) (by omega)]; omega
  · refine rn rfl ?_
    refine round_ext ?_
    refine rn rfl (fin_is [] rfl ⟨?_, ?_⟩)
    · rw [show i = xs.length by omega]
    · rw [show i = xs.length by omega] at hpre
      have h1 : ys = seqS k xs.length := by
        have := hpre
        rwa [← hys, List.take_length, hys, List.take_of_length_le (by rw [seqS_length]; exact Nat.le_refl _)] at this
      rw [← h1]; rfl

theorem heldStringS_ct (n0 : Nat) (k : Int) (hl : n0 ≤ 16777216) (hk : 0 ≤ k) (hk' : k ≤ 16777216) :
    ACalls pk 40 [.one (.fs ((seqS k n0).map eS)), .one (.int .i64 k)] [] (fun r o => r = .one (.int .i64 (k + n0)) ∧ o = []) := by
  refine acalls_of_body Tryd.func40 rfl (by kernel_rfl) rfl ?_
  refine rn rfl ?_
  have hlen := seqS_length n0 k
  refine goal_loop_keep (fun m σ => ∃ (n q : Int) (i : Nat), n = i ∧ q = k + i ∧ i ≤ n0 ∧ m = n0 - i ∧
      σ = ⟨[(5, .one (.int .i64 n)), (1, .one (.int .i64 q)), (0, .one (.fs ((seqS k n0).map eS)))], [], []⟩) n0 [5, 1, 0] [] rfl
    ⟨_, _, 0, rfl, by simp, by omega, by omega, rfl⟩ ?_
  rintro m σ ⟨n, q, i, rfl, rfl, hi, rfl, rfl⟩
  refine rn rfl ?_
  refine goal_cond rfl (fun h => ?_) (fun h => ?_) <;> simp only [decide_eq_true_eq, decide_eq_false_iff_not, List.length_map, hlen] at h
  · have hx := seqS_at n0 k i (by omega)
    refine rn rfl ?_
    refine goal_draw' [] 7 rfl ?_
    refine drn [0, 1, 4] (by kernel_rfl) (by kernel_rfl) rfl rfl ?_
    refine AH_did 2 rfl (by kernel_rfl) (by kernel_rfl) (by kernel_rfl) rfl rfl (dA_index (eS (markText (k + i))) rfl rfl rfl rfl rfl rfl rfl (by omega) (by simp [hlen]; omega) (map_at (by simpa using hx)) rfl) ?_
    refine drn [3] (by kernel_rfl) (by kernel_rfl) rfl rfl ?_
    refine AH_one (i := 5) (by kernel_rfl) (step_call [] rfl rfl rfl rfl rfl rfl (markText_ct (k + i) (by omega))) (by simp) ?_
    rintro σ2 ⟨r, o', ⟨rfl, rfl⟩, hσ⟩
    obtain rfl := Option.some.inj hσ
    clear hσ
    refine drn [6] (by kernel_rfl) (by kernel_rfl) rfl rfl ?_
    refine AH_end (by kernel_rfl) ?_
    refine rn rfl ?_
    refine goal_cond rfl (fun h2 => by simp at h2) (fun _ => ?_)
    refine rn rfl ?_
    refine round_keep (n0 - (i + 1)) [5, 1, 0] [] (by omega) rfl ⟨_, _, i + 1, wrap64 (by omega) (by omega), ?_, by omega, rfl, rfl⟩
    rw [wrap64 (by omega) (by omega)]; omega
  · refine rn rfl ?_
    refine round_ext ?_
    refine rn rfl (fin_is [] rfl ⟨?_, rfl⟩)
    rw [show i = n0 by omega]

structure Shp where
  count : Int
  names : List Str

def eX (x : Shp) : List C := [.int .i64 x.count, .fs (x.names.map eS)]

def rX (x : Shp) : T := .agg [.int .i64 x.count, .os 0 0 x.names.length x.names.length]

def oX (x : Shp) : List (Option AObj) := [ownS x.names]

theorem eqShape_ct (x : Shp) (hx : x.names.length ≤ 16777216) : ACalls pk 14 [.agg (eX x), .agg (eX x)] [] (fun r o => r = .one (.bool true) ∧ o = []) := by
  refine acalls_of_body Tryd.func14 rfl (by kernel_rfl) rfl ?_
  refine rn rfl ?_
  refine goal_cond rfl (fun h2 => by simp at h2) (fun _ => ?_)
  refine rn rfl ?_
  refine goal_step (step_call [] rfl rfl rfl rfl rfl rfl (eqStringS_ct x.names x.names (by omega))) ?_
  rintro σ2 ⟨r, o', ⟨rfl, rfl⟩, hσ⟩
  obtain rfl := Option.some.inj hσ
  clear hσ
  refine rn rfl ?_
  refine goal_cond rfl (fun h2 => by simp at h2) (fun _ => ?_)
  exact rn rfl (fin_is [] rfl ⟨rfl, rfl⟩)

theorem markShape_ct (x : Shp) (k : Int) (kc : Nat) (hx : x.names.length ≤ 16777216) (hk : 0 ≤ k) (hk' : k ≤ 16777216) :
    ACalls pk 15 [.agg [.int .i64 x.count, .os 0 0 x.names.length kc], .one (.int .i64 k)] (oX x) (fun r o => r = .one (.int .i64 (k + x.names.length)) ∧ o = [ownS (seqS k x.names.length)]) := by
  refine acalls_of_body Tryd.func15 rfl (by kernel_rfl) rfl ?_
  refine rn rfl ?_
  refine goal_step (step_call [0] rfl rfl rfl rfl rfl rfl (markStringS_ct x.names k kc hx hk hk')) ?_
  rintro σ2 ⟨r, o', ⟨rfl, rfl⟩, hσ⟩
  obtain rfl := Option.some.inj hσ
  clear hσ
  refine rn rfl ?_
  exact rn rfl (fin_is [] rfl ⟨rfl, rfl⟩)

theorem heldShape_ct (c : Int) (n0 : Nat) (k : Int) (hx : n0 ≤ 16777216) (hk : 0 ≤ k) (hk' : k ≤ 16777216) :
    ACalls pk 16 [.agg (eX ⟨c, seqS k n0⟩), .one (.int .i64 k)] [] (fun r o => r = .one (.int .i64 (k + n0)) ∧ o = []) := by
  refine acalls_of_body Tryd.func16 rfl (by kernel_rfl) rfl ?_
  refine rn rfl ?_
  refine goal_step (step_call [] rfl rfl rfl rfl rfl rfl (heldStringS_ct n0 k hx hk hk')) ?_
  rintro σ2 ⟨r, o', ⟨rfl, rfl⟩, hσ⟩
  obtain rfl := Option.some.inj hσ
  clear hσ
  refine rn rfl ?_
  refine goal_cond rfl (fun h => ?_) (fun h => ?_) <;> simp only [decide_eq_true_eq, decide_eq_false_iff_not] at h
  · omega
  exact rn rfl (fin_is [] rfl ⟨rfl, rfl⟩)

theorem asX (x : Shp) : T.agg [C.int .i64 x.count, C.fs (List.take x.names.length (List.drop 0 (x.names.map eS)))] = T.agg (eX x) := by rw [takeAll eS _ _ rfl]; rfl

/-- All of the memory, zs data. -/
def allD (w : World) (b : Nat) : Prop := b < w.heap.size

/-- A value of type 't' that can be read is some 'a', its cells told by 'enc'. -/
def Opens (P : Program) (t : TypeId) {α : Type} (enc : α → List C) (ok : α → Prop) : Prop :=
  ∀ (H : Type) (en : TypeId × Value → H) (w : World) (fuel : Nat) (cs : List Value) (x : DataW H × List MemPlace), DataW.trod en P w 0 (fun _ => true) true fuel t cs = some x →
    ∃ a : α, ok a ∧ CRp (allD w) w.heap [] (enc a) cs ∧ cs.length = (enc a).length

theorem opens_str {P : Program} {t : TypeId} (ht : P.underlying t = some .string) : Opens P t (fun s : Str => [.str s]) (fun s => s.length ≤ 9223372036854775807) := by
  intro H en w fuel cs x h
  obtain ⟨s, rfl, _, hl⟩ := DataW.trod_string ht h
  refine ⟨s.data.toList, ?_, ?_, rfl⟩
  · have h1 : s.size = s.data.toList.length := (Array.length_toList).symm
    show s.data.toList.length ≤ _
    rw [← h1]
    exact Nat.le_trans hl (by decide)
  · simp only [CRp, CR, and_true]

section
open Go Go.ChangeShapes Go.WideShapes Go.ChangeAt Go.RowKit
section

variable {X : Pk} {t : Nat} {ti te : TI}

theorem xo_str (h : findTI X.L t = some ti) (hk : ti.kind = 1) : Opens X.P t (fun s : Str => [.str s]) (fun s => s.length ≤ 9223372036854775807) := opens_str ((X.tiok h).string hk)

end

theorem Opens.map {P : Program} {t : TypeId} {α β : Type} {enc : α → List C} {ok : α → Prop} {enc' : β → List C} {ok' : β → Prop} (h : Opens P t enc ok) (g : α → β) (he : ∀ a, enc' (g a) = enc a) (ho : ∀ a, ok a → ok' (g a)) : Opens P t enc' ok' := by
  intro H en w fuel cs x hx
  obtain ⟨a, h1, h2, h3⟩ := h H en w fuel cs x hx
  exact ⟨g a, ho a h1, by rw [he]; exact h2, by rw [he]; exact h3⟩

/-- A law's contract, zs a call from any memory. -/
theorem law_calls {X : Pk} {f : FuncId} {args : List T} {vals : Array Value} {w : World} (h : ACalls X f args [] (fun r o => r = .one (.bool true) ∧ o = [])) (hgl : GlobOk w []) (ha : TRs (allD w) w.heap [] args vals.toList) :
    Calls X.P f vals w fun e w' => e = .returned (.bool true) ∧ Below w.heap.size w w' := by
  have hsr : SR (allD w) w.heap [] [] := ⟨rfl, by simp, by simp, by simp, fun b hb => hb⟩
  refine (h.2 (allD w) [] w vals.toList hgl hsr ha (by simp)).mono ?_
  rintro en w' ⟨v, r, o', D', e', rfl, ⟨rfl, rfl⟩, htr, _, hext, _⟩
  simp only [TR, CR] at htr
  subst htr
  refine ⟨rfl, hext.os, hext.tape, hext.output, hext.size, fun k hk => hext.block k hk ?_⟩
  rintro ⟨id, a, esz, cap, n, he, _⟩
  simp at he
end

section
open Go Go.ChangeShapes
theorem cells_of_okWide {P : Program} {W : World} {r : Reach} {base : Nat} {t : TypeId} {v : Value} (hu : (∃ e, P.underlying t = some (.slice e)) ∨ (∃ k, P.underlying t = some (.int k)) ∨ P.underlying t = some .string)
    (h : Value.okWide P W r base t v) : v.cells.toList = [v] := by
  rcases hu with ⟨e, hu⟩ | ⟨k, hu⟩ | hu <;> cases v <;> first
    | rfl
    | (exfalso; simp [Value.okWide, hu, Cell.okWide, Cell.ok] at h)
end

section
open Go Go.ChangeShapes
theorem openStr : Opens pk.P 9 (fun s : Str => [.str s]) (fun s => s.length ≤ 9223372036854775807) := xo_str rfl rfl
end

structure SmallS (s : Sig) : Prop where
  len : s.length ≤ 8
  names : ∀ p ∈ s, p.name.length ≤ 7

theorem OkS.small {s : Sig} (h : OkS s) : SmallS s := ⟨h.len, fun p hp => by have := h.nameLen hp; omega⟩

/-- Given by its place. -/
def byPl (pl : List Int) (i : Nat) (p : Param) : Bool := placedQ p && decide (i < pl.length)

def giveQ (s : Sig) (pl : List Int) (qs : List Pair) (i : Nat) (p : Param) : Slot :=
  if p.kind = 4 then ⟨false, [], qs.filter fun q => takesQ s q.name == (i : Int)⟩
  else if namedQ p && !byPl pl i p then (match qs.find? (nameIs p.name) with
    | some q => ⟨true, [q.value], []⟩
    | none => zL)
  else place1 (placesQ s) pl i p

def wrongQ (s : Sig) (pl : List Int) (q : Pair) : Option Problem :=
  if takesQ s q.name < 0 then some ⟨1, q.name⟩ else
  match s[(takesQ s q.name).toNat]? with
  | some p => if p.kind = 4 then none else if byPl pl (takesQ s q.name).toNat p then some ⟨2, q.name⟩ else none
  | none => none

def closedQ (s : Sig) (pl : List Int) (qs : List Pair) : Bnds × List Problem := (s.mapIdx (giveQ s pl qs), manyQ s pl ++ qs.filterMap (wrongQ s pl))

theorem giveQ_nil {s : Sig} (pl : List Int) (i : Nat) (p : Param) : giveQ s pl [] i p = place1 (placesQ s) pl i p := by
  unfold giveQ
  by_cases h4 : p.kind = 4
  · rw [if_pos h4]
    have : placedQ p = false := by
      cases h : placedQ p with
      | false => rfl
      | true => rw [placed_kind] at h; omega
    unfold place1
    simp [this, h4, zL]
  · rw [if_neg h4]
    split
    · rename_i h
      simp only [Bool.and_eq_true, Bool.not_eq_true'] at h
      have hk := named_kind.1 h.1
      unfold place1
      unfold byPl at h
      rw [h.2]
      have : (p.kind == 2) = false := by simp; omega
      simp [this]
    · rfl

theorem closed_nil (s : Sig) (pl : List Int) : closedQ s pl [] = (phase1 s pl, manyQ s pl) := by
  simp only [closedQ, phase1, List.filterMap_nil, List.append_nil]
  congr 1
  apply List.ext_getElem?
  intro i
  rw [List.getElem?_mapIdx, List.getElem?_mapIdx]
  cases s[i]? with
  | none => rfl
  | some p => simp only [Option.map_some, giveQ_nil]

theorem takes_named {s : Sig} (hs : OkS s) {i : Nat} {p : Param} (hp : s[i]? = some p) (hn : namedQ p = true) : takesQ s p.name = (i : Int) := by
  have hq : ∀ j q, s[j]? = some q → q.name = p.name → j = i := fun j q hj hqn => by
    have hnd := hs.nodup
    rw [List.nodup_iff_pairwise_ne, List.pairwise_iff_getElem] at hnd
    have hi := lt_of_some hp
    have hjl := lt_of_some hj
    rw [List.getElem?_eq_getElem hi] at hp
    rw [List.getElem?_eq_getElem hjl] at hj
    simp only [Option.some.injEq] at hp hj
    rcases Nat.lt_trichotomy j i with h | h | h
    · exact absurd (by rw [List.getElem_map, List.getElem_map, hp, hj, hqn]) (hnd j i (by simpa using hjl) (by simpa using hi) h)
    · exact h
    · exact absurd (by rw [List.getElem_map, List.getElem_map, hp, hj, hqn]) (hnd i j (by simpa using hi) (by simpa using hjl) h)
  have hany : s.any (qIs p.name) = true := by rw [List.any_eq_true]; exact ⟨p, List.mem_of_getElem? hp, by simp [qIs]⟩
  obtain ⟨q, hf, hqi, hqn, hlt⟩ := idxI_find (idxI_ge (i := 0).2 hany)
  have hqn' : q.name = p.name := by simpa [qIs] using hqn
  have hix := hq _ q hqi hqn'
  have hpq : q = p := by rw [hix, hp] at hqi; exact (Option.some.inj hqi).symm
  have h0 := idxI_ge (i := 0).2 hany
  unfold takesQ
  rw [hf]
  simp only [hpq, hn, if_true]
  omega

theorem find_snoc {qs : List Pair} {q : Pair} {n : Str} : (qs ++ [q]).find? (nameIs n) = (match qs.find? (nameIs n) with
    | some x => some x
    | none => if q.name = n then some q else none) := by
  rw [List.find?_append]
  cases qs.find? (nameIs n) with
  | some x => rfl
  | none =>
    simp only [Option.none_or, List.find?_cons, List.find?_nil, nameIs]
    by_cases h : q.name = n
    · simp [h]
    · have : (q.name == n) = false := by simpa using h
      simp [h, this]

theorem find_none {qs : List Pair} {n : Str} (h : n ∉ namesOf qs) : qs.find? (nameIs n) = none := by
  rw [List.find?_eq_none]
  intro x hx hxn
  exact h (by simp only [nameIs, beq_iff_eq] at hxn; rw [← hxn]; exact List.mem_map_of_mem hx)

theorem closed_step {s : Sig} (hs : OkS s) {pl : List Int} {qs : List Pair} {q : Pair} (hq : q.name ∉ namesOf qs) : stepB s (closedQ s pl qs) q = closedQ s pl (qs ++ [q]) := by
  by_cases hneg : takesQ s q.name < 0
  · rw [stepB_neg hneg]
    simp only [closedQ, List.filterMap_append, List.filterMap_cons, List.filterMap_nil, wrongQ, hneg, if_true, List.append_assoc]
    congr 1
    apply List.ext_getElem?
    intro i
    simp only [List.getElem?_mapIdx]
    cases hp : s[i]? with
    | none => rfl
    | some p =>
      simp only [Option.map_some, Option.some.injEq, giveQ]
      split
      · have : (takesQ s q.name == (i : Int)) = false := by simp; omega
        simp [this]
      · split
        · rename_i h4 hn
          simp only [Bool.and_eq_true] at hn
          have ht := takes_named hs hp hn.1
          rw [find_snoc]
          have hne : q.name ≠ p.name := fun h0 => by rw [h0, ht] at hneg; omega
          rw [if_neg hne]
          cases qs.find? (nameIs p.name) <;> rfl
        · rfl
  · obtain ⟨p, hp, hlt, hk⟩ := takesQ_some hneg
    have hat : takesQ s q.name = ((takesQ s q.name).toNat : Nat) := by omega
    generalize hj : (takesQ s q.name).toNat = j at hp hat
    have hx : (closedQ s pl qs).1[j]? = some (giveQ s pl qs j p) := by simp [closedQ, hp]
    have hother : ∀ (i : Nat) (r : Param), s[i]? = some r → i ≠ j → giveQ s pl (qs ++ [q]) i r = giveQ s pl qs i r := fun i r hr hij => by
      simp only [giveQ]
      split
      · have : (takesQ s q.name == (i : Int)) = false := by rw [hat]; simp; omega
        simp [this]
      · split
        · rename_i h4 hn
          simp only [Bool.and_eq_true] at hn
          have ht := takes_named hs hr hn.1
          rw [find_snoc]
          have hne : q.name ≠ r.name := fun h0 => by rw [h0, ht] at hat; omega
          rw [if_neg hne]
          cases qs.find? (nameIs r.name) <;> rfl
        · rfl
    have hset : ∀ y : Slot, giveQ s pl (qs ++ [q]) j p = y → (closedQ s pl qs).1.set j y = (closedQ s pl (qs ++ [q])).1 := fun y hy => by
      apply List.ext_getElem?
      intro i
      simp only [closedQ, List.getElem?_set, List.getElem?_mapIdx, List.length_mapIdx]
      by_cases hij : j = i
      · subst hij; rw [if_pos rfl, if_pos (lt_of_some hp), hp]; simp [hy]
      · rw [if_neg hij]
        cases hr : s[i]? with
        | none => rfl
        | some r => simp [hother i r hr (fun h => hij h.symm)]
    have hwr : ∀ w : Option Problem, wrongQ s pl q = w → (closedQ s pl (qs ++ [q])).2 = (closedQ s pl qs).2 ++ w.toList := fun w hw => by
      simp only [closedQ, List.filterMap_append, List.append_assoc]
      congr 1
      congr 1
      cases w <;> simp [List.filterMap_cons, hw]
    by_cases h4 : p.kind = 4
    · rw [stepB_map hat hp hx h4]
      have hw : wrongQ s pl q = none := by simp [wrongQ, hneg, hj, hp, h4]
      have h1 := hwr none hw
      refine Prod.ext (hset _ ?_) (by rw [h1]; simp)
      simp [giveQ, h4, hat]
    · have hn : namedQ p = true ∧ p.name = q.name := by
        rcases hk with h | h
        · exact h
        · exact absurd h h4
      have hnf : qs.find? (nameIs p.name) = none := by rw [hn.2]; exact find_none hq
      by_cases hb : byPl pl j p = true
      · have hg : (giveQ s pl qs j p).given = true := by
          unfold byPl at hb
          simp only [giveQ, h4, if_false, hn.1, byPl, hb, Bool.not_true, Bool.and_false, Bool.false_eq_true, place1, if_true]
        rw [stepB_twice hat hp hx h4 hg]
        have hw : wrongQ s pl q = some ⟨2, q.name⟩ := by simp [wrongQ, hneg, hj, hp, h4, hb]
        have h1 := hwr _ hw
        refine Prod.ext ?_ (by rw [h1]; rfl)
        have h2 := hset (giveQ s pl qs j p) (by simp only [giveQ, h4, if_false, hn.1, hb, Bool.not_true, Bool.and_false, Bool.false_eq_true])
        rw [set_same hx] at h2
        exact h2
      · have hb' : byPl pl j p = false := by simpa using hb
        have hg : (giveQ s pl qs j p).given = false := by
          simp only [giveQ, h4, if_false, hn.1, hb', Bool.not_false, Bool.and_self, if_true, hnf, zL]
        rw [stepB_set hat hp hx h4 hg]
        have hw : wrongQ s pl q = none := by simp [wrongQ, hneg, hj, hp, h4, hb']
        have h1 := hwr none hw
        refine Prod.ext (hset _ ?_) (by rw [h1]; simp)
        rw [hn.2] at hnf
        simp only [giveQ, h4, if_false, hn.1, hb', Bool.not_false, Bool.and_self, if_true, find_snoc, hnf, hn.2]

theorem closed_fold {s : Sig} (hs : OkS s) {pl : List Int} : ∀ (rs qs : List Pair), (namesOf (qs ++ rs)).Nodup → rs.foldl (stepB s) (closedQ s pl qs) = closedQ s pl (qs ++ rs)
  | [], qs, _ => by simp
  | r :: rs, qs, h => by
    have hr : r.name ∉ namesOf qs := by
      intro h0
      simp only [namesOf, List.map_append, List.map_cons] at h h0
      exact (List.nodup_append.1 h).2.2 _ h0 _ (List.mem_cons_self ..) rfl
    rw [List.foldl_cons, closed_step hs hr, closed_fold hs rs (qs ++ [r]) (by simpa using h)]
    simp

/-- What a call gives. -/
theorem bound_closed {s : Sig} (hs : OkS s) {f : Flat} (hf : (namesOf f.named).Nodup) : boundQ s f = closedQ s f.places f.named := by
  rw [boundQ, ← closed_nil, closed_fold hs f.named [] (by simpa using hf)]
  simp

end Go.Proofs.YtbenojnoepkgbaaDoor
