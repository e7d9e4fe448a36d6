/- Control: what a piece of code must do, said of the abstract state; and a runner over it. -/
import Derived.Test.YtkjbjgndinjdpaaG
set_option linter.unusedVariables false
set_option linter.unusedSimpArgs false
namespace Go.Proofs.Ytkjbjgndinjdpaa
open Go

abbrev KP := Exit → State → Prop
def lift (N np : Nat) (G : Ctx) (K : KP) : Exit → Act → World → Prop := fun ex a w => ∃ D e σ, Rel N np G D e σ a w ∧ K ex σ
def AOps (X : Pk) (N np : Nat) (ops : Array Oper) (K : KP) (idx : List Nat) (σ : State) : Prop :=
  ∀ G D e a w, Rel N np G D e σ a w → wpOps X.P ops (lift N np G K) idx a w
def AW (X : Pk) (N np : Nat) (c : Code) (K : KP) (σ : State) : Prop :=
  ∀ G D e a w, Rel N np G D e σ a w → c.wp X.P (lift N np G K) a w

inductive It where
  | code (c : Code)
  | blk (id : Nat)

def after (X : Pk) (N np : Nat) : List It → KP → KP
  | [], K => K
  | .code c :: k, K => fun ex σ => match ex with
    | .normal => AW X N np c (after X N np k K) σ
    | ex => after X N np k K ex σ
  | .blk id :: k, K => fun ex σ => match ex with
    | .exit id' => if id' = id then after X N np k K .normal σ else after X N np k K (.exit id') σ
    | ex => after X N np k K ex σ

inductive Cfg where
  | cod (c : Code) (k : List It)
  | ops (o : Array Oper) (idx : List Nat) (k : List It)
  | nrm (k : List It)
  | ext (id : Nat) (k : List It)
  | ret (k : List It)

def goal (X : Pk) (N np : Nat) (K : KP) : Cfg → State → Prop
  | .cod c k, σ => AW X N np c (after X N np k K) σ
  | .ops o idx k, σ => AOps X N np o (after X N np k K) idx σ
  | .nrm k, σ => after X N np k K .normal σ
  | .ext id k, σ => after X N np k K (.exit id) σ
  | .ret _, σ => K .ret σ

section
variable {X : Pk} {N np : Nat} {K : KP} {σ σ' : State}

theorem after_ret : ∀ (k : List It), after X N np k K .ret σ = K .ret σ
  | [] => rfl
  | .code c :: k => after_ret k
  | .blk id :: k => after_ret k

theorem lift_mono {G : Ctx} {K K' : KP} (h : ∀ ex σ, K ex σ → K' ex σ) : ∀ ex a w, lift N np G K ex a w → lift N np G K' ex a w :=
  fun _ _ _ ⟨D, e, σ, hr, hk⟩ => ⟨D, e, σ, hr, h _ _ hk⟩

theorem AW_skip (h : K .normal σ) : AW X N np .skip K σ := fun G D e a w H => wp_skip ⟨D, e, σ, H, h⟩
theorem AW_exit {id : Nat} (h : K (.exit id) σ) : AW X N np (.exit id) K σ := fun G D e a w H => wp_exit ⟨D, e, σ, H, h⟩
theorem AW_ret (h : K .ret σ) : AW X N np .ret K σ := fun G D e a w H => wp_ret ⟨D, e, σ, H, h⟩
theorem AW_seq {x y : Code} {k : List It} (h : AW X N np x (after X N np (.code y :: k) K) σ) : AW X N np (.seq x y) (after X N np k K) σ := fun G D e a w H =>
  wp_seq (wp_mono (h G D e a w H) fun ex a' w' ⟨D', e', σ', H', hk⟩ => by
    cases ex with
    | normal => exact hk G D' e' a' w' H'
    | exit id => exact ⟨D', e', σ', H', hk⟩
    | goto l => exact ⟨D', e', σ', H', hk⟩
    | ret => exact ⟨D', e', σ', H', hk⟩
    | panic c => exact ⟨D', e', σ', H', hk⟩
    | outgrown => exact ⟨D', e', σ', H', hk⟩)
theorem AW_block {id : Nat} {c : Code} {k : List It} (h : AW X N np c (after X N np (.blk id :: k) K) σ) : AW X N np (.block id c) (after X N np k K) σ := fun G D e a w H =>
  wp_block (wp_mono (h G D e a w H) fun ex a' w' ⟨D', e', σ', H', hk⟩ => by
    cases ex with
    | normal => exact ⟨D', e', σ', H', hk⟩
    | exit id' =>
      simp only [after] at hk
      simp only [Exit.inBlock]
      by_cases hid : id' = id
      · rw [if_pos hid] at hk ⊢; exact ⟨D', e', σ', H', hk⟩
      · rw [if_neg hid] at hk ⊢; exact ⟨D', e', σ', H', hk⟩
    | goto l => exact ⟨D', e', σ', H', hk⟩
    | ret => exact ⟨D', e', σ', H', hk⟩
    | panic c => exact ⟨D', e', σ', H', hk⟩
    | outgrown => exact ⟨D', e', σ', H', hk⟩)

/-- The hints are nobody's business. -/
theorem Rel.hints {G : Ctx} {D : Nat → Prop} {e : List ALoc} {a : Act} {w : World} (H : Rel N np G D e σ a w) (κ : List Nat) : Rel N np G D e ⟨σ.ρ, σ.o, κ⟩ a w :=
  ⟨H.hnp, H.nple, H.ext, H.defers, H.size, H.tmps, H.sr, H.new, H.old, H.keep⟩

theorem AW_region {id : Nat} {ops : Array Oper} (h : AOps X N np ops K (List.range ops.size) ⟨σ.ρ, σ.o, []⟩) : AW X N np (.region id ops false) K σ := fun G D e a w H =>
  wp_region (h G D e a w (H.hints []))

theorem AOps_nil {ops : Array Oper} (h : K .normal σ) : AOps X N np ops K [] σ := fun G D e a w H => ⟨D, e, σ, H, h⟩

/-- One operation, carried out. -/
theorem AOps_did {kd : Kd} {ops : Array Oper} {i : Nat} {rest : List Nat} {o : Oper} (ho : ops[i]? = some o) (hg : ∀ {G : Ctx} {D : Nat → Prop} {e : List ALoc} {a : Act} {w : World}, Rel N np G D e σ a w → Region.wanted o (yielded ops a.tmps) = true)
    (hd : ∀ {G : Ctx} {D : Nat → Prop} {e : List ALoc} {a : Act} {w : World}, Rel N np G D e σ a w → Did X N np G D e o a w kd σ σ') (h : AOps X N np ops K rest σ') : AOps X N np ops K (i :: rest) σ := by
  intro G D e a w H
  simp only [wpOps, ho, hg H, if_true]
  left
  obtain ⟨D', e', n, v, w', hr, hn, H', _⟩ := (hd H).out H
  unfold Oper.wp
  rw [hr]
  rcases hn with rfl | ⟨rfl, rfl⟩
  · simp only [Oper.upon]; exact h _ _ _ _ _ H'
  · simp only [Oper.upon]; exact h _ _ _ _ _ H'

theorem AOps_step {ops : Array Oper} {i : Nat} {rest : List Nat} {o : Oper} (ho : ops[i]? = some o) (hg : o.guard = none) (hp : stepOp X.L N o.dst o.op σ = some σ') (h : AOps X N np ops K rest σ') : AOps X N np ops K (i :: rest) σ :=
  AOps_did ho (fun _ => by simp [Region.wanted, hg]) (fun H => did_step H hp) h

/-! ### Guards -/
theorem guard_yields {G : Ctx} {D : Nat → Prop} {e : List ALoc} {a : Act} {w : World} (H : Rel N np G D e σ a w) {ops : Array Oper} {j tj : Nat} {oj : Oper} {b : Bool}
    (hj : ops[j]? = some oj) (hd : oj.dst = some tj) (hn : tj < N) (hv : getρ σ.ρ tj = .one (.bool b)) : yielded ops a.tmps j = some b := by
  have h1 := H.tmps tj
  rw [hv] at h1
  have h2 := one_bool h1
  have h3 : tj < a.tmps.size := by rw [H.size]; exact hn
  have h4 : a.tmps[tj]? = some (.bool b) := by
    simp only [Array.getD_eq_getD_getElem?] at h2
    rw [Array.getElem?_eq_getElem h3] at h2 ⊢
    simpa using h2
  simp [yielded, hj, hd, h4]

/-- A guarded operation whose guard says no. -/
theorem AOps_skip {ops : Array Oper} {i : Nat} {rest : List Nat} {o : Oper} (ho : ops[i]? = some o)
    (hg : ∀ {G : Ctx} {D : Nat → Prop} {e : List ALoc} {a : Act} {w : World}, Rel N np G D e σ a w → Region.wanted o (yielded ops a.tmps) = false)
    (hp : putT N o.dst .junk σ = some σ') (h : AOps X N np ops K rest σ') : AOps X N np ops K (i :: rest) σ := by
  intro G D e a w H
  simp only [wpOps, ho, hg H, Bool.false_eq_true, if_false]
  exact h _ _ _ _ _ (H.putv (x := .junk) (v := undef) (by simp [TR]) hp)

def nthA {α : Type} (l : Array α) (n : Nat) : Option α := nth l.toList n
theorem nthA_eq {α : Type} (l : Array α) (n : Nat) : nthA l n = l[n]? := by simp [nthA, nth_eq]

/-- A guard: none; told (with what it says); open. -/
inductive Gd where
  | go | skip | open_

def guardOf (N : Nat) (ops : Array Oper) (g : Option (Nat × Bool)) (σ : State) : Gd :=
  match g with
  | none => .go
  | some (j, want) => match nthA ops j with
    | some ⟨some tj, _, _, _, _, _⟩ => match memN tj σ.k, Nat.blt tj N with
      | true, true => match getρ σ.ρ tj with
        | .one (.bool b) => match b, want with
          | true, true => .go
          | false, false => .go
          | true, false => .skip
          | false, true => .skip
        | _ => .open_
      | _, _ => .open_
    | _ => .open_

theorem guardOf_spec {G : Ctx} {D : Nat → Prop} {e : List ALoc} {a : Act} {w : World} (H : Rel N np G D e σ a w) {ops : Array Oper} {o : Oper} :
    (guardOf N ops o.guard σ = .go → Region.wanted o (yielded ops a.tmps) = true) ∧ (guardOf N ops o.guard σ = .skip → Region.wanted o (yielded ops a.tmps) = false) := by
  unfold guardOf
  split
  · rename_i hg; simp [Region.wanted, hg]
  · rename_i j want hg
    split
    · rename_i tj _ _ _ _ _ hj
      rw [nthA_eq] at hj
      split
      · rename_i hm hb
        split
        · rename_i b hv
          have := guard_yields H hj rfl (by simpa [Nat.blt_eq] using hb) hv
          cases b <;> cases want <;> simp [Region.wanted, hg, this]
        · simp
      · simp
    · simp

def runOps (L : List (Nat × TI)) (N : Nat) (ops : Array Oper) : List Nat → State → Option (List Nat × State)
  | [], σ => some ([], σ)
  | i :: rest, σ => match nthA ops i with
    | none => none
    | some ⟨dst, op, _, _, _, g⟩ => match guardOf N ops g σ with
      | .go => match stepOp L N dst op σ with
        | some σ' => runOps L N ops rest σ'
        | none => some (i :: rest, σ)
      | .skip => match putT N dst .junk σ with
        | some σ' => runOps L N ops rest σ'
        | none => some (i :: rest, σ)
      | .open_ => some (i :: rest, σ)

theorem runOps_sound {ops : Array Oper} : ∀ (idx idx' : List Nat) (σ σ' : State), runOps X.L N ops idx σ = some (idx', σ') → AOps X N np ops K idx' σ' → AOps X N np ops K idx σ
  | [], idx', σ, σ', hr, h => by simp [runOps] at hr; obtain ⟨rfl, rfl⟩ := hr; exact h
  | i :: rest, idx', σ, σ', hr, h => by
    simp only [runOps] at hr
    split at hr
    · cases hr
    · rename_i dst op ty pos aft g ho
      rw [nthA_eq] at ho
      split at hr
      · rename_i hg
        split at hr
        · rename_i σ1 hs
          exact AOps_did ho (fun H => (guardOf_spec H (ops := ops) (o := ⟨dst, op, ty, pos, aft, g⟩)).1 hg) (fun H => did_step H hs) (runOps_sound rest idx' σ1 σ' hr h)
        · simp at hr; obtain ⟨rfl, rfl⟩ := hr; exact h
      · rename_i hg
        split at hr
        · rename_i σ1 hs
          exact AOps_skip ho (fun H => (guardOf_spec H (ops := ops) (o := ⟨dst, op, ty, pos, aft, g⟩)).2 hg) hs (runOps_sound rest idx' σ1 σ' hr h)
        · simp at hr; obtain ⟨rfl, rfl⟩ := hr; exact h
      · simp at hr; obtain ⟨rfl, rfl⟩ := hr; exact h

def decS (t : Nat) (b : Bool) (σ : State) : State := match σ with
  | ⟨ρ, o, κ⟩ => ⟨(t, .one (.bool b)) :: ρ, o, t :: κ⟩
/-- The guard's test is decided: both ways. -/
theorem goal_guard {ops : Array Oper} {i : Nat} {rest : List Nat} {k : List It} {t j : Nat} {want b : Bool} {d0 : Option Nat} {op0 op1 : Op} {ty0 ty1 : TypeId} {pos0 pos1 : String} {aft0 aft1 : Array Edge} {g1 : Option (Nat × Bool)}
    (ho : nthA ops i = some ⟨d0, op0, ty0, pos0, aft0, some (j, want)⟩) (hj : nthA ops j = some ⟨some t, op1, ty1, pos1, aft1, g1⟩) (hv : getρ σ.ρ t = .one (.bool b))
    (h1 : b = true → goal X N np K (.ops ops (i :: rest) k) (decS t true σ))
    (h2 : b = false → goal X N np K (.ops ops (i :: rest) k) (decS t false σ)) : goal X N np K (.ops ops (i :: rest) k) σ := by
  intro G D e a w H
  have key : Rel N np G D e ⟨(t, .one (.bool b)) :: σ.ρ, σ.o, t :: σ.k⟩ a w := by
    refine ⟨H.hnp, H.nple, H.ext, H.defers, H.size, fun u => ?_, H.sr, H.new, H.old, H.keep⟩
    simp only [getρ]
    split
    · rename_i hb
      have := Nat.eq_of_beq_eq_true hb
      subst this
      rw [← hv]; exact H.tmps t
    · exact H.tmps u
  cases b with
  | true => exact h1 rfl G D e a w key
  | false => exact h2 rfl G D e a w key

/-! ### The runner -/
def rangeN {α : Type} : Nat → List α → List Nat
  | _, [] => []
  | i, _ :: r => i :: rangeN (i + 1) r
theorem rangeN_eq {α : Type} : ∀ (i : Nat) (l : List α), rangeN i l = (List.range l.length).map (· + i)
  | i, [] => rfl
  | i, x :: r => by
    simp only [rangeN, rangeN_eq (i + 1) r, List.length_cons, List.range_succ_eq_map, List.map_cons, List.map_map, Nat.zero_add]
    congr 1
    apply List.map_congr_left
    intro j _
    simp; omega
theorem rangeN_range (ops : Array Oper) : rangeN 0 ops.toList = List.range ops.size := by
  rw [rangeN_eq]; simp

def run (L : List (Nat × TI)) (N : Nat) : Nat → Cfg → State → Option (Cfg × State)
  | 0, c, σ => some (c, σ)
  | n + 1, .cod c k, σ => match c with
    | .skip => run L N n (.nrm k) σ
    | .seq x y => run L N n (.cod x (.code y :: k)) σ
    | .block id x => run L N n (.cod x (.blk id :: k)) σ
    | .exit id => run L N n (.ext id k) σ
    | .ret => some (.ret k, σ)
    | .region _ ops draw => match draw with
      | false => match σ with
        | ⟨ρ, o, _⟩ => run L N n (.ops ops (rangeN 0 ops.toList) k) ⟨ρ, o, []⟩
      | true => some (.cod c k, σ)
    | c => some (.cod c k, σ)
  | n + 1, .nrm k, σ => match k with
    | [] => some (.nrm [], σ)
    | .code c :: k => run L N n (.cod c k) σ
    | .blk _ :: k => run L N n (.nrm k) σ
  | n + 1, .ext id k, σ => match k with
    | [] => some (.ext id [], σ)
    | .code _ :: k => run L N n (.ext id k) σ
    | .blk id' :: k => match Nat.beq id id' with
      | true => run L N n (.nrm k) σ
      | false => run L N n (.ext id k) σ
  | n + 1, .ops o idx k, σ => match runOps L N o idx σ with
    | some ([], σ') => run L N n (.nrm k) σ'
    | some (i :: idx', σ') => some (.ops o (i :: idx') k, σ')
    | none => none
  | _ + 1, .ret k, σ => some (.ret k, σ)

theorem run_sound : ∀ (n : Nat) (c c' : Cfg) (σ σ' : State), run X.L N n c σ = some (c', σ') → goal X N np K c' σ' → goal X N np K c σ
  | 0, c, c', σ, σ', hr, h => by simp [run] at hr; obtain ⟨rfl, rfl⟩ := hr; exact h
  | n + 1, .cod c k, c', σ, σ', hr, h => by
    cases c with
    | skip => exact AW_skip (run_sound n _ c' σ σ' hr h)
    | seq x y => exact AW_seq (run_sound n (.cod x (.code y :: k)) c' σ σ' hr h)
    | block id x => exact AW_block (run_sound n (.cod x (.blk id :: k)) c' σ σ' hr h)
    | exit id => exact AW_exit (run_sound n (.ext id k) c' σ σ' hr h)
    | ret => simp [run] at hr; obtain ⟨rfl, rfl⟩ := hr; exact AW_ret (by rw [after_ret]; exact h)
    | region id ops draw =>
      cases draw with
      | false =>
        cases σ
        simp only [run, rangeN_range] at hr
        exact AW_region (run_sound n (.ops ops (List.range ops.size) k) c' _ σ' hr h)
      | true => simp [run] at hr; obtain ⟨rfl, rfl⟩ := hr; exact h
    | cond => simp [run] at hr; obtain ⟨rfl, rfl⟩ := hr; exact h
    | loop => simp [run] at hr; obtain ⟨rfl, rfl⟩ := hr; exact h
    | rangeFunc => simp [run] at hr; obtain ⟨rfl, rfl⟩ := hr; exact h
    | scope => simp [run] at hr; obtain ⟨rfl, rfl⟩ := hr; exact h
    | label => simp [run] at hr; obtain ⟨rfl, rfl⟩ := hr; exact h
    | goto => simp [run] at hr; obtain ⟨rfl, rfl⟩ := hr; exact h
    | refuse => simp [run] at hr; obtain ⟨rfl, rfl⟩ := hr; exact h
  | n + 1, .nrm k, c', σ, σ', hr, h => by
    cases k with
    | nil => simp [run] at hr; obtain ⟨rfl, rfl⟩ := hr; exact h
    | cons x k =>
      cases x with
      | code c => exact run_sound n (.cod c k) c' σ σ' hr h
      | blk id => exact run_sound n (.nrm k) c' σ σ' hr h
  | n + 1, .ext id k, c', σ, σ', hr, h => by
    cases k with
    | nil => simp [run] at hr; obtain ⟨rfl, rfl⟩ := hr; exact h
    | cons x k =>
      cases x with
      | code c => exact run_sound n (.ext id k) c' σ σ' hr h
      | blk id' =>
        simp only [run] at hr
        simp only [goal, after]
        split at hr
        · rename_i hb
          rw [if_pos (Nat.eq_of_beq_eq_true hb)]
          exact run_sound n (.nrm k) c' σ σ' hr h
        · rename_i hb
          rw [if_neg (fun h0 => by subst h0; rw [Nat.beq_refl] at hb; cases hb)]
          exact run_sound n (.ext id k) c' σ σ' hr h
  | n + 1, .ops o idx k, c', σ, σ', hr, h => by
    simp only [run] at hr
    split at hr
    · rename_i σ1 hs
      exact runOps_sound idx [] σ σ1 hs (AOps_nil (run_sound n (.nrm k) c' σ1 σ' hr h))
    · rename_i i idx' σ1 hs
      simp at hr; obtain ⟨rfl, rfl⟩ := hr
      exact runOps_sound idx _ σ σ1 hs h
    · cases hr
  | n + 1, .ret k, c', σ, σ', hr, h => by simp [run] at hr; obtain ⟨rfl, rfl⟩ := hr; exact h

/-! ### Branches and loops -/
theorem goal_cond {c : Operand} {x y : Code} {k : List It} {b : Bool} (hv : evalO σ c = .one (.bool b)) (h1 : b = true → goal X N np K (.cod x k) σ) (h2 : b = false → goal X N np K (.cod y k) σ) :
    goal X N np K (.cod (.cond c x y) k) σ := fun G D e a w H =>
  wp_cond_split (one_bool (hv ▸ H.ev c)) (fun h => h1 h G D e a w H) (fun h => h2 h G D e a w H)

/-- From one state to another that says less. -/
def Weak (N np : Nat) (σ σ' : State) : Prop := ∀ {G : Ctx} {D : Nat → Prop} {e : List ALoc} {a : Act} {w : World}, Rel N np G D e σ a w → ∃ D' e', Rel N np G D' e' σ' a w

theorem goal_weak {c : Cfg} (hw : Weak N np σ σ') (h : goal X N np K c σ') (hc : match c with
    | .cod .. | .ops .. => True
    | _ => False) : goal X N np K c σ := by
  cases c with
  | cod c k => intro G D e a w H; obtain ⟨D', e', H'⟩ := hw H; exact h G D' e' a w H'
  | ops o idx k => intro G D e a w H; obtain ⟨D', e', H'⟩ := hw H; exact h G D' e' a w H'
  | nrm k => exact hc.elim
  | ext id k => exact hc.elim
  | ret k => exact hc.elim

/-- What a round of a loop must come to: the head again, lower; or out. -/
def roundK (N np : Nat) (I : Nat → State → Prop) (m : Nat) (K : KP) : KP := fun ex σ => match ex with
  | .normal => ∃ m', m' < m ∧ ∃ σ', Weak N np σ σ' ∧ I m' σ'
  | ex => K ex σ

theorem goal_loop {c : Code} {k : List It} (I : Nat → State → Prop) (m : Nat) (hw : ∃ σ', Weak N np σ σ' ∧ I m σ')
    (round : ∀ m σ, I m σ → goal X N np (roundK N np I m (after X N np k K)) (.cod c []) σ) : goal X N np K (.cod (.loop c) k) σ := by
  obtain ⟨σ1, hw, h0⟩ := hw
  intro G D e a w H
  obtain ⟨D1, e1, H1⟩ := hw H
  have key : ∀ (m : Nat) (σ : State) (D : Nat → Prop) (e : List ALoc) (a : Act) (w : World), Rel N np G D e σ a w → I m σ →
      ∀ (b : Frame) (kk : List Item) (cs : List Frame), ∃ ex a' w', lift N np G (after X N np k K) ex a' w' ∧ Arrives X.P (lone (b.at a (.code c :: .inLoop c :: kk)) cs w) b kk cs ex a' w' := by
    intro m
    induction m using Nat.strongRecOn with
    | _ m ih =>
      intro σ D e a w H hI b kk cs
      obtain ⟨ex, a1, w1, ⟨D1, e1, σ1, H1, hk⟩, harr⟩ := round m σ hI G D e a w H b (.inLoop c :: kk) cs
      cases ex with
      | normal =>
        obtain ⟨m', hlt, σ2, hw2, hI2⟩ := hk
        obtain ⟨D2, e2, H2⟩ := hw2 H1
        obtain ⟨ex2, a2, w2, hq2, harr2⟩ := ih m' hlt σ2 D2 e2 a1 w1 H2 hI2 b kk cs
        exact ⟨ex2, a2, w2, hq2, .of_steps (Steps.trans harr (.one step_inLoop)) harr2⟩
      | exit id => exact ⟨_, a1, w1, ⟨D1, e1, σ1, H1, hk⟩, .pass (x := .inLoop c) rfl (fun _ _ => .inl (by simp)) harr⟩
      | goto l => exact ⟨_, a1, w1, ⟨D1, e1, σ1, H1, hk⟩, .pass (x := .inLoop c) rfl (fun _ _ => .inl (by simp)) harr⟩
      | ret => exact ⟨_, a1, w1, ⟨D1, e1, σ1, H1, hk⟩, .pass (x := .inLoop c) rfl (fun _ _ => .inl (by simp)) harr⟩
      | panic ch => exact ⟨_, a1, w1, ⟨D1, e1, σ1, H1, hk⟩, .pass (x := .inLoop c) rfl (fun _ _ => .inl (by simp)) harr⟩
      | outgrown => exact ⟨_, a1, w1, ⟨D1, e1, σ1, H1, hk⟩, .pass (x := .inLoop c) rfl (fun _ _ => .inl (by simp)) harr⟩
  intro b kk cs
  obtain ⟨ex, a', w', hq, harr⟩ := key m σ1 D1 e1 a w H1 h0 b kk cs
  exact ⟨ex, a', w', hq, .of_steps (.one step_loop) harr⟩
end
end Go.Proofs.Ytkjbjgndinjdpaa
