/- Bytes to text; short names of the rules most used. -/
import Derived.Test.YtkjbjgndinjdpaaU
set_option linter.unusedVariables false
set_option linter.unusedSimpArgs false
namespace Go.Proofs.Ytkjbjgndinjdpaa
open Go
section
variable {X : Pk} {N np : Nat} {G : Ctx} {D : Nat → Prop} {e : List ALoc} {σ σ' : State} {a : Act} {w : World} {K : KP}

theorem rn {c c' : Cfg} {σ σ' : State} (hr : run X.L N 1000 c σ = some (c', σ')) (h : goal X N np K c' σ') : goal X N np K c σ := run_sound 1000 _ _ _ _ hr h

def tellT1 {β : Type} (t : T) (k : T → Option β) : Option β :=
  match t with
  | .one c => tellC c fun c => k (.one c)
  | .agg cs => forceL cs fun cs => k (.agg cs)
  | .tup ts => k (.tup ts)
  | .junk => k .junk
theorem tellT1_eq {β : Type} (t : T) (k : T → Option β) : tellT1 t k = k t := by cases t <;> simp [tellT1, tellC_eq, forceL_eq]
def tellTs {β : Type} : List T → (List T → Option β) → Option β
  | [], k => k []
  | t :: ts, k => tellT1 t fun t => tellTs ts fun r => k (t :: r)
theorem tellTs_eq {β : Type} : ∀ (ts : List T) (k : List T → Option β), tellTs ts k = k ts
  | [], k => rfl
  | t :: ts, k => by simp [tellTs, tellT1_eq, tellTs_eq ts]
def tellT {β : Type} (t : T) (k : T → Option β) : Option β :=
  match t with
  | .tup ts => tellTs ts fun ts => k (.tup ts)
  | t => tellT1 t k
theorem tellT_eq {β : Type} (t : T) (k : T → Option β) : tellT t k = k t := by cases t <;> simp [tellT, tellT1_eq, tellTs_eq]

theorem goal_condT {c : Operand} {x y : Code} {k : List It} (hv : evalO σ c = .one (.bool true)) (h : goal X N np K (.cod x k) σ) : goal X N np K (.cod (.cond c x y) k) σ :=
  goal_cond hv (fun _ => h) (fun h0 => by cases h0)
theorem goal_condF {c : Operand} {x y : Code} {k : List It} (hv : evalO σ c = .one (.bool false)) (h : goal X N np K (.cod y k) σ) : goal X N np K (.cod (.cond c x y) k) σ :=
  goal_cond hv (fun h0 => by cases h0) (fun _ => h)

/-- What is returned, told in full. -/
def finC (L : List (Nat × TI)) (fn : Func) (np : Nat) (ks : List Nat) (d : Nat) (σ : State) : Option (T × List (Option AObj)) :=
  match nodupB (rangeL 0 np ks), resT L fn σ with
  | true, some t => tellT (reT (fun id => idxOf (rangeL 0 np ks) id 0) (fzAll (fun id => idxOf (rangeL 0 np ks) id 0) 0 σ.o) d t) fun r =>
      forceO (pickO (fzAll (fun id => idxOf (rangeL 0 np ks) id 0) 0 σ.o) d (rangeL 0 np ks)) fun o' => some (r, o')
  | _, _ => none

theorem fin_is {fn : Func} {Φ : Post} {r : T} {o' : List (Option AObj)} (ks : List Nat) (hc : finC X.L fn np ks 4 σ = some (r, o')) (h : Φ r o') : ∃ σ', Weak fn.ntmps np σ σ' ∧ Fin X fn np Φ σ' := by
  refine fin_now ?_
  unfold finC at hc
  split at hc
  · rename_i t hnd ht
    rw [tellT_eq, forceO_eq] at hc
    simp only [Option.some.injEq, Prod.mk.injEq] at hc
    obtain ⟨rfl, rfl⟩ := hc
    exact ⟨ks, 4, t, hnd, ht, h⟩
  · cases hc

/-- The same, a nil slice in tmp 't' taken as an own one. -/
theorem fin_adopt {fn : Func} {Φ : Post} {r : T} {o' : List (Option AObj)} (t j esz : Nat) (ks : List Nat) (hc : finC X.L fn np ks 4 (adoptS t j esz σ) = some (r, o')) (h : Φ r o') : ∃ σ', Weak fn.ntmps np σ σ' ∧ Fin X fn np Φ σ' := by
  obtain ⟨σ', hw, hf⟩ := fin_is ks hc h
  exact ⟨σ', Weak.trans (Weak.adopt t j esz) hw, hf⟩

/-- An object is told otherwise: its memory is as it was. -/
theorem Rel.reObj (H : Rel N np G D e σ a w) {id : Nat} {ob ob' : AObj} (hid : σ.o[id]? = some (some ob)) (hes : ob'.esz = ob.esz) (hfz : ob'.fz = ob.fz)
    (hr : ∀ aa cap n, ObjR D w.heap e ob aa cap n → ObjR D w.heap e ob' aa cap n) : Rel N np G D e ⟨σ.ρ, σ.o.set id (some ob'), σ.k⟩ a w := by
  have hidlt := lt_of_some hid
  refine ⟨H.hnp, by simpa using H.nple, H.ext, H.defers, H.size, H.tmps, ⟨by simpa using H.sr.len, ?_, ?_, H.sr.sep, H.sr.dom⟩, H.new, H.old, H.keep⟩
  · intro id' ob1 hid'
    rw [getElem?_set_ite] at hid'
    by_cases hii : id = id'
    · subst hii
      simp [hidlt] at hid'
      subst hid'
      obtain ⟨aa, cap, n, he, hob⟩ := H.sr.objs id ob hid
      exact ⟨aa, cap, n, by rw [hes]; exact he, hr aa cap n hob⟩
    · rw [if_neg hii] at hid'
      exact H.sr.objs id' ob1 hid'
  · intro id' b esz cap n he
    obtain ⟨h1, h2⟩ := H.sr.own id' b _ _ _ he
    refine ⟨h1, fun hD => ?_⟩
    obtain ⟨ob1, ho1, hf1⟩ := h2 hD
    by_cases hii : id = id'
    · subst hii
      rw [hid] at ho1; simp at ho1; subst ho1
      exact ⟨ob', by rw [getElem?_set_ite]; simp [hidlt], by rw [hfz]; exact hf1⟩
    · exact ⟨ob1, by rw [getElem?_set_ite, if_neg hii]; exact ho1, hf1⟩

/-- A nil slice in cell 'j' of the variable 'id' becomes an own object that is empty. -/
def adoptO (id j esz : Nat) (σ : State) : State := match σ with
  | ⟨ρ, o, κ⟩ => match nth o id with
    | some (some ⟨es, [row], false, fz, bx⟩) => ⟨ρ, setNth (snocO o ⟨esz, [], true, false, false⟩) id (some ⟨es, [adoptAt o.length j row], false, fz, bx⟩), κ⟩
    | _ => ⟨ρ, o, κ⟩
theorem Weak.adoptO (id j esz : Nat) : Weak N np σ (adoptO id j esz σ) := fun {G D e a w} H => by
  cases σ with
  | mk ρ o κ =>
  unfold Go.Proofs.Ytkjbjgndinjdpaa.adoptO
  simp only
  split
  · rename_i es row fz bx hn
    rw [nth_eq] at hn
    have h1 := H.newEmpty (ob := ⟨esz, [], true, false, false⟩) rfl
    have hlast : (e ++ [ALoc.live none esz 0 0])[o.length]? = some (.live none esz 0 0) := by
      have := H.sr.len; simp only at this; rw [← this]; exact getElem?_last _ _
    have hid' : (o ++ [some ⟨esz, [], true, false, false⟩])[id]? = some (some ⟨es, [row], false, fz, bx⟩) := by
      rw [List.getElem?_append_left (lt_of_some hn)]; exact hn
    refine ⟨D, e ++ [.live none esz 0 0], ?_⟩
    rw [setNth_eq, snocO_eq]
    refine h1.reObj hid' rfl rfl ?_
    rintro aa cap n ⟨q1, q2, q3⟩
    refine ⟨q1, by simp, ?_⟩
    cases aa with
    | none => simp at q3
    | some b =>
      obtain ⟨z1, z2, cells, t, z3, z4, z5, z6⟩ := q3
      refine ⟨z1, z2, cells, t, z3, z4, z5, ?_⟩
      simp only [CRr] at z6 ⊢
      exact ⟨by rw [adoptAt_length]; exact z6.1, adoptAt_CR hlast z6.2.1, trivial⟩
  · exact ⟨D, e, H⟩

theorem fin_weak {fn : Func} {Φ : Post} {σ' : State} (hw : Weak fn.ntmps np σ σ') (h : ∃ σ'', Weak fn.ntmps np σ' σ'' ∧ Fin X fn np Φ σ'') : ∃ σ', Weak fn.ntmps np σ σ' ∧ Fin X fn np Φ σ' := by
  obtain ⟨σ2, hw2, hf⟩ := h
  exact ⟨σ2, Weak.trans hw hw2, hf⟩

def rowB (b : UInt8) : List C := [.int .u8 b.toNat]

theorem bytes_cells {h : Array Obj} : ∀ {s : Str} {vs : List Value}, vs.length = (s.map rowB).length * 1 → CRr D h e 1 (s.map rowB) vs → vs = (s.map fun b => (b.toNat : Int)).map (Value.int .u8)
  | [], vs, hl, _ => by simp at hl; subst hl; rfl
  | b :: s, [], hl, _ => by simp at hl
  | b :: s, v :: vs, hl, H => by
    simp only [List.map_cons, CRr, rowB, CRp, CR, List.drop_succ_cons, List.drop_zero] at H
    obtain ⟨_, ⟨rfl, _⟩, h2⟩ := H
    rw [bytes_cells (by simpa using hl) h2]
    simp

theorem foldl_push : ∀ (s : Str) (r : ByteArray), (s.map fun b => (b.toNat : Int)).foldl (fun r n => r.push (UInt8.ofNat n.toNat)) r = ⟨(r.data.toList ++ s).toArray⟩
  | [], r => by cases r; simp
  | b :: s, r => by
    simp only [List.map_cons, List.foldl_cons]
    rw [foldl_push s]
    apply ByteArray.ext
    apply Array.ext'
    simp

/-- string(bs), bs bytes. -/
theorem dA_ofBytes {o : Oper} {x : Operand} {t t2 : TypeId} (s : Str) {rows : List (List C)} {ti ti2 te : TI}
    (hx : Src σ (evalO σ x) rows) (ho : o.op = .convert t t2 x) (hti : findTI X.L t = some ti) (hk : ti.kind = 2) (hte : findTI X.L ti.elem = some te) (hkt : te.kind = 4) (hik : te.ik = .u8) (hti2 : findTI X.L t2 = some ti2) (hk2 : ti2.kind = 1)
    (hd : dstB N o.dst = true) (hrows : rows = s.map rowB) : DidA X N np o (.e none) σ (putS o.dst (.one (.str s)) σ) := fun {G D e a w} H => by
  have hu := (X.tiok hti).slice hk
  have hu2 := (X.tiok hti2).string hk2
  have hue := (X.tiok hte).int hkt
  rw [hik] at hue
  obtain ⟨A, c, news, hxv, hnl, hnr, hnf⟩ := Src.cells (X := X) H hx (size := 1) (by intro r hr; rw [hrows] at hr; obtain ⟨b, _, rfl⟩ := List.mem_map.1 hr; rfl) (by omega)
  have hlen : rows.length = s.length := by rw [hrows]; simp
  subst hrows
  have hnews := bytes_cells hnl hnr
  refine ⟨D, e, _, .string ⟨s.toArray⟩, w, ?_, .inl rfl, H.putv (x := .one (.str s)) (by simp only [TR, CR]) (putS_eq hd), Pres.refl _ _ _ _⟩
  have hf := hnf w rfl
  rw [hxv] at hf
  have hr : (Conv.bytesToString (a.eval x)).run X.P w = .ok (.string ⟨s.toArray⟩) w := by
    rw [hxv]
    cases A with
    | none =>
      simp only [Builtin.firstCells, Sem.run_pure, Result.ok.injEq, and_true] at hf
      have h0 : news = [] := by
        have := congrArg Array.toList hf
        simpa using this.symm
      have hs : s = [] := by
        apply List.eq_nil_of_length_eq_zero
        rw [h0] at hnl
        simpa using hnl.symm
      subst hs
      rfl
    | some ad =>
      simp only [Builtin.firstCells, Nat.mul_one] at hf
      rw [hnews] at hf
      rw [run_bytesToString w ad _ c _ hf, foldl_push]
      rfl
  simp only [execOp, ho, Go.convert, Sem.run_bind, run_underlying hu, run_underlying hu2, Result.andThen_ok]
  simp only [hxv] at hr ⊢
  simp only [List.length_map] at hr
  simp [run_underlying hue, hr]
end
end Go.Proofs.Ytkjbjgndinjdpaa
