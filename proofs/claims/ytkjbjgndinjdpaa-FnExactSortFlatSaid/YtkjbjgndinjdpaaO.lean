/- Rules of single operations that ask for a proof: indices, elements, slices. -/
import Derived.Test.YtkjbjgndinjdpaaN
set_option linter.unusedVariables false
set_option linter.unusedSimpArgs false
namespace Go.Proofs.Ytkjbjgndinjdpaa
open Go
section
variable {X : Pk} {N np : Nat} {K : KP} {σ σ' : State} {ops : Array Oper} {i : Nat} {rest : List Nat} {k : List It} {dst : Option Nat} {ty : TypeId} {pos : String} {aft : Array Edge} {g : Option (Nat × Bool)}


/-- From whatever memory: the operation does what 'σ'' tells. -/
def DidA (X : Pk) (N np : Nat) (o : Oper) (kd : Kd) (σ σ' : State) : Prop :=
  ∀ {G : Ctx} {D : Nat → Prop} {e : List ALoc} {a : Act} {w : World}, Rel N np G D e σ a w → Did X N np G D e o a w kd σ σ'

theorem goal_did {kd : Kd} {o : Oper} (ho : nthA ops i = some o) (hg : guardOf N ops o.guard σ = .go) (hd : DidA X N np o kd σ σ') (h : goal X N np K (.ops ops rest k) σ') : goal X N np K (.ops ops (i :: rest) k) σ := by
  rw [nthA_eq] at ho
  exact AOps_did ho (fun H => (guardOf_spec H (ops := ops)).1 hg) hd h

theorem dA_step {o : Oper} (hp : stepOp X.L N o.dst o.op σ = some σ') : DidA X N np o (kindOf o.op σ) σ σ' := fun H => did_step H hp

theorem run_indexAt {P : Program} {t s : Nat} {ti te : TI} (hti : TIok P t ti) (hk : ti.kind = 2) (hte : TIok P ti.elem te) (hs : te.size = s) {ad : Addr} {l c : Nat} {kk : IntKind} {n : Int} (h0 : 0 ≤ n) (h1 : n < l) (w : World) :
    (Instr.indexAt t (.slice (some ad) l c) (.int kk n)).run P w = .ok (.pointer (some (ad.add (n.toNat * s)))) w := by
  have hu := hti.slice hk
  have hz := hte.sizeOf w
  rw [hs] at hz
  simp [Instr.indexAt, asIntOf, run_underlying hu, h0, h1, hz]

/-- xs[n], xs data. -/
theorem dA_index {o : Oper} {t : TypeId} {x ix : Operand} {xs : List (List C)} {kk : IntKind} {n : Int} (row : List C) {ti te : TI}
    (ho : o.op = .indexAddr t x ix) (hti : findTI X.L t = some ti) (hk : ti.kind = 2) (hte : findTI X.L ti.elem = some te)
    (hx : evalO σ x = .one (.fs xs)) (hi : evalO σ ix = .one (.int kk n)) (hd : dstB N o.dst = true)
    (h0 : 0 ≤ n) (h1 : n < xs.length) (hrow : xs[n.toNat]? = some row) (hl : row.length = te.size) : DidA X N np o (.q none) σ (putS o.dst (.one (.fp row)) σ) := fun {G D e a w} H => by
  have hx' := H.ev x
  rw [hx] at hx'
  simp only [TR, CR] at hx'
  obtain ⟨A, c, hxv, hlc, hr⟩ := hx'
  have hiv := one_int (hi ▸ H.ev ix)
  rcases hr with hr | ⟨ad, cells, tt, fr, esz, rfl, hs, hD, hh, hr⟩
  · subst hr; simp at h1; omega
  · have hrr := CRr.get hr hrow
    have hes : te.size = esz := by rw [← hrr.1, hl]
    refine Did.pure H (v := .pointer (some (ad.add (n.toNat * esz)))) (fun w _ => ?_) ?_ (putS_eq hd)
    · simp only [execOp, ho, hxv, hiv, Sem.run_bind, run_indexAt (X.tiok hti) hk (X.tiok hte) hes h0 h1, Result.andThen_ok, Sem.run_pure]
    · simp only [TR, CR, add_eq ad _ hs]
      refine ⟨_, cells, tt, fr, rfl, rfl, hD, hh, ?_⟩
      have := hrr.2
      rw [List.drop_drop] at this
      exact this

/-- xs[n], xs an own object's. -/
theorem dA_indexOwn {o : Oper} {t : TypeId} {x ix : Operand} {id off len kc : Nat} {kk : IntKind} {n : Int} {ob : AObj} {ti te : TI}
    (ho : o.op = .indexAddr t x ix) (hti : findTI X.L t = some ti) (hk : ti.kind = 2) (hte : findTI X.L ti.elem = some te)
    (hx : evalO σ x = .one (.os id off len kc)) (hi : evalO σ ix = .one (.int kk n)) (hob : getObj? σ id = some ob) (hes : ob.esz = te.size) (hd : dstB N o.dst = true)
    (h0 : 0 ≤ n) (h1 : n < len) : DidA X N np o (.q none) σ (putS o.dst (.one (.op id (off + n.toNat) 0)) σ) := fun {G D e a w} H => by
  obtain ⟨aa, cap, nn, he, hobr⟩ := H.sr.objs id ob (getObj?_eq hob)
  have hx' := H.ev x
  rw [hx] at hx'
  simp only [TR, CR, he] at hx'
  obtain ⟨A, c, hxv, h2, h3, h4, hr⟩ := hx'
  have hiv := one_int (hi ▸ H.ev ix)
  rcases hr with hr | ⟨b, rfl, rfl, h5⟩
  · omega
  · refine Did.pure H (v := .pointer (some ⟨b.block, b.off + off * ob.esz + n.toNat * ob.esz, none⟩)) (fun w _ => ?_) ?_ (putS_eq hd)
    · simp only [execOp, ho, hxv, hiv, Sem.run_bind, run_indexAt (X.tiok hti) hk (X.tiok hte) rfl h0 h1, Result.andThen_ok, Sem.run_pure]
      rw [add_eq _ _ rfl, hes]
    · simp only [TR, CR, he]
      refine ⟨b, rfl, ?_⟩
      rw [Nat.add_mul, Nat.add_zero, Nat.add_assoc]

/-- A load from an element of an own object. -/
theorem dA_loadEl {o : Oper} {t : TypeId} {x : Operand} {id j off : Nat} {ob : AObj} (row : List C) {y : T} {ti : TI}
    (ho : o.op = .load t x) (hti : findTI X.L t = some ti)
    (hx : evalO σ x = .one (.op id j off)) (hob : getObj? σ id = some ob) (hrow : ob.elems[j]? = some row) (h0 : Nat.blt 0 ti.size = true) (hy : takeF ti.size (row.drop off) (mkT ti.agg) = some y) (hd : dstB N o.dst = true) :
    DidA X N np o (.q (some id)) σ (putS o.dst y σ) := fun {G D e a w} H => by
  obtain ⟨b, cap, cells, tt, he, hxv, hs, hh, hcap, hsz, hr, hrl, hrr⟩ := H.own_ptr hx (getObj?_eq hob) hrow
  rw [takeF_eq] at hy
  split at hy
  · rename_i hle
    refine did_loadAt ho H hti hxv rfl hh (fun w' hw => hw.2 id rfl b _ _ _ he) (cs := row.drop off) ?_ hle (by simpa [Nat.blt_eq] using h0) ?_
    · have := CRp.drop off hrr
      rw [List.drop_drop] at this
      exact this
    · simp only [mkPut, hy]; exact putS_eq hd
  · cases hy

def setO (σ : State) (id : Nat) (ob : AObj) : State := match σ with
  | ⟨ρ, o, κ⟩ => ⟨ρ, setNth o id (some ob), κ⟩

/-- A store into an element of an own object. -/
theorem dA_storeEl {o : Oper} {t : TypeId} {x y : Operand} {id j off : Nat} {esz : Nat} {elems : List (List C)} {cl bx : Bool} (row : List C) {cs : List C} (elems' : List (List C)) (cl' : Bool) {ti : TI}
    (ho : o.op = .store t x y) (hdst : o.dst = none) (hti : findTI X.L t = some ti)
    (hx : evalO σ x = .one (.op id j off)) (hob : getObj? σ id = some ⟨esz, elems, cl, false, bx⟩) (hrow : elems[j]? = some row) (hc : cellsT (evalO σ y) = some cs) (hs : cs.length = ti.size) (hoff : off + cs.length ≤ row.length)
    (hel : elems' = elems.set j (patch row off cs)) (hcl : cl' = true → noOwnR elems' = true) :
    DidA X N np o (.e (some id)) σ (setO σ id ⟨esz, elems', cl', false, bx⟩) := fun {G D e a w} H => by
  have := did_storeAt (cl' := cl') ho hdst H hti hx (getObj?_eq hob) rfl hrow hc hs hoff hel hcl
  cases σ
  simpa only [setO, setNth_eq] using this

/-- s[n], s a string. -/
theorem dA_strIndex {o : Oper} {t : TypeId} {x ix : Operand} {s : Str} {kk : IntKind} {n : Int} (c : UInt8) {ti : TI}
    (ho : o.op = .index t x ix) (hti : findTI X.L t = some ti) (hk : ti.kind = 1) (hx : evalO σ x = .one (.str s)) (hi : evalO σ ix = .one (.int kk n)) (hd : dstB N o.dst = true)
    (h0 : 0 ≤ n) (hc : s[n.toNat]? = some c) : DidA X N np o (.q none) σ (putS o.dst (.one (.int .u8 c.toNat)) σ) := fun {G D e a w} H => by
  have hxv := one_str (hx ▸ H.ev x)
  have hiv := one_int (hi ▸ H.ev ix)
  have hu := (X.tiok hti).string hk
  have hc' : (⟨s.toArray⟩ : ByteArray)[n.toNat]? = some c := by
    have hlt := lt_of_some hc
    rw [List.getElem?_eq_getElem hlt] at hc
    simp only [Option.some.injEq] at hc
    rw [getElem?_pos (⟨s.toArray⟩ : ByteArray) n.toNat (by simpa [ByteArray.size] using hlt)]
    rw [← hc]; rfl
  refine Did.pure H (v := .int .u8 c.toNat) (fun w _ => ?_) (by simp only [TR, CR]) (putS_eq hd)
  simp [execOp, ho, hxv, hiv, Instr.index, asIntOf, run_underlying hu, h0, hc']
end
end Go.Proofs.Ytkjbjgndinjdpaa
