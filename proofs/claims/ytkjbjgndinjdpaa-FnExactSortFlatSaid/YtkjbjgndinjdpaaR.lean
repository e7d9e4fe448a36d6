/- Objects that are given up, objects in a known block; slices of slices; append. -/
import Derived.Test.YtkjbjgndinjdpaaQ
set_option linter.unusedVariables false
set_option linter.unusedSimpArgs false
namespace Go.Proofs.Ytkjbjgndinjdpaa
open Go
section
variable {X : Pk} {N np : Nat} {G : Ctx} {D : Nat → Prop} {e : List ALoc} {σ σ' : State} {a : Act} {w : World}

theorem getElem?_set_ite {α : Type} (l : List α) (i j : Nat) (x : α) : (l.set i x)[j]? = if i = j then (if i < l.length then some x else none) else l[j]? := by
  rw [List.getElem?_set]

/-- An object is given up. -/
theorem Rel.kill (H : Rel N np G D e σ a w) {id : Nat} (hge : np ≤ id) (hnf : ∀ ob, σ.o[id]? = some (some ob) → ob.fz = false) : Rel N np G D (e.set id .dead) ⟨σ.ρ, σ.o.set id none, σ.k⟩ a w := by
  have hle : Leads e (e.set id .dead) := by
    intro id' l hl
    rw [getElem?_set_ite]
    by_cases h : id = id'
    · subst h; right; simp [lt_of_some hl]
    · left; simp [h, hl]
  have hlive : ∀ (id' : Nat) (b : Addr) (esz cap n : Nat), (e.set id .dead)[id']? = some (.live (some b) esz cap n) → id ≠ id' ∧ e[id']? = some (.live (some b) esz cap n) := by
    intro id' b esz cap n he
    rw [getElem?_set_ite] at he
    by_cases h : id = id'
    · rw [if_pos h] at he; split at he <;> simp at he
    · rw [if_neg h] at he; exact ⟨h, he⟩
  refine ⟨H.hnp, by simpa using H.nple, H.ext, H.defers, H.size, fun t => TR.mono (Fixes.refl _ _) hle _ _ (H.tmps t), ⟨by simpa using H.sr.len, ?_, ?_, ?_, H.sr.dom⟩, ?_, H.old, ?_⟩
  · intro id' ob hid
    rw [getElem?_set_ite] at hid
    by_cases h : id = id'
    · rw [if_pos h] at hid; split at hid <;> simp at hid
    · rw [if_neg h] at hid
      obtain ⟨aa, cap, n, he, hn, hc, hrest⟩ := H.sr.objs id' ob hid
      refine ⟨aa, cap, n, by rw [getElem?_set_ite, if_neg h]; exact he, hn, hc, ?_⟩
      cases aa with
      | none => exact hrest
      | some b =>
        obtain ⟨q1, q2, cells, t, q3, q4, q5, q6⟩ := hrest
        exact ⟨q1, q2, cells, t, q3, q4, q5, CRr.mono (Fixes.refl _ _) _ _ hle _ _ _ q6⟩
  · intro id' b esz cap n he
    obtain ⟨h, he'⟩ := hlive id' b esz cap n he
    obtain ⟨h1, h2⟩ := H.sr.own id' b _ _ _ he'
    refine ⟨h1, fun hD => ?_⟩
    obtain ⟨ob, ho, hf⟩ := h2 hD
    exact ⟨ob, by rw [getElem?_set_ite, if_neg h]; exact ho, hf⟩
  · intro id1 id2 b b' esz cap n esz' cap' n' he he' hb
    exact H.sr.sep id1 id2 b b' _ _ _ _ _ _ (hlive _ _ _ _ _ he).2 (hlive _ _ _ _ _ he').2 hb
  · intro id' b esz cap n he
    exact H.new id' b _ _ _ (hlive id' b esz cap n he).2
  · intro id' hid
    rw [getElem?_set_ite, if_neg (by omega)]
    exact H.keep id' hid

/-- An empty object that has no memory. -/
theorem Rel.newEmpty (H : Rel N np G D e σ a w) {ob : AObj} (hel : ob.elems = []) : Rel N np G D (e ++ [.live none ob.esz 0 0]) ⟨σ.ρ, σ.o ++ [some ob], σ.k⟩ a w := by
  have hle := leads_app e [ALoc.live none ob.esz 0 0]
  have hlive : ∀ (id' : Nat) (b : Addr) (esz cap n : Nat), (e ++ [.live none ob.esz 0 0])[id']? = some (.live (some b) esz cap n) → e[id']? = some (.live (some b) esz cap n) := by
    intro id' b esz cap n he
    rw [getElem?_app_one] at he
    split at he
    · exact he
    · split at he <;> simp at he
  refine ⟨H.hnp, by have := H.nple; simp; omega, H.ext, H.defers, H.size, fun t => TR.mono (Fixes.refl _ _) hle _ _ (H.tmps t), ⟨by simp [H.sr.len], ?_, ?_, ?_, H.sr.dom⟩, ?_, H.old, ?_⟩
  · intro id' ob' hid
    simp only [getElem?_app_one] at hid ⊢
    split at hid
    · rename_i hlt
      obtain ⟨aa, cap, n, he, hn, hc, hrest⟩ := H.sr.objs id' ob' hid
      refine ⟨aa, cap, n, by rw [if_pos (by rw [H.sr.len]; exact hlt)]; exact he, hn, hc, ?_⟩
      cases aa with
      | none => exact hrest
      | some b =>
        obtain ⟨q1, q2, cells, t, q3, q4, q5, q6⟩ := hrest
        exact ⟨q1, q2, cells, t, q3, q4, q5, CRr.mono (Fixes.refl _ _) _ _ hle _ _ _ q6⟩
    · split at hid
      · rename_i heq
        simp at hid; subst hid
        exact ⟨none, 0, 0, by rw [if_neg (by rw [H.sr.len]; omega), if_pos (by rw [H.sr.len]; omega)], by rw [hel]; rfl, by rw [hel]; simp [noOwnR], hel, rfl⟩
      · cases hid
  · intro id' b esz cap n he
    have he' := hlive id' b esz cap n he
    obtain ⟨h1, h2⟩ := H.sr.own id' b _ _ _ he'
    refine ⟨h1, fun hD => ?_⟩
    obtain ⟨ob', ho, hf⟩ := h2 hD
    exact ⟨ob', by rw [getElem?_app_one, if_pos (lt_of_some ho)]; exact ho, hf⟩
  · intro id1 id2 b b' esz cap n esz' cap' n' he he' hb
    exact H.sr.sep id1 id2 b b' _ _ _ _ _ _ (hlive _ _ _ _ _ he) (hlive _ _ _ _ _ he') hb
  · intro id' b esz cap n he
    exact H.new id' b _ _ _ (hlive id' b esz cap n he)
  · intro id' hid
    have := H.nple
    rw [getElem?_app_one, if_pos (by rw [H.sr.len]; omega)]
    exact H.keep id' hid

/-- An object in a block that nobody owns any more; its cells are written. -/
theorem Rel.newObjIn (H : Rel N np G D e σ a w) {g : Nat} {off cap : Nat} {cells cells' : Array Value} {t : TypeId} {ob : AObj} (hh : w.heap[g]? = some (.cells cells t (0, 0))) (hD : ¬ D g)
    (hfree : ∀ (id : Nat) (b : Addr) (esz c n : Nat), e[id]? = some (.live (some b) esz c n) → b.block ≠ g) (hg : G.w0.heap.size ≤ g)
    (hf : ob.fz = false) (hcl : ob.clean = true → noOwnR ob.elems = true) (hcap : ob.elems.length ≤ cap) (hcs : cells'.size = cells.size) (hs : off + cap * ob.esz ≤ cells.size)
    (hr : CRr D w.heap e ob.esz ob.elems (cells'.toList.drop off)) :
    Rel N np G D (e ++ [.live (some ⟨g, off, none⟩) ob.esz cap ob.elems.length]) ⟨σ.ρ, σ.o ++ [some ob], σ.k⟩ a (w.setRow g cells') := by
  have hfx : Fixes D D w.heap (w.setRow g cells').heap := fun b hb => ⟨hb, setRow_other w _ _ _ (fun h => hD (h ▸ hb))⟩
  have hle := leads_app e [.live (some ⟨g, off, none⟩) ob.esz cap ob.elems.length]
  have hglt : g < w.heap.size := (Array.getElem?_eq_some_iff.1 hh).1
  refine ⟨H.hnp, by have := H.nple; simp; omega, ⟨H.ext.os, H.ext.tape, H.ext.output, by rw [setRow_size]; exact H.ext.size, fun b hb hw => ?_⟩, H.defers, H.size,
    fun t => TR.mono hfx hle _ _ (H.tmps t), ⟨by simp [H.sr.len], ?_, ?_, ?_, fun b hb => by rw [setRow_size]; exact H.sr.dom b hb⟩, ?_, H.old, ?_⟩
  · rw [setRow_other _ _ _ _ (by omega)]; exact H.ext.block b hb hw
  · intro id ob' hid
    simp only [getElem?_app_one] at hid ⊢
    split at hid
    · rename_i hlt
      obtain ⟨b, c, n, he, hn, hc, hrest⟩ := H.sr.objs id ob' hid
      refine ⟨b, c, n, by rw [if_pos (by rw [H.sr.len]; exact hlt)]; exact he, hn, hc, ?_⟩
      cases b with
      | none => exact hrest
      | some b =>
        obtain ⟨h1, h2, cs, t', h3, h4, h5, h6⟩ := hrest
        exact ⟨h1, h2, cs, t', by rw [setRow_other _ _ _ _ (hfree id b _ _ _ he)]; exact h3, h4, h5, CRr.mono hfx _ _ hle _ _ _ h6⟩
    · split at hid
      · rename_i heq
        simp at hid; subst hid
        exact ⟨some ⟨g, off, none⟩, cap, ob.elems.length, by rw [if_neg (by rw [H.sr.len]; omega), if_pos (by rw [H.sr.len]; omega)], rfl, hcl, rfl, by simp [hf], cells', t, setRow_heap w _ cells _ t _ hh, hcap, by rw [hcs]; exact hs,
          CRr.mono hfx _ _ hle _ _ _ hr⟩
      · cases hid
  · intro id b esz c n he
    simp only [getElem?_app_one] at he ⊢
    split at he
    · rename_i hlt
      obtain ⟨h1, h2⟩ := H.sr.own id b _ _ _ he
      refine ⟨by rw [setRow_size]; exact h1, fun hDb => ?_⟩
      rw [if_pos (by rw [← H.sr.len]; exact hlt)]
      exact h2 hDb
    · split at he
      · simp at he
        obtain ⟨rfl, _⟩ := he
        exact ⟨by rw [setRow_size]; exact hglt, fun hDb => absurd hDb hD⟩
      · cases he
  · intro id id' b b' esz c n esz' c' n' he he' hb
    simp only [getElem?_app_one] at he he'
    split at he <;> split at he'
    · exact H.sr.sep id id' b b' _ _ _ _ _ _ he he' hb
    · split at he'
      · simp at he'
        obtain ⟨rfl, _⟩ := he'
        exact absurd hb (hfree id b _ _ _ he)
      · cases he'
    · split at he
      · simp at he
        obtain ⟨rfl, _⟩ := he
        exact absurd hb.symm (hfree id' b' _ _ _ he')
      · cases he
    · split at he
      · split at he'
        · omega
        · cases he'
      · cases he
  · intro id b esz c n he
    simp only [getElem?_app_one] at he
    split at he
    · exact H.new id b _ _ _ he
    · split at he
      · simp at he
        obtain ⟨rfl, _⟩ := he
        exact .inr hg
      · cases he
  · intro id hid
    have h1 := H.nple
    rw [getElem?_app_one, if_pos (by rw [H.sr.len]; omega)]
    exact H.keep id hid
end

/-! ### Slices of slices -/
def Bnd (σ : State) (o : Option Operand) (dflt n : Nat) : Prop := match o with
  | none => n = dflt
  | some x => ∃ kk z, evalO σ x = .one (.int kk z) ∧ z = (n : Int)
theorem Bnd.none_ {σ : State} {n : Nat} : Bnd σ none n n := rfl
theorem Bnd.some_ {σ : State} {x : Operand} {d n : Nat} {kk : IntKind} {z : Int} (h : evalO σ x = .one (.int kk z)) (hz : z = (n : Int)) : Bnd σ (some x) d n := ⟨kk, z, h, hz⟩

section
variable {X : Pk} {N np : Nat} {G : Ctx} {D : Nat → Prop} {e : List ALoc} {σ σ' : State} {a : Act} {w : World}

theorem run_sliceBound {P : Program} {kk : IntKind} {n y : Nat} (h : n ≤ y) (code : BoundsCode) (w : World) : (Instr.sliceBound (.int kk (n : Int)) y code).run P w = .ok n w := by
  have h1 : (n : Int) ≤ y := by omega
  simp [Instr.sliceBound, asIntOf, h]

theorem run_sliceBounds {P : Program} (isSlice : Bool) {len cap L Hh M : Nat} {lo hi mx : Option Value} (hlo : (lo = none ∧ L = 0) ∨ ∃ kk, lo = some (.int kk (L : Int))) (hhi : (hi = none ∧ Hh = len ∧ mx = none) ∨ ∃ kk, hi = some (.int kk (Hh : Int)))
    (hmx : (mx = none ∧ M = cap) ∨ ∃ kk, mx = some (.int kk (M : Int))) (h1 : L ≤ Hh) (h2 : Hh ≤ M) (h3 : M ≤ cap) (w : World) : (Instr.sliceBounds isSlice len cap lo hi mx).run P w = .ok (L, Hh, M) w := by
  have q1 := fun code w => run_sliceBound (P := P) (kk := .i64) h1 code w
  rcases hmx with ⟨rfl, rfl⟩ | ⟨k3, rfl⟩
  · rcases hhi with ⟨rfl, rfl, _⟩ | ⟨k2, rfl⟩
    · rcases hlo with ⟨rfl, rfl⟩ | ⟨k1, rfl⟩
      · simp [Instr.sliceBounds]
      · simp [Instr.sliceBounds, run_sliceBound h1]
    · rcases hlo with ⟨rfl, rfl⟩ | ⟨k1, rfl⟩
      · simp [Instr.sliceBounds, run_sliceBound h2]
      · simp [Instr.sliceBounds, run_sliceBound h1, run_sliceBound h2]
  · rcases hhi with ⟨rfl, rfl, hm⟩ | ⟨k2, rfl⟩
    · cases hm
    · rcases hlo with ⟨rfl, rfl⟩ | ⟨k1, rfl⟩
      · simp [Instr.sliceBounds, run_sliceBound h2, run_sliceBound h3]
      · simp [Instr.sliceBounds, run_sliceBound h1, run_sliceBound h2, run_sliceBound h3]

theorem Bnd.val (H : Rel N np G D e σ a w) {o : Option Operand} {d n : Nat} (h : Bnd σ o d n) : (o.map a.eval = none ∧ n = d ∧ o = none) ∨ ∃ kk, o.map a.eval = some (.int kk (n : Int)) := by
  cases o with
  | none => exact .inl ⟨rfl, h, rfl⟩
  | some x =>
    obtain ⟨kk, z, h1, rfl⟩ := h
    exact .inr ⟨kk, by simp [one_int (h1 ▸ H.ev x)]⟩

theorem run_slice_slice {P : Program} {t s : Nat} {ti te : TI} (hti : TIok P t ti) (hk : ti.kind = 2) (hte : TIok P ti.elem te) (hs : te.size = s) {A : Option Addr} {len cap L Hh M : Nat} {lo hi mx : Option Value}
    (hb : ∀ w, (Instr.sliceBounds true len cap lo hi mx).run P w = .ok (L, Hh, M) w) (w : World) :
    (Instr.sliceAt t (.slice A len cap) lo hi mx).run P w = .ok (.slice (if M = L then A else A.map (·.add (L * s))) (Hh - L) (M - L)) w := by
  have hu := hti.slice hk
  have hz := hte.sizeOf w
  rw [hs] at hz
  simp [Instr.sliceAt, Instr.slice, run_underlying hu, hb, hz]

/-- xs[L:H], xs data. -/
theorem dA_slice {o : Oper} {t : TypeId} {x : Operand} {lo hi : Option Operand} {xs : List (List C)} (L Hh : Nat) (ys : List (List C)) {ti te : TI}
    (ho : o.op = .slice t x lo hi none) (hti : findTI X.L t = some ti) (hk : ti.kind = 2) (hte : findTI X.L ti.elem = some te) (hx : evalO σ x = .one (.fs xs)) (hlo : Bnd σ lo 0 L) (hhi : Bnd σ hi xs.length Hh)
    (hrl : ∀ r ∈ xs, r.length = te.size) (h1 : L ≤ Hh) (h2 : Hh ≤ xs.length) (hd : dstB N o.dst = true) (hys : ys = (xs.drop L).take (Hh - L)) : DidA X N np o (.q none) σ (putS o.dst (.one (.fs ys)) σ) := fun {G D e a w} H => by
  subst hys
  have hx' := H.ev x
  rw [hx] at hx'
  simp only [TR, CR] at hx'
  obtain ⟨A, c, hxv, hlc, hr⟩ := hx'
  have hb : ∀ w, (Instr.sliceBounds true xs.length c (lo.map a.eval) (hi.map a.eval) none).run X.P w = .ok (L, Hh, c) w := fun w =>
    run_sliceBounds true (by rcases hlo.val H with ⟨h, h', _⟩ | h; · exact .inl ⟨h, h'⟩
                             · exact .inr h) (by rcases hhi.val H with ⟨h, h', _⟩ | h; · exact .inl ⟨h, h', rfl⟩
                                                 · exact .inr h) (.inl ⟨rfl, rfl⟩) h1 (by omega) (Nat.le_refl _) w
  refine Did.pure H (v := .slice (if c = L then A else A.map (·.add (L * te.size))) (Hh - L) (c - L)) (fun w _ => ?_) ?_ (putS_eq hd)
  · simp only [execOp, ho, hxv, Sem.run_bind, Option.map_none, run_slice_slice (X.tiok hti) hk (X.tiok hte) rfl hb, Result.andThen_ok, Sem.run_pure]
  · simp only [TR, CR]
    have hlen : ((xs.drop L).take (Hh - L)).length = Hh - L := by simp; omega
    refine ⟨_, c - L, by rw [hlen], by rw [hlen]; omega, ?_⟩
    by_cases hcL : c = L
    · left
      apply List.eq_nil_of_length_eq_zero
      simp; omega
    · rw [if_neg hcL]
      rcases hr with hr | ⟨ad, cells, tt, fr, esz, rfl, hs, hD, hh, hr⟩
      · left; subst hr; simp
      · rcases Nat.eq_zero_or_pos xs.length with h0 | h0
        · left; have := List.eq_nil_of_length_eq_zero h0; subst this; simp
        · right
          have hes : esz = te.size := by
            obtain ⟨r, hr0⟩ : ∃ r, xs[0]? = some r := ⟨xs[0], by simp [h0]⟩
            rw [← (CRr.get hr hr0).1]; exact hrl r (List.mem_of_getElem? hr0)
          subst hes
          refine ⟨ad.add (L * te.size), cells, tt, fr, te.size, rfl, by rw [add_eq _ _ hs], by rw [add_eq _ _ hs]; exact hD, by rw [add_eq _ _ hs]; exact hh, ?_⟩
          rw [add_eq _ _ hs]
          have := CRr.take (Hh - L) (CRr.drop L hr)
          rw [List.drop_drop] at this
          exact this
end
end Go.Proofs.Ytkjbjgndinjdpaa
