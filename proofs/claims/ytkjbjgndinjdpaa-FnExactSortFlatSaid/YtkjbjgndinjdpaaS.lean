/- Slices of own objects, append. -/
import Derived.Test.YtkjbjgndinjdpaaR
set_option linter.unusedVariables false
set_option linter.unusedSimpArgs false
namespace Go.Proofs.Ytkjbjgndinjdpaa
open Go
section
variable {X : Pk} {N np : Nat} {G : Ctx} {D : Nat → Prop} {e : List ALoc} {σ σ' : State} {a : Act} {w : World}

/-- xs[L:H] and xs[L:H:M], xs an own object's. -/
theorem dA_sliceOwn {o : Oper} {t : TypeId} {x : Operand} {lo hi mx : Option Operand} {id off len kc : Nat} {ob : AObj} (L Hh M off' len' kc' : Nat) {ti te : TI}
    (ho : o.op = .slice t x lo hi mx) (hti : findTI X.L t = some ti) (hk : ti.kind = 2) (hte : findTI X.L ti.elem = some te) (hx : evalO σ x = .one (.os id off len kc)) (hob : getObj? σ id = some ob) (hes : ob.esz = te.size)
    (hlo : Bnd σ lo 0 L) (hhi : Bnd σ hi len Hh) (hmx : (mx = none ∧ M = kc) ∨ (mx ≠ none ∧ hi ≠ none ∧ Bnd σ mx 0 M)) (h1 : L ≤ Hh) (h2 : Hh ≤ M) (h3 : M ≤ kc) (h4 : off + Hh ≤ ob.elems.length) (hd : dstB N o.dst = true) (ho' : off' = off + L) (hl' : len' = Hh - L) (hk' : kc' = M - L) :
    DidA X N np o (.q none) σ (putS o.dst (.one (.os id off' len' kc')) σ) := fun {G D e a w} H => by
  subst ho' hl' hk'
  obtain ⟨aa, cap, nn, he, hobr⟩ := H.sr.objs id ob (getObj?_eq hob)
  have hnn := hobr.1
  have hx' := H.ev x
  rw [hx] at hx'
  simp only [TR, CR, he] at hx'
  obtain ⟨A, c, hxv, q2, q3, q4, hr⟩ := hx'
  -- the bound on the right: what is told, or the whole capacity
  obtain ⟨Mc, hMc, hM1, hM2⟩ : ∃ Mc, (∀ w, (Instr.sliceBounds true len c (lo.map a.eval) (hi.map a.eval) (mx.map a.eval)).run X.P w = .ok (L, Hh, Mc) w) ∧ M ≤ Mc ∧ Mc ≤ c := by
    have hlo' : (lo.map a.eval = none ∧ L = 0) ∨ ∃ kk, lo.map a.eval = some (.int kk (L : Int)) := by
      rcases hlo.val H with ⟨h, h', _⟩ | h
      · exact .inl ⟨h, h'⟩
      · exact .inr h
    rcases hmx with ⟨rfl, rfl⟩ | ⟨hm1, hm2, hm3⟩
    · refine ⟨c, fun w => run_sliceBounds true hlo' ?_ (.inl ⟨rfl, rfl⟩) h1 (by omega) (Nat.le_refl _) w, by omega, Nat.le_refl _⟩
      rcases hhi.val H with ⟨h, h', _⟩ | h
      · exact .inl ⟨h, h', rfl⟩
      · exact .inr h
    · refine ⟨M, fun w => run_sliceBounds true hlo' ?_ (.inr ?_) h1 h2 (by omega) w, Nat.le_refl _, by omega⟩
      · rcases hhi.val H with ⟨_, _, h⟩ | h
        · exact absurd h hm2
        · exact .inr h
      · rcases hm3.val H with ⟨_, _, h⟩ | h
        · exact absurd h hm1
        · exact h
  refine Did.pure H (v := .slice (if Mc = L then A else A.map (·.add (L * te.size))) (Hh - L) (Mc - L)) (fun w _ => ?_) ?_ (putS_eq hd)
  · simp only [execOp, ho, hxv, Sem.run_bind, run_slice_slice (X.tiok hti) hk (X.tiok hte) rfl hMc, Result.andThen_ok, Sem.run_pure]
  · simp only [TR, CR, he]
    refine ⟨_, Mc - L, rfl, by omega, by omega, by omega, ?_⟩
    by_cases hML : Mc = L
    · left; omega
    · rw [if_neg hML]
      rcases hr with hr | ⟨b, rfl, rfl, h5⟩
      · omega
      · right
        refine ⟨b, rfl, ?_, by omega⟩
        simp only [Option.map_some, add_eq (⟨b.block, b.off + off * ob.esz, none⟩ : Addr) _ rfl, Option.some.injEq, Addr.mk.injEq, true_and, and_true]
        rw [← hes, Nat.add_mul, Nat.add_assoc]

/-- s[L:H], s a string. -/
theorem dA_strSlice {o : Oper} {t : TypeId} {x : Operand} {lo hi : Option Operand} {s : Str} (L Hh : Nat) (r : Str) {ti : TI}
    (ho : o.op = .slice t x lo hi none) (hti : findTI X.L t = some ti) (hk : ti.kind = 1) (hx : evalO σ x = .one (.str s)) (hlo : Bnd σ lo 0 L) (hhi : Bnd σ hi s.length Hh)
    (h1 : L ≤ Hh) (h2 : Hh ≤ s.length) (hd : dstB N o.dst = true) (hr' : r = (s.drop L).take (Hh - L)) : DidA X N np o (.q none) σ (putS o.dst (.one (.str r)) σ) := fun {G D e a w} H => by
  subst hr'
  have hxv := one_str (hx ▸ H.ev x)
  have hu := (X.tiok hti).string hk
  have hsz : (⟨s.toArray⟩ : ByteArray).size = s.length := by simp [ByteArray.size]
  have hb : ∀ w, (Instr.sliceBounds false s.length s.length (lo.map a.eval) (hi.map a.eval) none).run X.P w = .ok (L, Hh, s.length) w := fun w =>
    run_sliceBounds false (by rcases hlo.val H with ⟨h, h', _⟩ | h; · exact .inl ⟨h, h'⟩
                              · exact .inr h) (by rcases hhi.val H with ⟨h, h', _⟩ | h; · exact .inl ⟨h, h', rfl⟩
                                                  · exact .inr h) (.inl ⟨rfl, rfl⟩) h1 h2 (Nat.le_refl _) w
  refine Did.pure H (v := .string ((⟨s.toArray⟩ : ByteArray).extract L Hh)) (fun w _ => ?_) ?_ (putS_eq hd)
  · simp [execOp, ho, hxv, Instr.sliceAt, Instr.slice, run_underlying hu, hsz, hb]
  · simp only [TR, CR, Value.string.injEq]
    apply ByteArray.ext
    rw [ByteArray.data_extract]
    apply Array.ext'
    simp only [Array.toList_extract, List.extract_eq_take_drop]

/-- What a slice that is appended, or copied, holds. -/
def Src (σ : State) (t : T) (rows : List (List C)) : Prop :=
  t = .one (.fs rows) ∨ (∃ id off len kc ob, t = .one (.os id off len kc) ∧ getObj? σ id = some ob ∧ off + len ≤ ob.elems.length ∧ rows = (ob.elems.drop off).take len) ∨ (t = .one nilSl ∧ rows = [])
theorem Src.fs {rows : List (List C)} {t : T} (h : t = .one (.fs rows)) : Src σ t rows := .inl h
theorem Src.os {t : T} {id off len kc : Nat} {ob : AObj} {rows : List (List C)} (h : t = .one (.os id off len kc)) (hob : getObj? σ id = some ob) (hl : off + len ≤ ob.elems.length) (hr : rows = (ob.elems.drop off).take len) : Src σ t rows :=
  .inr (.inl ⟨id, off, len, kc, ob, h, hob, hl, hr⟩)
theorem Src.nil {t : T} (h : t = .one nilSl) : Src σ t [] := .inr (.inr ⟨h, rfl⟩)

theorem CRr.oneCell {h : Array Obj} : ∀ {esz : Nat} {rs : List (List C)} {vs : List Value}, vs.length = rs.length * esz → CRr D h e esz rs vs → ∀ v ∈ vs, v.oneCell' = true
  | esz, [], vs, hl, _, v, hv => by simp at hl; subst hl; simp at hv
  | esz, r :: rs, vs, hl, H, v, hv => by
    simp only [CRr] at H
    simp only [List.length_cons, Nat.succ_mul] at hl
    rw [← List.take_append_drop esz vs] at hv
    rcases List.mem_append.1 hv with hv | hv
    · exact isCell_one (CRp.cell (by rw [List.length_take, H.1]; omega) (CRp.take' (by rw [H.1]; exact Nat.le_refl _) H.2.1) v hv)
    · exact CRr.oneCell (by rw [List.length_drop]; omega) H.2.2 v hv

/-- The cells that a source gives. -/
theorem Src.cells (H : Rel N np G D e σ a w) {y : Operand} {rows : List (List C)} (hs : Src σ (evalO σ y) rows) {size : Nat} (hrl : ∀ r ∈ rows, r.length = size) (h0 : 0 < size) :
    ∃ A c news, a.eval y = .slice A rows.length c ∧ news.length = rows.length * size ∧ CRr D w.heap e size rows news ∧
      ∀ w' : World, w'.heap = w.heap → (Builtin.firstCells size rows.length (a.eval y)).run X.P w' = .ok news.toArray w' := by
  have hy := H.ev y
  have key : ∀ (A : Option Addr) (c : Nat), a.eval y = .slice A rows.length c → (rows = [] ∨ ∃ ad cells t fr, A = some ad ∧ ad.spot = none ∧ w.heap[ad.block]? = some (.cells cells t fr) ∧ CRr D w.heap e size rows (cells.toList.drop ad.off)) →
      ∃ A c news, a.eval y = .slice A rows.length c ∧ news.length = rows.length * size ∧ CRr D w.heap e size rows news ∧
        ∀ w' : World, w'.heap = w.heap → (Builtin.firstCells size rows.length (a.eval y)).run X.P w' = .ok news.toArray w' := by
    intro A c hv hr
    rcases hr with hr | ⟨ad, cells, t, fr, rfl, hsp, hh, hr⟩
    · subst hr
      refine ⟨A, c, [], hv, by simp, by simp [CRr], fun w' _ => ?_⟩
      rw [hv]
      cases A with
      | none => simp [Builtin.firstCells]
      | some ad =>
        have := run_loadCells_list (P := X.P) w' ad [] (by simp)
        simpa [Builtin.firstCells] using this
    · have hlen : rows.length * size ≤ (cells.toList.drop ad.off).length := by
        rcases CRr.len hr with h | h
        · exact h
        · subst h; simp
      refine ⟨some ad, c, (cells.toList.drop ad.off).take (rows.length * size), hv, by simp at hlen ⊢; omega, CRr.congr (fun j hj => ?_) hr, fun w' hw' => ?_⟩
      · rw [List.getElem?_take, if_pos hj]
      · rw [hv]
        refine run_firstCells_some w' size rows.length ad rows.length c _ (by simp at hlen ⊢; omega) (fun j v hj => ?_)
        rw [add_eq _ _ hsp]
        rw [List.getElem?_take] at hj
        split at hj
        · simp only [World.cell?, hw', hh]
          simpa [List.getElem?_drop] using hj
        · cases hj
  rcases hs with hs | ⟨id, off, len, kc, ob, hs, hob, hl, hr⟩ | ⟨hs, rfl⟩
  · rw [hs] at hy
    simp only [TR, CR] at hy
    obtain ⟨A, c, hv, hc, hr⟩ := hy
    refine key A c hv ?_
    rcases hr with hr | ⟨ad, cells, t, fr, esz, rfl, hsp, hD, hh, hr⟩
    · exact .inl hr
    · rcases Nat.eq_zero_or_pos rows.length with h | h
      · exact .inl (List.eq_nil_of_length_eq_zero h)
      · right
        have hes : esz = size := by
          obtain ⟨r, hr0⟩ : ∃ r, rows[0]? = some r := ⟨rows[0], by simp [h]⟩
          rw [← (CRr.get hr hr0).1]; exact hrl r (List.mem_of_getElem? hr0)
        subst hes
        exact ⟨ad, cells, t, fr, rfl, hsp, hh, CRr.mono (Fixes.refl _ _) [] e (Leads.nil e) _ _ _ hr⟩
  · obtain ⟨aa, cap, nn, he, hobr⟩ := H.sr.objs id ob (getObj?_eq hob)
    rw [hs] at hy
    simp only [TR, CR, he] at hy
    obtain ⟨A, c, hv, q1, q2, q3, hA⟩ := hy
    have hrlen : rows.length = len := by rw [hr]; simp; omega
    rw [← hrlen] at hv
    refine key A c hv ?_
    rcases hA with hA | ⟨b, rfl, rfl, q5⟩
    · left; apply List.eq_nil_of_length_eq_zero; omega
    · rcases Nat.eq_zero_or_pos rows.length with h | h
      · exact .inl (List.eq_nil_of_length_eq_zero h)
      · right
        obtain ⟨_, _, hsp, _, cells, t, hh, hcap, hsz, hrr⟩ := hobr
        have hrr' : CRr D w.heap e ob.esz rows (cells.toList.drop (b.off + off * ob.esz)) := by
          rw [hr]
          have := CRr.take len (CRr.drop off hrr)
          rw [List.drop_drop] at this
          exact this
        have hes : ob.esz = size := by
          obtain ⟨r, hr0⟩ : ∃ r, rows[0]? = some r := ⟨rows[0], by simp [h]⟩
          rw [← (CRr.get hrr' hr0).1]; exact hrl r (List.mem_of_getElem? hr0)
        rw [hes] at hrr'
        exact ⟨_, cells, t, _, rfl, rfl, hh, by rw [hes]; exact hrr'⟩
  · rw [hs] at hy
    simp only [TR, CR, nilSl] at hy
    exact key none 0 hy.1 (.inl rfl)
end
end Go.Proofs.Ytkjbjgndinjdpaa
