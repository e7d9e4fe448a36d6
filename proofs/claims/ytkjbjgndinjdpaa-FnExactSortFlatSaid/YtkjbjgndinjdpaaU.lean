/- Rows written into own slices, make, tests for nil, strings joined. -/
import Derived.Test.YtkjbjgndinjdpaaT
set_option linter.unusedVariables false
set_option linter.unusedSimpArgs false
namespace Go.Proofs.Ytkjbjgndinjdpaa
open Go
section
variable {X : Pk} {N np : Nat} {G : Ctx} {D : Nat → Prop} {e : List ALoc} {σ σ' : State} {a : Act} {w : World} {K : KP}

theorem CRr_patchRows {h : Array Obj} {esz p : Nat} {rs rows : List (List C)} {vs xs : List Value} (H : CRr D h e esz rs vs) (Hx : CRr D h e esz rows xs) (hx : xs.length = rows.length * esz) (hp : p + rows.length ≤ rs.length) :
    CRr D h e esz (patch rs p rows) (patch vs (p * esz) xs) := by
  rcases Nat.eq_zero_or_pos rows.length with h0 | h0
  · have : rows = [] := List.eq_nil_of_length_eq_zero h0
    subst this
    have : xs = [] := List.eq_nil_of_length_eq_zero (by rw [hx]; simp)
    subst this
    simpa [patch] using H
  have hlen : p * esz + xs.length ≤ vs.length := by
    rcases CRr.len H with h1 | h1
    · have : (p + rows.length) * esz ≤ rs.length * esz := Nat.mul_le_mul_right _ hp
      rw [Nat.add_mul] at this
      omega
    · subst h1; simp only [List.length_nil] at hp; omega
  rw [CRr_iff]
  intro i r hi
  rw [patch_get _ _ _ hp] at hi
  have step : ∀ {j : Nat}, j < i → (j + 1) * esz ≤ i * esz := fun hj => Nat.mul_le_mul_right _ hj
  by_cases h1 : i < p
  · rw [if_pos h1] at hi
    have := CRr.get H hi
    refine ⟨this.1, CRp.congr (fun j hj => ?_) this.2⟩
    rw [List.getElem?_drop, List.getElem?_drop, patch_get _ _ _ hlen, if_pos]
    have : (i + 1) * esz ≤ p * esz := Nat.mul_le_mul_right _ h1
    rw [Nat.succ_mul] at this
    omega
  · rw [if_neg h1] at hi
    by_cases h2 : i < p + rows.length
    · rw [if_pos h2] at hi
      have := CRr.get Hx hi
      refine ⟨this.1, CRp.congr (fun j hj => ?_) this.2⟩
      have h3 : (i - p) * esz = i * esz - p * esz := Nat.sub_mul _ _ _
      have h4 : p * esz ≤ i * esz := Nat.mul_le_mul_right _ (by omega)
      have h5 : (i + 1) * esz ≤ (p + rows.length) * esz := Nat.mul_le_mul_right _ (by omega)
      rw [Nat.succ_mul, Nat.add_mul] at h5
      rw [List.getElem?_drop, List.getElem?_drop, patch_get _ _ _ hlen, if_neg (by omega), if_pos (by omega)]
      congr 1
      omega
    · rw [if_neg h2] at hi
      have := CRr.get H hi
      refine ⟨this.1, CRp.congr (fun j hj => ?_) this.2⟩
      have h5 : (p + rows.length) * esz ≤ i * esz := Nat.mul_le_mul_right _ (by omega)
      rw [Nat.add_mul] at h5
      rw [List.getElem?_drop, List.getElem?_drop, patch_get _ _ _ hlen, if_neg (by omega), if_neg (by omega)]

/-- Rows are written over an own object's rows. -/
theorem Rel.storeRows (H : Rel N np G D e σ a w) {id p : Nat} {ob : AObj} {b : Addr} {cap n : Nat} {rows : List (List C)} {news : List Value} {cl : Bool}
    (hid : σ.o[id]? = some (some ob)) (hfz : ob.fz = false) (he : e[id]? = some (.live (some b) ob.esz cap n)) (hr : CRr D w.heap e ob.esz rows news) (hl : news.length = rows.length * ob.esz)
    (hp : p + rows.length ≤ ob.elems.length) (hcl : cl = true → noOwnR (patch ob.elems p rows) = true) :
    ∃ w', (∀ P : Program, (storeCells ⟨b.block, b.off + p * ob.esz, none⟩ news).run P w = .ok () w') ∧ Rel N np G D e ⟨σ.ρ, σ.o.set id (some ⟨ob.esz, patch ob.elems p rows, cl, false, ob.box⟩), σ.k⟩ a w' ∧
      Pres (fun id' => some id = some id') D e w.heap D e w'.heap := by
  obtain ⟨a0, cap0, n0, he0, hn0, hclo, hrest⟩ := H.sr.objs id ob hid
  rw [he] at he0
  simp only [Option.some.injEq, ALoc.live.injEq, true_and] at he0
  obtain ⟨rfl, rfl, rfl⟩ := he0
  obtain ⟨hs, _, cells, t, hh, hcap, hsz, hrr⟩ := hrest
  have hmul : (p + rows.length) * ob.esz ≤ cap * ob.esz := Nat.mul_le_mul_right _ (by omega)
  rw [Nat.add_mul] at hmul
  have hst := fun P => run_storeCells_at P b.block (b.off + p * ob.esz) t news 0 cells w hh (by rw [hl]; omega) (CRr.oneCell hl hr)
  simp only [Nat.add_zero] at hst
  obtain ⟨cells', hcs'⟩ : ∃ cs, cs = (cells.toList.take (b.off + p * ob.esz) ++ news ++ cells.toList.drop (b.off + p * ob.esz + news.length)).toArray := ⟨_, rfl⟩
  rw [← hcs'] at hst
  have hnD : ¬ D b.block := fun hD => by
    obtain ⟨o', ho', hf'⟩ := (H.sr.own id b _ _ _ he).2 hD
    rw [hid] at ho'; simp at ho'; subst ho'; rw [hfz] at hf'; cases hf'
  refine ⟨w.setRow b.block cells', hst, H.setObj (ob' := ⟨ob.esz, patch ob.elems p rows, cl, false, ob.box⟩) hid hfz he hs hh (by omega) hsz ?_ rfl (patch_length _ _ _ hp) rfl hcl ?_,
    fun c hc => ⟨hc, setRow_other w _ _ _ (fun hcb => hnD (hcb ▸ hc))⟩, fun id' hid' b' esz' cap' n' he' => ⟨he', setRow_other w _ _ _ (fun hbb => hid' (by rw [H.sr.sep id id' b b' _ _ _ _ _ _ he he' hbb.symm]))⟩⟩
  · rw [hcs']; simp; omega
  · have := CRr_patchRows hrr hr hl hp
    refine CRr.congr (fun j hj => ?_) this
    congr 1
    rw [hcs']
    simp only [List.toList_toArray, patch]
    rw [List.append_assoc, List.drop_append_of_le_length (by simp; omega), ← List.append_assoc]
    congr 1
    · rw [List.drop_take]
      congr 2
      omega
    · rw [List.drop_drop]
      congr 1
      omega

/-- append(xs[:i], ..) that stays within what the object holds. -/
theorem dA_appendIn {o : Oper} {x y : Operand} {t t2 : TypeId} {id off len kc : Nat} {ob : AObj} {rows : List (List C)} (elems' : List (List C)) (cl : Bool) {ti ti2 te : TI}
    (hx : evalO σ x = .one (.os id off len kc)) (hob : getObj? σ id = some ob) (hf : ob.fz = false) (hes : ob.esz = te.size) (hy : Src σ (evalO σ y) rows) (ho : o.op = .call ⟨.builtin .append, #[x, y], #[t, t2]⟩)
    (hti : findTI X.L t = some ti) (hk : ti.kind = 2) (hti2 : findTI X.L t2 = some ti2) (hk2 : ti2.kind = 2) (hte : findTI X.L ti.elem = some te) (h0 : Nat.blt 0 te.size = true) (hd : dstB N o.dst = true)
    (hrr : ∀ r ∈ rows, r.length = te.size) (hn : len + rows.length ≤ kc) (hel : off + len + rows.length ≤ ob.elems.length) (hpa : elems' = patch ob.elems (off + len) rows) (hcl : cl = true → noOwnR elems' = true) :
    DidA X N np o (.e (some id)) σ (putS o.dst (.one (.os id off (len + rows.length) kc)) (setO σ id ⟨ob.esz, elems', cl, false, ob.box⟩)) := fun {G D e a w} H => by
  have h0' : 0 < te.size := by simpa [Nat.blt_eq] using h0
  have hu := (X.tiok hti).slice hk
  have hu2 := (X.tiok hti2).slice hk2
  obtain ⟨B, c2, news, hyv, hnl, hnr, hnf⟩ := Src.cells (X := X) H hy hrr h0'
  obtain ⟨aa, cap, nn, he, hobr⟩ := H.sr.objs id ob (getObj?_eq hob)
  have hx' := H.ev x
  rw [hx] at hx'
  simp only [TR, CR, he] at hx'
  obtain ⟨A, c, hxv, q1, q2, q3, q4⟩ := hx'
  have hrun := run_append_room (P := X.P) (ty := o.type) (w := w) (sz := 0) hu hu2 (X.tiok hte) (A := A) (l := len) (c := c) (c2 := c2) (B := B) (n := rows.length) (by omega) (by have := hnf w rfl; rw [hyv] at this; exact this)
  have hexec : ∀ (r : Result Value), (Builtin.append_ #[t, t2] o.type #[a.eval x, a.eval y]).run X.P w = r → (execOp a.eval o).run X.P w = r.andThen fun v w' => .ok (.value v) w' := by
    intro r hr
    subst hr
    simp [execOp, ho, resolve, invoke, Go.builtin]
  rw [hxv, hyv] at hexec
  have fin : ∀ {D e w'}, Rel N np G D e ⟨σ.ρ, σ.o.set id (some ⟨ob.esz, elems', cl, false, ob.box⟩), σ.k⟩ a w' → e[id]? = some (.live aa ob.esz cap nn) →
      Rel N np G D e (putS o.dst (.one (.os id off (len + rows.length) kc)) (setO σ id ⟨ob.esz, elems', cl, false, ob.box⟩)) (a.put o.dst (.slice A (len + rows.length) c)) w' := by
    intro D e w' H' he'
    have hσ : setO σ id ⟨ob.esz, elems', cl, false, ob.box⟩ = ⟨σ.ρ, σ.o.set id (some ⟨ob.esz, elems', cl, false, ob.box⟩), σ.k⟩ := by cases σ; simp [setO, setNth_eq]
    rw [hσ]
    refine H'.putv ?_ (putS_eq hd)
    simp only [TR, CR, he']
    exact ⟨A, c, rfl, hn, q2, by have := hobr.1; omega, q4⟩
  rcases q4 with q4 | ⟨b, hb, hA, q5⟩
  · -- no room at all: nothing is added
    have hl0 : len = 0 := by omega
    have hr0 : rows.length = 0 := by omega
    have hr0' : rows = [] := List.eq_nil_of_length_eq_zero hr0
    subst hr0'
    have hn0 : news = [] := List.eq_nil_of_length_eq_zero (by rw [hnl]; simp)
    have hpe : elems' = ob.elems := by rw [hpa]; simp [patch]
    have hsame : Rel N np G D e ⟨σ.ρ, σ.o.set id (some ⟨ob.esz, elems', cl, false, ob.box⟩), σ.k⟩ a w := by
      rw [hpe] at hcl ⊢
      refine ⟨H.hnp, by simpa using H.nple, H.ext, H.defers, H.size, H.tmps, ⟨by simpa using H.sr.len, ?_, ?_, H.sr.sep, H.sr.dom⟩, H.new, H.old, H.keep⟩
      · intro id' ob' hid'
        rw [getElem?_set_ite] at hid'
        by_cases hii : id = id'
        · subst hii
          rw [if_pos rfl] at hid'
          split at hid'
          · simp at hid'
            subst hid'
            refine ⟨aa, cap, nn, he, hobr.1, hcl, ?_⟩
            cases aa with
            | none => exact hobr.2.2
            | some b =>
              obtain ⟨_, _, z1, z2, cells, t', z3⟩ := hobr
              exact ⟨z1, by simp, cells, t', z3⟩
          · cases hid'
        · rw [if_neg hii] at hid'
          exact H.sr.objs id' ob' hid'
      · intro id' b esz cap' n' he'
        obtain ⟨h1, h2⟩ := H.sr.own id' b _ _ _ he'
        refine ⟨h1, fun hD => ?_⟩
        obtain ⟨ob', ho', hf'⟩ := h2 hD
        by_cases hii : id = id'
        · subst hii; rw [getObj?_eq hob] at ho'; simp at ho'; subst ho'; rw [hf] at hf'; cases hf'
        · exact ⟨ob', by rw [getElem?_set_ite, if_neg hii]; exact ho', hf'⟩
    refine ⟨D, e, _, .slice A (len + ([] : List (List C)).length) c, w, ?_, .inl rfl, fin hsame he, Pres.refl _ _ _ _⟩
    rw [hexec _ hrun]
    cases A with
    | none => simp
    | some ad => simp [hn0, storeCells]
  · subst hb; subst hA
    rw [← hes] at hnr hnl hrun
    obtain ⟨w', hw', H', hP'⟩ := H.storeRows (cl := cl) (p := off + len) (getObj?_eq hob) hf he hnr hnl (by omega) (fun h => by rw [← hpa]; exact hcl h)
    rw [← hpa] at H'
    refine ⟨D, e, _, _, w', ?_, .inl rfl, fin H' he, hP'⟩
    rw [hexec _ hrun]
    have hadd : (⟨b.block, b.off + off * ob.esz, none⟩ : Addr).add (len * ob.esz) = ⟨b.block, b.off + (off + len) * ob.esz, none⟩ := by
      rw [add_eq _ _ rfl, Nat.add_mul, Nat.add_assoc]
    simp only [hadd, hw', Result.andThen_ok]

/-! ### make -/
theorem zcell_noOwn {v : Value} {c : C} (H : zcell v c = true) : noOwn c = true := by
  unfold zcell at H
  split at H <;> simp_all [noOwn]
theorem zcells_noOwn : ∀ {vs : List Value} {cs : List C}, zcells vs cs = true → noOwnL cs = true
  | [], [], _ => rfl
  | v :: vs, c :: cs, H => by simp only [zcells, Bool.and_eq_true] at H; simp [noOwnL, zcell_noOwn H.1, zcells_noOwn H.2]
  | [], c :: cs, H => by simp [zcells] at H
  | v :: vs, [], H => by simp [zcells] at H
theorem noOwnR_rep {z : List C} (h : noOwnL z = true) : ∀ n, noOwnR (List.replicate n z) = true
  | 0 => rfl
  | n + 1 => by simp [List.replicate_succ, noOwnR, h, noOwnR_rep h n]

theorem dA_make {o : Oper} {x y : Operand} {t : TypeId} (m : Nat) (rows : List (List C)) {n n' : Int} {ti te : TI}
    (ho : o.op = .makeSlice t x y) (hx : evalO σ x = .one (.int .i64 n)) (hy : evalO σ y = .one (.int .i64 n')) (hn : n = (m : Int)) (hn' : n' = (m : Int)) (hti : findTI X.L t = some ti) (hk : ti.kind = 2) (hte : findTI X.L ti.elem = some te)
    (h0 : Nat.blt 0 te.size = true) (hd : dstB N o.dst = true) (hb : te.bytes * m ≤ 140737488355328) (hm : m ≤ 140737488355328) (hrows : rows = List.replicate m te.zero) :
    DidA X N np o (.e none) σ (appendS o.dst none te.size rows m true σ) := fun {G D e a w} H => by
  subst hn; subst hn'
  have h0' : 0 < te.size := by simpa [Nat.blt_eq] using h0
  have hu := (X.tiok hti).slice hk
  have hte' := X.tiok hte
  have hxv := one_int (hx ▸ H.ev x)
  have hyv := one_int (hy ▸ H.ev y)
  obtain ⟨i, hi, hinf, hs, hby⟩ := hte'.typeInfo
  obtain ⟨z, hz, hzc, hzl, _⟩ := hte'.zeroValue'
  have hcr := zcells_CRp (D := D) (h := w.heap) (e := e) hzc
  have hzs : z.cells.size = te.size := by have := hcr.2; simp at this; omega
  have hw64 : IntKind.i64.wrap (m : Int) = m := by
    simp only [IntKind.wrap, IntKind.bits, IntKind.signed]
    simp
    omega
  have hlarge : ¬ (281474976710656 < ((te.bytes : Int) * (m : Int))) := by
    have : ((te.bytes * m : Nat) : Int) ≤ 140737488355328 := by omega
    rw [Int.natCast_mul] at this
    omega
  have hso := hte'.sizeOf w
  have hrow0 := zero_rows (D := D) (h := w.heap) (e := e) hcr.1 hzs hzl m
  have hrun : (execOp a.eval o).run X.P w = .ok (.value (.slice (some ⟨w.heap.size, 0, none⟩) m m)) (w.alloc (.cells ((Array.range (m * te.size)).map (z.cells[· % z.cells.size]!)) ti.elem)) := by
    rcases Nat.eq_zero_or_pos m with hm0 | hm0
    · subst hm0
      have h00 : IntKind.i64.wrap 0 = 0 := by decide
      have hr0 : Array.range 0 = #[] := rfl
      simp [execOp, ho, hxv, hyv, Instr.makeSlice, run_underlying hu, asInt, asIntOf, hinf, hby, h00, hso, newRow, hr0]
    · have hne : ¬ (m = 0) := by omega
      have hsne : ¬ (te.size = 0) := by omega
      have hneg : ¬ ((m : Int) < 0) := by omega
      simp [execOp, ho, hxv, hyv, Instr.makeSlice, run_underlying hu, asInt, asIntOf, hinf, hby, hw64, hlarge, hso, newRow, hne, hsne, hz, hneg]
      intro h; exact absurd h (Nat.mul_ne_zero hne hsne)
  have hlen : rows.length = m := by rw [hrows]; simp
  have hput := appendS_put (N := N) (dst := o.dst) (md := none) (esz := te.size) (rows := rows) (cl := true) (σ := σ) hd (o1 := σ.o) rfl rfl
  rw [hlen] at hput
  exact did_newSlice H (ob := ⟨te.size, rows, true, false, false⟩) (cap := m) hrun rfl (fun _ => by rw [hrows]; exact noOwnR_rep (zcells_noOwn hzc) m) (by simp) (by rw [hrows]; exact hrow0) hlen.symm (Nat.le_refl _) (Nat.le_refl _) hput

/-! ### nil slices -/
theorem run_equal_nil {P : Program} {t el : Nat} (hu : P.underlying t = some (.slice el)) (A : Option Addr) (l c : Nat) (w : World) : (Op.equal t (.slice A l c) (.slice none 0 0)).run P w = .ok A.isNone w := by
  show (Op.equalIn (9999 + 1) t _ _).run P w = _
  rw [Op.equalIn]
  simp only [Sem.run_bind, run_underlying hu, Result.andThen_ok]
  cases A <;> rfl

theorem Src.val (H : Rel N np G D e σ a w) {y : Operand} {rows : List (List C)} (hs : Src σ (evalO σ y) rows) : ∃ A c, a.eval y = .slice A rows.length c ∧ (A = none → rows = []) := by
  have hy := H.ev y
  rcases hs with hs | ⟨id, off, len, kc, ob, hs, hob, hl, hr⟩ | ⟨hs, rfl⟩
  · rw [hs] at hy
    simp only [TR, CR] at hy
    obtain ⟨A, c, hv, hc, hr⟩ := hy
    refine ⟨A, c, hv, fun h => ?_⟩
    rcases hr with hr | ⟨ad, _, _, _, _, h', _⟩
    · exact hr
    · rw [h] at h'; cases h'
  · obtain ⟨aa, cap, nn, he, hobr⟩ := H.sr.objs id ob (getObj?_eq hob)
    rw [hs] at hy
    simp only [TR, CR, he] at hy
    obtain ⟨A, c, hv, q1, q2, q3, hA⟩ := hy
    have hrlen : rows.length = len := by rw [hr]; simp; omega
    refine ⟨A, c, by rw [hrlen]; exact hv, fun h => ?_⟩
    rcases hA with hA | ⟨b, _, h', _⟩
    · exact List.eq_nil_of_length_eq_zero (by omega)
    · rw [h] at h'; cases h'
  · rw [hs] at hy
    simp only [TR, CR, nilSl] at hy
    exact ⟨none, 0, hy.1, fun _ => rfl⟩

/-- 'xs == nil': it may say yes of what is empty. -/
theorem step_eqNil {ops : Array Oper} {i : Nat} {dst : Option Nat} {x y : Operand} {t ty ty' : TypeId} {pos : String} {aft : Array Edge} {g : Option (Nat × Bool)} {rows : List (List C)} {ti : TI}
    (ho : nthA ops i = some ⟨dst, .binOp .eql t x y ty, ty', pos, aft, g⟩) (hg : guardOf N ops g σ = .go) (hx : Src σ (evalO σ x) rows) (hy : evalO σ y = .one nilSl) (hti : findTI X.L t = some ti) (hk : ti.kind = 2) (hd : dstB N dst = true) :
    StepA X N np ops i (fun _ => False) σ (fun σ2 => ∃ b : Bool, (b = true → rows = []) ∧ σ2 = putS dst (.one (.bool b)) σ) := by
  intro G D e a w Q K' H next
  rw [nthA_eq] at ho
  unfold wpOp
  simp only [ho, (guardOf_spec H (ops := ops) (o := ⟨dst, .binOp .eql t x y ty, ty', pos, aft, g⟩)).1 hg, if_true]
  left
  obtain ⟨A, c, hv, hA⟩ := Src.val H hx
  have hyv := H.ev y
  rw [hy] at hyv
  simp only [TR, CR, nilSl] at hyv
  have hu := (X.tiok hti).slice hk
  have hrun : (execOp a.eval ⟨dst, .binOp .eql t x y ty, ty', pos, aft, g⟩).run X.P w = .ok (.value (.bool A.isNone)) w := by
    have h1 : (Go.binOp .eql t (.slice A rows.length c) (.slice none 0 0)).run X.P w = .ok (.bool A.isNone) w := by
      show (Op.equal t _ _ >>= fun r => pure (Value.bool r)).run X.P w = _
      simp only [Sem.run_bind, run_equal_nil hu, Result.andThen_ok, Sem.run_pure]
    simp only [execOp, hv, hyv.1, eqGuard]
    simp [h1]
  unfold Oper.wp
  rw [hrun]
  simp only [Oper.upon]
  refine next D e _ _ w (H.putv (x := .one (.bool A.isNone)) (by simp only [TR, CR]) (putS_eq hd)) (Pres.refl _ _ _ _) ⟨A.isNone, fun h => hA ?_, rfl⟩
  cases A with
  | none => rfl
  | some _ => simp at h

/-! ### strings -/
theorem dA_concat {o : Oper} {x y : Operand} {t ty : TypeId} {s s' : Str} (r : Str) (ho : o.op = .binOp .add t x y ty) (hx : evalO σ x = .one (.str s)) (hy : evalO σ y = .one (.str s')) (hl : s.length + s'.length ≤ 4611686018427387904) (hr : r = s ++ s') (hd : dstB N o.dst = true) :
    DidA X N np o (.q none) σ (putS o.dst (.one (.str r)) σ) := fun {G D e a w} H => by
  have hxv := one_str (hx ▸ H.ev x)
  have hyv := one_str (hy ▸ H.ev y)
  refine Did.pure H (v := .string ⟨(s ++ s').toArray⟩) (fun w _ => ?_) (by simp only [TR, CR, hr]) (putS_eq hd)
  have hsz : ¬ (9223372036854775807 < ((s.length : Int) + (s'.length : Int))) := by omega
  simp [execOp, ho, hxv, hyv, eqGuard, Go.binOp, Op.stringOp, ByteArray.size, hsz]
  apply ByteArray.ext
  simp [ByteArray.data_append]
end
end Go.Proofs.Ytkjbjgndinjdpaa
