/- Nil slices taken as empty own ones; append, make, clear. -/
import Derived.Test.YtkjbjgndinjdpaaS
set_option linter.unusedVariables false
set_option linter.unusedSimpArgs false
namespace Go.Proofs.Ytkjbjgndinjdpaa
open Go
section
variable {X : Pk} {N np : Nat} {G : Ctx} {D : Nat → Prop} {e : List ALoc} {σ σ' : State} {a : Act} {w : World} {K : KP}

/-! ### Nil as an empty own slice -/
def adoptC (n : Nat) (c : C) : C := match c with
  | .v x => match nilB x with
    | true => .os n 0 0 0
    | false => .v x
  | c => c
def adoptAt (n : Nat) : Nat → List C → List C
  | _, [] => []
  | 0, c :: cs => adoptC n c :: cs
  | j + 1, c :: cs => c :: adoptAt n j cs
def adoptT (n j : Nat) : T → T
  | .one c => .one (adoptC n c)
  | .agg cs => .agg (adoptAt n j cs)
  | t => t
/-- The nil slice in tmp 't' (of an aggregate: in its cell 'j') becomes an own object that is empty. -/
def adoptS (t j esz : Nat) (σ : State) : State := match σ with
  | ⟨ρ, o, κ⟩ => ⟨(t, adoptT o.length j (getρ ρ t)) :: ρ, snocO o ⟨esz, [], true, false, false⟩, κ⟩

theorem adoptC_CR {h : Array Obj} {n esz : Nat} {c : C} {y : Value} (hn : e[n]? = some (.live none esz 0 0)) (H : CR D h e c y) : CR D h e (adoptC n c) y := by
  unfold adoptC
  split
  · rename_i x
    split
    · rename_i hx
      simp only [CR] at H
      obtain ⟨rfl, _⟩ := H
      unfold nilB at hx
      split at hx
      · simp only [CR, hn]
        exact ⟨none, 0, rfl, Nat.le_refl _, Nat.le_refl _, Nat.le_refl _, .inl rfl⟩
      · cases hx
    · exact H
  · exact H
theorem adoptAt_CR {h : Array Obj} {n esz : Nat} (hn : e[n]? = some (.live none esz 0 0)) : ∀ {j : Nat} {cs : List C} {vs : List Value}, CRp D h e cs vs → CRp D h e (adoptAt n j cs) vs
  | j, [], vs, H => by cases j <;> simp [adoptAt, CRp]
  | j, c :: cs, [], H => by simp [CRp] at H
  | 0, c :: cs, v :: vs, H => by simp only [adoptAt, CRp] at H ⊢; exact ⟨adoptC_CR hn H.1, H.2⟩
  | j + 1, c :: cs, v :: vs, H => by simp only [adoptAt, CRp] at H ⊢; exact ⟨H.1, adoptAt_CR hn H.2⟩
theorem adoptAt_length (n : Nat) : ∀ (j : Nat) (cs : List C), (adoptAt n j cs).length = cs.length
  | j, [] => by cases j <;> rfl
  | 0, c :: cs => rfl
  | j + 1, c :: cs => by simp [adoptAt, adoptAt_length n j cs]
theorem adoptT_TR {h : Array Obj} {n esz j : Nat} {t : T} {y : Value} (hn : e[n]? = some (.live none esz 0 0)) (H : TR D h e t y) : TR D h e (adoptT n j t) y := by
  unfold adoptT
  split
  · simp only [TR] at H ⊢; exact adoptC_CR hn H
  · simp only [TR] at H ⊢
    obtain ⟨vs, hy, hl, hr⟩ := H
    exact ⟨vs, hy, by rw [adoptAt_length]; exact hl, adoptAt_CR hn hr⟩
  · exact H

theorem Rel.retmp (H : Rel N np G D e σ a w) {t : Nat} {x : T} (hx : TR D w.heap e x (a.tmps.getD t undef)) : Rel N np G D e ⟨(t, x) :: σ.ρ, σ.o, σ.k⟩ a w := by
  refine ⟨H.hnp, H.nple, H.ext, H.defers, H.size, fun u => ?_, H.sr, H.new, H.old, H.keep⟩
  simp only [getρ]
  split
  · rename_i hb
    have := Nat.eq_of_beq_eq_true hb
    subst this
    exact hx
  · exact H.tmps u

theorem Weak.adopt (t j esz : Nat) : Weak N np σ (adoptS t j esz σ) := fun {G D e a w} H => by
  have h1 := H.newEmpty (ob := ⟨esz, [], true, false, false⟩) rfl
  refine ⟨D, e ++ [.live none esz 0 0], ?_⟩
  have h2 := h1.retmp (t := t) (x := adoptT σ.o.length j (getρ σ.ρ t)) (adoptT_TR (esz := esz) (by rw [← H.sr.len]; exact getElem?_last _ _) (h1.tmps t))
  cases σ
  simpa only [adoptS, snocO_eq] using h2

/-! ### append -/
theorem run_append_room {P : Program} {t t2 ty el el2 sz : Nat} {te : TI} (ht : P.underlying t = some (.slice el)) (ht2 : P.underlying t2 = some (.slice el2)) (hte : TIok P el te)
    {A : Option Addr} {l c n c2 : Nat} {B : Option Addr} {news : List Value} (hroom : l + n ≤ c) (hf : (Builtin.firstCells te.size n (.slice B n c2)).run P w = .ok news.toArray w) :
    (Builtin.append_ #[t, t2] ty #[.slice A l c, .slice B n c2]).run P w = match A with
      | none => .ok (.slice none (l + n) c) w
      | some ad => ((storeCells (ad.add (l * te.size)) news).run P w).andThen fun _ w' => .ok (.slice (some ad) (l + n) c) w' := by
  have hz := hte.sizeOf w
  cases A with
  | none => simp [Builtin.append_, run_underlying ht, run_underlying ht2, hz, Builtin.lenOf, hroom, hf]
  | some ad => simp [Builtin.append_, run_underlying ht, run_underlying ht2, hz, Builtin.lenOf, hroom, hf]

theorem TIok.typeInfo {P : Program} {t : Nat} {ti : TI} (H : TIok P t ti) : ∃ i, P.info? t = some i ∧ (∀ w : World, (Go.typeInfo t).run P w = .ok i w) ∧ i.size = ti.size ∧ i.bytes = ti.bytes := by
  obtain ⟨i, z, hi, hs, hb, _⟩ := H.info
  exact ⟨i, hi, fun w => by simp [Go.typeInfo, hi], hs, hb⟩

theorem run_append_grown {P : Program} {t t2 ty el el2 : Nat} {te : TI} (ht : P.underlying t = some (.slice el)) (ht2 : P.underlying t2 = some (.slice el2)) (hte : TIok P el te)
    {A : Option Addr} {l c n c2 : Nat} {B : Option Addr} {olds news : List Value} (hroom : ¬ l + n ≤ c) (hb : (l + n) * te.bytes ≤ 140737488355328) (hL : l + n ≤ 140737488355328)
    (hfo : (Builtin.firstCells te.size l (.slice A l c)).run P w.drew = .ok olds.toArray w.drew) (hf : (Builtin.firstCells te.size n (.slice B n c2)).run P w.drew = .ok news.toArray w.drew) :
    ∃ rest, (Builtin.append_ #[t, t2] ty #[.slice A l c, .slice B n c2]).run P w = .ok (.slice (some ⟨w.heap.size, 0, none⟩) (l + n) (grownCap w (l + n) c el))
      (w.drew.alloc (.cells (olds ++ news ++ rest).toArray el)) ∧ rest.length = (grownCap w (l + n) c el - (l + n)) * te.size := by
  obtain ⟨i, hi, hinf, hs, hby⟩ := hte.typeInfo
  obtain ⟨z, hz, hzc, hzl, _⟩ := hte.zeroValue'
  have hzs : z.cells.size = te.size := by have := (zcells_CRp (D := fun _ => False) (h := #[]) (e := []) hzc).2; simp at this; omega
  have hfit : Builtin.nextslicecap (l + n) c * te.bytes ≤ 281474976710656 := growslice_fits (by omega) hb
  have h48 : ¬ (281474976710656 < Builtin.nextslicecap (l + n) c * te.bytes) := by omega
  have h63 : ¬ (9223372036854775807 < ((l : Int) + (n : Int))) := by omega
  have hzo := hte.sizeOf w
  refine ⟨(Builtin.zeroCells z.cells (grownCap w (l + n) c el - (l + n))).toList, ?_, by simp [size_zeroCells, hzs]⟩
  simp [Builtin.append_, run_underlying ht, run_underlying ht2, hzo, Builtin.lenOf, hroom, hinf, hby, h48, h63, Question.forced, hf, hfo, newRow, grownCap, hz]
  congr 2
  apply Array.ext'
  simp [List.append_assoc]

/-- What is appended to: nothing, or an own slice from its object's start. -/
def Dst (np : Nat) (σ : State) (t : T) (esz : Nat) (md : Option Nat) (old : List (List C)) : Prop :=
  (t = .one nilSl ∧ md = none ∧ old = []) ∨
  (∃ id len kc ob, t = .one (.os id 0 len kc) ∧ md = some id ∧ np ≤ id ∧ getObj? σ id = some ob ∧ ob.fz = false ∧ ob.esz = esz ∧ len ≤ ob.elems.length ∧ old = ob.elems.take len)
theorem Dst.nil {t : T} {esz : Nat} (h : t = .one nilSl) : Dst np σ t esz none [] := .inl ⟨h, rfl, rfl⟩
theorem Dst.own {t : T} {esz id len kc : Nat} {ob : AObj} {old : List (List C)} (h : t = .one (.os id 0 len kc)) (hge : Nat.ble np id = true) (hob : getObj? σ id = some ob) (hf : ob.fz = false) (hes : ob.esz = esz) (hl : len ≤ ob.elems.length) (ho : old = ob.elems.take len) :
    Dst np σ t esz (some id) old := .inr ⟨id, len, kc, ob, h, rfl, Nat.le_of_ble_eq_true hge, hob, hf, hes, hl, ho⟩
def killO : Option Nat → List (Option AObj) → List (Option AObj)
  | none, o => o
  | some id, o => setNth o id none

/-- The state behind 'append': the slice that was appended to is given up. -/
def appendS (dst : Option Nat) (md : Option Nat) (esz : Nat) (rows : List (List C)) (n : Nat) (cl : Bool) (σ : State) : State := match σ with
  | ⟨ρ, o, κ⟩ => putS dst (.one (.os o.length 0 n n)) ⟨ρ, snocO (killO md o) ⟨esz, rows, cl, false, false⟩, κ⟩
theorem appendS_put {dst md : Option Nat} {esz : Nat} {rows : List (List C)} {cl : Bool} (hd : dstB N dst = true) {o1 : List (Option AObj)} (ho1 : o1 = killO md σ.o) (hl : o1.length = σ.o.length) :
    putT N dst (.one (.os o1.length 0 rows.length rows.length)) ⟨σ.ρ, o1 ++ [some ⟨esz, rows, cl, false, false⟩], σ.k⟩ = some (appendS dst md esz rows rows.length cl σ) := by
  rw [putS_eq hd]
  cases σ
  cases md with
  | none => subst ho1; simp only [appendS, snocO_eq, killO]
  | some id => subst ho1; simp only [appendS, snocO_eq, killO, setNth_eq, List.length_set]

theorem Rel.emptySlice (H : Rel N np G D e σ a w) {dst : Option Nat} {esz : Nat} {cl : Bool} {A : Option Addr} {σ' : State}
    (hp : putT N dst (.one (.os σ.o.length 0 0 0)) ⟨σ.ρ, σ.o ++ [some ⟨esz, [], cl, false, false⟩], σ.k⟩ = some σ') :
    Rel N np G D (e ++ [.live none esz 0 0]) σ' (a.put dst (.slice A 0 0)) w := by
  have h1 := H.newEmpty (ob := ⟨esz, [], cl, false, false⟩) rfl
  refine h1.putv ?_ hp
  simp only [TR, CR]
  rw [← H.sr.len, getElem?_last]
  exact ⟨A, 0, rfl, Nat.le_refl _, Nat.le_refl _, Nat.le_refl _, .inl rfl⟩

theorem dA_append {o : Oper} {x y : Operand} {t t2 : TypeId} {old rows : List (List C)} (all : List (List C)) (n : Nat) (cl : Bool) {md : Option Nat} {ti ti2 te : TI}
    (hx : Dst np σ (evalO σ x) te.size md old) (hy : Src σ (evalO σ y) rows) (ho : o.op = .call ⟨.builtin .append, #[x, y], #[t, t2]⟩) (hti : findTI X.L t = some ti) (hk : ti.kind = 2) (hti2 : findTI X.L t2 = some ti2) (hk2 : ti2.kind = 2) (hte : findTI X.L ti.elem = some te)
    (h0 : Nat.blt 0 te.size = true) (hd : dstB N o.dst = true) (hro : ∀ r ∈ old, r.length = te.size) (hrr : ∀ r ∈ rows, r.length = te.size) (hb : (old.length + rows.length) * te.bytes ≤ 140737488355328) (hL : old.length + rows.length ≤ 140737488355328)
    (hall : all = old ++ rows) (hn : all.length = n) (hcl : cl = true → noOwnR all = true) :
    DidA X N np o (.e md) σ (appendS o.dst md te.size all n cl σ) := fun {G D e a w} H => by
  subst hn
  have h0' : 0 < te.size := by simpa [Nat.blt_eq] using h0
  have hu := (X.tiok hti).slice hk
  have hu2 := (X.tiok hti2).slice hk2
  have hte' := X.tiok hte
  obtain ⟨B, c2, news, hyv, hnl, hnr, hnf⟩ := Src.cells (X := X) H hy hrr h0'
  have hn1 := CRr.oneCell hnl hnr
  have hlall : all.length = old.length + rows.length := by rw [hall]; simp
  -- the slice that is appended to, as a value, and its cells
  have hxs : Src σ (evalO σ x) old := by
    rcases hx with ⟨h, _, rfl⟩ | ⟨id, len, kc, ob, h, _, _, hob, _, _, hl, ho⟩
    · exact .inr (.inr ⟨h, rfl⟩)
    · exact .inr (.inl ⟨id, 0, len, kc, ob, h, hob, by omega, by simpa using ho⟩)
  obtain ⟨A, c, olds, hxv, hol, hor, hof⟩ := Src.cells (X := X) H hxs hro h0'
  have ho1 := CRr.oneCell hol hor
  have hexec : ∀ (r : Result Value), (Builtin.append_ #[t, t2] o.type #[a.eval x, a.eval y]).run X.P w = r → (execOp a.eval o).run X.P w = r.andThen fun v w' => .ok (.value v) w' := by
    intro r hr
    subst hr
    simp [execOp, ho, resolve, invoke, Go.builtin]
  -- what is given up
  obtain ⟨o1, e1, ho1e, ho1l, H1, hle, hfree, hpres⟩ : ∃ (o1 : List (Option AObj)) (e1 : List ALoc), o1 = killO md σ.o ∧ o1.length = σ.o.length ∧ Rel N np G D e1 ⟨σ.ρ, o1, σ.k⟩ a w ∧ Leads e e1 ∧
      (∀ (id : Nat) (b : Addr) (esz cap n : Nat), e1[id]? = some (.live (some b) esz cap n) → md ≠ some id) ∧
      (∀ (id : Nat), ¬ md = some id → e1[id]? = e[id]?) := by
    rcases hx with ⟨h, rfl, _⟩ | ⟨id, len, kc, ob, h, rfl, hge, hob, hf, _, hl, ho⟩
    · exact ⟨σ.o, e, rfl, rfl, H, Leads.refl e, by simp, by simp⟩
    · refine ⟨σ.o.set id none, e.set id .dead, by simp [killO, setNth_eq], by simp, H.kill hge (fun ob' h' => by rw [getObj?_eq hob] at h'; simp at h'; subst h'; exact hf), ?_, ?_, ?_⟩
      · intro id' l hl'
        rw [getElem?_set_ite]
        by_cases hii : id = id'
        · subst hii; right; simp [lt_of_some hl']
        · left; simp [hii, hl']
      · intro id' b esz cap n he hii
        simp at hii
        subst hii
        rw [getElem?_set_ite, if_pos rfl] at he
        split at he <;> simp at he
      · intro id' hii
        rw [getElem?_set_ite, if_neg (fun h => hii (by rw [h]))]
  have hnle : ∀ (id : Nat), ¬ md = some id → ∀ (b : Addr) (esz cap n : Nat) (l : ALoc), e[id]? = some (.live (some b) esz cap n) → (e1 ++ [l])[id]? = some (.live (some b) esz cap n) := by
    intro id hid b esz cap n l he
    rw [List.getElem?_append_left (by have := H1.sr.len; simp only at this; rw [this, ho1l, ← H.sr.len]; exact lt_of_some he), hpres id hid]; exact he
  have hput := fun (rs : List (List C)) => appendS_put (N := N) (dst := o.dst) (md := md) (esz := te.size) (rows := rs) (cl := cl) (σ := σ) hd ho1e ho1l
  by_cases hroom : old.length + rows.length ≤ c
  · have hrun := run_append_room (P := X.P) (ty := o.type) (w := w) (sz := 0) hu hu2 hte' (A := A) (c2 := c2) (B := B) hroom (by have := hnf w rfl; rw [hyv] at this; exact this)
    rw [hxv, hyv] at hexec
    have empt : c = 0 → (Builtin.append_ #[t, t2] o.type #[.slice A old.length c, .slice B rows.length c2]).run X.P w = .ok (.slice A 0 0) w → Did X N np G D e o a w (.e md) σ (appendS o.dst md te.size all all.length cl σ) := by
      intro hc hr
      have hz : all = [] := List.eq_nil_of_length_eq_zero (by omega)
      subst hz
      refine ⟨D, _, _, _, w, by rw [hexec _ hr]; rfl, .inl rfl, H1.emptySlice (A := A) (hput []), Fixes.refl _ _, fun id hid b esz cap n he => ⟨hnle id hid b esz cap n _ he, rfl⟩⟩
    rcases Nat.eq_zero_or_pos c with hc | hc
    · subst hc
      have ho0 : old.length = 0 := by omega
      have hr0 : rows.length = 0 := by omega
      refine empt rfl ?_
      rw [hrun]
      have hn0 : news = [] := List.eq_nil_of_length_eq_zero (by rw [hnl, hr0]; simp)
      cases A with
      | none => simp [ho0, hr0]
      | some ad => simp [ho0, hr0, hn0, storeCells]
    · -- in place
      rcases hx with ⟨h, rfl, _⟩ | ⟨id, len, kc, ob, h, rfl, hge, hob, hf, hesz, hl, hoe⟩
      · have hx' := H.ev x
        rw [h] at hx'
        simp only [TR, CR, nilSl] at hx'
        rw [hxv] at hx'
        simp only [Value.slice.injEq] at hx'
        omega
      · obtain ⟨aa, cap, nn, he, hobr⟩ := H.sr.objs id ob (getObj?_eq hob)
        have hx' := H.ev x
        rw [h] at hx'
        simp only [TR, CR, he] at hx'
        obtain ⟨A', c', hv', q1, q2, q3, q4⟩ := hx'
        rw [hxv] at hv'
        simp only [Value.slice.injEq] at hv'
        obtain ⟨rfl, hlen, rfl⟩ := hv'
        rcases q4 with q4 | ⟨b, rfl, rfl, q5⟩
        · omega
        · obtain ⟨hnn, hclo, hsp, _, cells, t', hh, hcap, hsz, hrr'⟩ := hobr
          have hfz : ¬ D b.block := fun hD => by
            obtain ⟨ob', ho', hf'⟩ := (H.sr.own id b _ _ _ he).2 hD
            rw [getObj?_eq hob] at ho'; simp at ho'; subst ho'; rw [hf] at hf'; cases hf'
          have hcc : (old.length + rows.length) * te.size ≤ cap * ob.esz := by rw [hesz]; exact Nat.mul_le_mul_right _ (by omega)
          rw [Nat.add_mul] at hcc
          have hst := run_storeCells_at X.P b.block (b.off + old.length * te.size) t' news 0 cells w hh (by rw [hnl]; omega) hn1
          simp only [Nat.add_zero] at hst
          obtain ⟨cells', hcs'⟩ : ∃ cs, cs = (cells.toList.take (b.off + old.length * te.size) ++ news ++ cells.toList.drop (b.off + old.length * te.size + news.length)).toArray := ⟨_, rfl⟩
          rw [← hcs'] at hst
          have hsize : cells'.size = cells.size := by rw [hcs']; simp [hnl]; omega
          have hcrr : CRr D w.heap e1 te.size all (cells'.toList.drop b.off) := by
            have h1 : cells'.toList.drop b.off = (cells.toList.drop b.off).take (old.length * te.size) ++ (news ++ cells.toList.drop (b.off + old.length * te.size + news.length)) := by
              rw [hcs']
              simp only [List.toList_toArray, List.append_assoc]
              rw [List.drop_append_of_le_length (by simp; omega), List.drop_take]
              congr 2
              omega
            rw [h1, hall, CRr.app]
            refine ⟨CRr.more ?_, ?_⟩
            · have h2 := CRr.take len hrr'
              rw [← hoe, hesz] at h2
              refine CRr.congr (fun j hj => ?_) (CRr.mono (Fixes.refl _ _) _ _ hle _ _ _ h2)
              rw [List.getElem?_take, if_pos hj]
            · have h3 : ((cells.toList.drop b.off).take (old.length * te.size)).length = old.length * te.size := by simp; omega
              rw [List.drop_append_of_le_length (by omega), List.drop_eq_nil_of_le (by omega), List.nil_append]
              exact CRr.more (CRr.mono (Fixes.refl _ _) _ _ hle _ _ _ hnr)
          have H2 := H1.newObjIn (ob := ⟨te.size, all, cl, false, false⟩) (off := b.off) (cap := cap) (cells := cells) (cells' := cells') hh hfz (fun id' b' esz' cap' n' he' hbb => by
              have hne := hfree id' b' _ _ _ he'
              rw [hpres id' (fun h => hne h)] at he'
              have := H.sr.sep id' id b' b _ _ _ _ _ _ he' he hbb
              subst this
              exact hne rfl) (H.newer hge he) rfl hcl (by simp only; omega) hsize (by simp only; rw [← hesz]; exact hsz) hcrr
          refine ⟨D, _, _, .slice (some ⟨b.block, b.off + 0 * ob.esz, none⟩) (old.length + rows.length) c, w.setRow b.block cells', ?_, .inl rfl, H2.putv ?_ (hput all), ?_⟩
          · rw [hexec _ hrun]
            simp [add_eq, hst]
          · simp only [TR, CR]
            rw [show o1.length = e1.length from H1.sr.len.symm, getElem?_last]
            simp only
            refine ⟨_, c, by rw [hlall], Nat.le_refl _, by omega, by omega, .inr ⟨_, rfl, ?_, by omega⟩⟩
            cases b
            simp at hsp
            simp [hsp]
          · refine ⟨fun b' hb' => ⟨hb', setRow_other w _ _ _ (fun hbb => hfz (hbb ▸ hb'))⟩, fun id' hid' b' esz' cap' n' he' => ⟨hnle id' hid' b' esz' cap' n' _ he', setRow_other w _ _ _ (fun hbb => hid' ?_)⟩⟩
            rw [H.sr.sep id' id b' b _ _ _ _ _ _ he' he hbb]
  · obtain ⟨rest', hrun, hrl⟩ := run_append_grown (P := X.P) (ty := o.type) (w := w) hu hu2 hte' (A := A) (l := old.length) (c := c) (n := rows.length) (c2 := c2) (B := B) (olds := olds) (news := news) hroom hb hL
      (by have := hof w.drew rfl; rw [hxv] at this; exact this) (by have := hnf w.drew rfl; rw [hyv] at this; exact this)
    rw [hxv, hyv] at hexec
    have hge := grownCap_ge w (old.length + rows.length) c ti.elem
    have H2 := H1.newObj (w' := w.drew.alloc (.cells (olds ++ news ++ rest').toArray ti.elem)) (ob := ⟨te.size, all, cl, false, false⟩) (cap := grownCap w (old.length + rows.length) c ti.elem)
      (cells := (olds ++ news ++ rest').toArray) (t := ti.elem) rfl rfl rfl rfl rfl hcl (by simp only; omega) (by
        simp [hol, hnl, hrl, ← Nat.add_mul]
        refine Nat.mul_le_mul_right _ ?_
        omega) (by
        simp only [List.append_assoc, hall]
        rw [CRr.app]
        refine ⟨CRr.more (CRr.mono (Fixes.refl _ _) _ _ hle _ _ _ hor), ?_⟩
        rw [← hol, List.drop_left]
        exact CRr.more (CRr.mono (Fixes.refl _ _) _ _ hle _ _ _ hnr))
    refine ⟨D, _, _, .slice (some ⟨w.heap.size, 0, none⟩) (old.length + rows.length) (grownCap w (old.length + rows.length) c ti.elem), _, by rw [hexec _ hrun]; rfl, .inl rfl, H2.putv ?_ (hput all), ?_⟩
    · simp only [TR, CR]
      rw [show o1.length = e1.length from H1.sr.len.symm, getElem?_last]
      simp only
      exact ⟨_, _, by rw [hlall], Nat.le_refl _, by omega, by omega, .inr ⟨_, rfl, by simp, by omega⟩⟩
    · refine ⟨H.sr.fixes_push _, fun id' hid' b' esz' cap' n' he' => ⟨hnle id' hid' b' esz' cap' n' _ he', heap_push_old _ _ (H.sr.own id' b' _ _ _ he').1⟩⟩
end
end Go.Proofs.Ytkjbjgndinjdpaa
