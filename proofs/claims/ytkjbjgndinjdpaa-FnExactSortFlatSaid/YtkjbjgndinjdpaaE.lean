/- More computed operations; 'stepOp'. -/
import Derived.Test.YtkjbjgndinjdpaaD
set_option linter.unusedVariables false
set_option linter.unusedSimpArgs false
namespace Go.Proofs.Ytkjbjgndinjdpaa
open Go
section
variable {X : Pk} {N np : Nat} {G : Ctx} {D : Nat → Prop} {e : List ALoc} {σ σ' : State} {a : Act} {w : World}

theorem lt_of_some' {α : Type} {l : List α} {i : Nat} {x : α} (h : l[i]? = some x) : i < l.length := by
  rcases Nat.lt_or_ge i l.length with h' | h'
  · exact h'
  · rw [List.getElem?_eq_none h'] at h; cases h

/-- A new object, and a value that speaks of it. -/
theorem did_new {o : Oper} {x : T} {v : Value} {cells : Array Value} {t : TypeId} {ob : AObj} {cap : Nat} (H : Rel N np G D e σ a w)
    (hr : (execOp a.eval o).run X.P w = .ok (.value v) (w.alloc (.cells cells t)))
    (hf : ob.fz = false) (hcl : ob.clean = true → noOwnR ob.elems = true) (hcap : ob.elems.length ≤ cap) (hs : cap * ob.esz ≤ cells.size)
    (hcr : CRr D w.heap e ob.esz ob.elems cells.toList)
    (hx : ∀ e', e' = e ++ [ALoc.live (some ⟨w.heap.size, 0, none⟩) ob.esz cap ob.elems.length] → TR D (w.alloc (.cells cells t)).heap e' x v)
    (hp : putT N o.dst x ⟨σ.ρ, σ.o ++ [some ob], σ.k⟩ = some σ') : Did X N np G D e o a w (.e none) σ σ' := by
  have h1 := H.newObj (w' := w.alloc (.cells cells t)) (cells := cells) (t := t) (ob := ob) (cap := cap) rfl rfl rfl rfl hf hcl hcap hs hcr
  exact ⟨D, _, _, v, _, hr, .inl rfl, h1.putv (hx _ rfl) hp, H.sr.fixes_push _, fun id _ b esz cap n he => ⟨by rw [List.getElem?_append_left (lt_of_some' he)]; exact he, heap_push_old _ _ (H.sr.own id b _ _ _ he).1⟩⟩

theorem getElem?_last (e : List ALoc) (l : ALoc) : (e ++ [l])[e.length]? = some l := by simp

def stAlloc (L : List (Nat × TI)) (N : Nat) (dst : Option Nat) (t : Nat) (σ : State) : Option State :=
  match findTI L t with
  | some ⟨_, size, _, zero, _, _, _, _⟩ => putN N dst (fun n => .one (.op n 0 0)) ⟨size, [zero], false, false, true⟩ σ
  | none => none

theorem did_alloc {o : Oper} {t : Nat} (ho : o.op = .alloc t) (H : Rel N np G D e σ a w) (hp : stAlloc X.L N o.dst t σ = some σ') : Did X N np G D e o a w (.e none) σ σ' := by
  unfold stAlloc at hp
  split at hp
  · rename_i agg size bytes zero fields elem kind ik hti
    obtain ⟨z, hz, hzc, hzl, _⟩ := (X.tiok hti).zeroValue w
    have hcr := zcells_CRp (D := D) (h := w.heap) (e := e) hzc
    simp only at hzl hzc hcr
    rw [putN_eq] at hp
    refine did_new H (cells := z.cells) (t := t) (ob := ⟨size, [zero], false, false, true⟩) (cap := 1) (v := .pointer (some ⟨w.heap.size, 0, none⟩)) ?_ rfl (by simp) (by simp) ?_ ?_ ?_ hp
    · simp [execOp, ho, Instr.alloc, hz, newVar, newRow]
    · have := hcr.2; simp at this; simp; omega
    · simp only [CRr]; exact ⟨hzl, hcr.1, trivial⟩
    · intro e' he'
      subst he'
      simp only [TR, CR]
      rw [← H.sr.len, getElem?_last]
      exact ⟨_, rfl, by simp⟩
  · cases hp

def stBox (L : List (Nat × TI)) (N : Nat) (dst : Option Nat) (t : Nat) (x : Operand) (σ : State) : Option State :=
  match cellsT (evalO σ x) with
  | some cs => forceL cs fun cs => putN N dst (fun n => .one (.op n 0 0)) ⟨lenL cs, [cs], false, false, true⟩ σ
  | none => none

theorem did_box {o : Oper} {t : Nat} {x : Operand} (ho : o.op = .box t x) (H : Rel N np G D e σ a w) (hp : stBox X.L N o.dst t x σ = some σ') : Did X N np G D e o a w (.e none) σ σ' := by
  unfold stBox at hp
  split at hp
  · rename_i cs hc
    obtain ⟨hvl, hvr, hv1⟩ := cellsT_TR hc (H.ev x)
    rw [forceL_eq, putN_eq] at hp
    refine did_new H (cells := (a.eval x).cells) (t := t) (ob := ⟨lenL cs, [cs], false, false, true⟩) (cap := 1) (v := .pointer (some ⟨w.heap.size, 0, none⟩)) ?_ rfl (by simp) (by simp) ?_ ?_ ?_ hp
    · simp [execOp, ho, Instr.box, newVar, newRow]
    · simp [lenL_eq, hvl]
    · simp only [CRr]; exact ⟨(lenL_eq cs).symm, hvr, trivial⟩
    · intro e' he'
      subst he'
      simp only [TR, CR]
      rw [← H.sr.len, getElem?_last]
      exact ⟨_, rfl, by simp⟩
  · cases hp

/-! #### struct values -/
def buildF {β : Type} (L : List (Nat × TI)) (σ : State) (fields : List (Nat × Nat)) : List (Nat × Operand) → List C → (List C → Option β) → Option β
  | [], acc, k => k acc
  | (i, x) :: r, acc, k => match nth fields i with
    | some (off, ft) => match findTI L ft with
      | some ⟨_, size, _, _, _, _, _, _⟩ => match cellsT (evalO σ x) with
        | some cs => match Nat.beq (lenL cs) size, Nat.ble (off + lenL cs) (lenL acc) with
          | true, true => forceL (patch acc off cs) fun acc' => buildF L σ fields r acc' k
          | _, _ => none
        | none => none
      | none => none
    | none => none

theorem foldl_set (vs : List Value) : ∀ (off j : Nat) (cs : Array Value), off + j + vs.length ≤ cs.size →
    ((vs.zipIdx j).foldl (fun (cs : Array Value) (x : Value × Nat) => cs.setIfInBounds (off + x.2) x.1) cs).toList = patch cs.toList (off + j) vs := by
  induction vs with
  | nil => intro off j cs _; simp [patch]
  | cons v vs ih =>
    intro off j cs hl
    simp only [List.zipIdx_cons, List.foldl_cons]
    rw [ih off (j + 1) _ (by simp at hl ⊢; omega)]
    apply List.ext_getElem?
    intro m
    simp only [List.length_cons] at hl
    rw [patch_get _ _ _ (by simp; omega), patch_get _ _ _ (by simp; omega)]
    simp only [Array.toList_setIfInBounds, List.getElem?_set, List.length_cons, Array.length_toList]
    by_cases h1 : m < off + j
    · rw [if_pos (by omega), if_pos h1, if_neg (by omega)]
    · rw [if_neg h1]
      by_cases h2 : m = off + j
      · subst h2
        rw [if_pos (by omega), if_pos rfl, if_pos (by omega), if_pos (by omega)]
        simp
      · by_cases h3 : m < off + (j + 1) + vs.length
        · rw [if_neg (by omega), if_pos h3, if_pos (by omega)]
          rw [show m - (off + j) = (m - (off + (j + 1))) + 1 by omega]
          simp
        · rw [if_neg (by omega), if_neg h3, if_neg (by omega), if_neg (by omega)]

theorem CRp_patch {D : Nat → Prop} {h : Array Obj} {e : List ALoc} {row cs : List C} {vs xs : List Value} {off : Nat} (H : CRp D h e row vs) (hlen : vs.length = row.length) (hoff : off + cs.length ≤ row.length)
    (hx : xs.length = cs.length) (hc : CRp D h e cs xs) : CRp D h e (patch row off cs) (patch vs off xs) := by
  rw [CRp_iff]
  intro m c hm
  rw [patch_get _ _ _ (by omega)] at hm ⊢
  by_cases h1 : m < off
  · rw [if_pos h1] at hm ⊢; exact CRp.get H hm
  · rw [if_neg h1] at hm ⊢
    by_cases h2 : m < off + cs.length
    · rw [if_pos h2] at hm; rw [if_pos (by omega)]; exact CRp.get hc hm
    · rw [if_neg h2] at hm; rw [if_neg (by omega)]; exact CRp.get H hm

theorem buildF_fill {β : Type} {place : Nat → Option (Nat × Nat)} {fields : List (Nat × Nat)}
    (hplace : ∀ i off ft ti, nth fields i = some (off, ft) → findTI X.L ft = some ti → place i = some (off, ti.size)) (H : Rel N np G D e σ a w) (k : List C → Option β) (y : β) :
    ∀ (parts : List (Nat × Operand)) (acc : List C) (arr : Array Value), arr.size = acc.length → CRp D w.heap e acc arr.toList → buildF X.L σ fields parts acc k = some y →
      ∃ acc' arr', Instr.fill place arr (parts.map fun (i, x) => (i, a.eval x)) = some arr' ∧ arr'.size = acc'.length ∧ acc'.length = acc.length ∧ CRp D w.heap e acc' arr'.toList ∧ k acc' = some y
  | [], acc, arr, hl, hr, hk => ⟨acc, arr, rfl, hl, rfl, hr, hk⟩
  | (i, x) :: r, acc, arr, hl, hr, hk => by
    simp only [buildF] at hk
    split at hk
    · rename_i off ft hf
      split at hk
      · rename_i agg size bytes zero fl elem kind ik hti
        split at hk
        · rename_i cs hc
          split at hk
          · rename_i h1 h2
            rw [forceL_eq] at hk
            have h1' := Nat.eq_of_beq_eq_true h1
            have h2' := Nat.le_of_ble_eq_true h2
            rw [lenL_eq] at h1' h2'
            rw [lenL_eq] at h2'
            obtain ⟨hvl, hvr, hv1⟩ := cellsT_TR hc (H.ev x)
            have hpl := hplace i off ft _ hf hti
            simp only at hpl
            have hfold := foldl_set (a.eval x).cells.toList off 0 arr (by simp [hvl]; omega)
            have hzip : (a.eval x).cells.zipIdx.foldl (fun cs (c, j) => cs.setIfInBounds (off + j) c) arr =
                ((a.eval x).cells.toList.zipIdx 0).foldl (fun (cs : Array Value) (x : Value × Nat) => cs.setIfInBounds (off + x.2) x.1) arr := by
              rw [← Array.foldl_toList, Array.toList_zipIdx]
            have hlen : (patch arr.toList off (a.eval x).cells.toList).length = arr.toList.length := patch_length _ _ _ (by simp [hvl]; omega)
            obtain ⟨acc', arr', e1, e2, e3, e4, e5⟩ := buildF_fill hplace H k y r (patch acc off cs)
              (((a.eval x).cells.toList.zipIdx 0).foldl (fun (cs : Array Value) (x : Value × Nat) => cs.setIfInBounds (off + x.2) x.1) arr)
              (by
                have h3 : (((a.eval x).cells.toList.zipIdx 0).foldl (fun (cs : Array Value) (x : Value × Nat) => cs.setIfInBounds (off + x.2) x.1) arr).toList.length = arr.toList.length := by
                  rw [hfold]; exact hlen
                simp only [Array.length_toList] at h3
                rw [h3, patch_length _ _ _ h2', hl])
              (by rw [hfold]; exact CRp_patch hr (by simpa using hl) h2' (by simpa using hvl) hvr) hk
            refine ⟨acc', arr', ?_, e2, by rw [e3, patch_length _ _ _ h2'], e4, e5⟩
            simp only [List.map_cons, Instr.fill, hpl]
            rw [if_neg (by simp [hvl, ← h1']; omega), hzip]
            exact e1
          · cases hk
        · cases hk
      · cases hk
    · cases hk

def allTI (L : List (Nat × TI)) : List (Nat × Nat) → Bool
  | [] => true
  | (_, t) :: r => (findTI L t).isSome && allTI L r

def stBuild (L : List (Nat × TI)) (N : Nat) (dst : Option Nat) (t : Nat) (parts : Array (Nat × Operand)) (σ : State) : Option State :=
  match findTI L t with
  | some ⟨true, _, _, zero, fields, _, 3, _⟩ => match allTI L fields with
    | true => buildF L σ fields parts.toList zero fun cs => putT N dst (.agg cs) σ
    | false => none
  | _ => none

theorem TIok.struct {P : Program} {t : Nat} {ti : TI} (H : TIok P t ti) (hk : ti.kind = 3) : ∃ fs, P.underlying t = some (.struct fs) ∧ fs.toList.map (fun f => (f.offset, f.type)) = ti.fields := by
  obtain ⟨d, hd, hb⟩ := H.und
  cases d <;> simp_all [TI.descB]
theorem TIok.slice {P : Program} {t : Nat} {ti : TI} (H : TIok P t ti) (hk : ti.kind = 2) : P.underlying t = some (.slice ti.elem) := by
  obtain ⟨d, hd, hb⟩ := H.und
  cases d <;> simp_all [TI.descB]
theorem TIok.string {P : Program} {t : Nat} {ti : TI} (H : TIok P t ti) (hk : ti.kind = 1) : P.underlying t = some .string := by
  obtain ⟨d, hd, hb⟩ := H.und
  cases d <;> simp_all [TI.descB]
theorem TIok.int {P : Program} {t : Nat} {ti : TI} (H : TIok P t ti) (hk : ti.kind = 4) : P.underlying t = some (.int ti.ik) := by
  obtain ⟨d, hd, hb⟩ := H.und
  cases d <;> simp_all [TI.descB]
theorem TIok.bool {P : Program} {t : Nat} {ti : TI} (H : TIok P t ti) (hk : ti.kind = 5) : P.underlying t = some .bool := by
  obtain ⟨d, hd, hb⟩ := H.und
  cases d <;> simp_all [TI.descB]

theorem run_places' (X : Pk) (w : World) : ∀ (fs : List Field), (∀ f ∈ fs, ∃ i, X.P.info? f.type = some i) →
    (fs.mapM fun f => Prod.mk f.offset <$> sizeOf f.type).run X.P w = .ok (fs.map fun f => (f.offset, ((X.P.info? f.type).map (·.size)).getD 0)) w
  | [], _ => by simp
  | f :: fs, hf => by
    obtain ⟨i, hi⟩ := hf f (by simp)
    have ih := run_places' X w fs (fun g hg => hf g (by simp [hg]))
    simp [List.mapM_cons, sizeOf, typeInfo, hi] at ih ⊢
    simp [ih]


theorem allTI_mem : ∀ {L : List (Nat × TI)} {l : List (Nat × Nat)}, allTI L l = true → ∀ x ∈ l, ∃ ti, findTI L x.2 = some ti
  | L, [], _, x, hx => by simp at hx
  | L, (o, t) :: r, H, x, hx => by
    simp only [allTI, Bool.and_eq_true] at H
    rcases List.mem_cons.1 hx with rfl | hx
    · exact Option.isSome_iff_exists.1 H.1
    · exact allTI_mem H.2 x hx

theorem did_build {o : Oper} {t : Nat} {parts : Array (Nat × Operand)} (ho : o.op = .build t parts) (H : Rel N np G D e σ a w) (hp : stBuild X.L N o.dst t parts σ = some σ') : Did X N np G D e o a w (.q none) σ σ' := by
  unfold stBuild at hp
  split at hp
  · rename_i size bytes zero fields elem ik hti
    split at hp
    · rename_i hall
      have htk := X.tiok hti
      obtain ⟨fs, hu, hfs⟩ := htk.struct rfl
      simp only at hfs
      obtain ⟨z, hz, hzc, hzl, hag⟩ := htk.zeroValue'
      simp only at hzc hzl hag
      have hcr := zcells_CRp (D := D) (h := w.heap) (e := e) hzc
      have hinfo : ∀ f ∈ fs.toList, ∃ i, X.P.info? f.type = some i := fun f hf => by
        obtain ⟨ti, hf'⟩ := allTI_mem hall (f.offset, f.type) (by rw [← hfs]; exact List.mem_map.2 ⟨f, hf, rfl⟩)
        obtain ⟨i, hi, _⟩ := (X.tiok hf').info?
        exact ⟨i, hi⟩
      have hpl := fun w => run_places' X w fs.toList hinfo
      obtain ⟨acc', arr', e1, e2, e3, e4, e5⟩ := buildF_fill (X := X) (place := fun i => (fs.toList.map fun f => (f.offset, ((X.P.info? f.type).map (·.size)).getD 0))[i]?) (fields := fields) (fun i off ft ti h1 h2 => by
        rw [nth_eq, ← hfs, List.getElem?_map] at h1
        rw [List.getElem?_map]
        cases hfi : fs.toList[i]? with
        | none => rw [hfi] at h1; simp at h1
        | some f =>
          rw [hfi] at h1
          simp at h1
          obtain ⟨rfl, rfl⟩ := h1
          obtain ⟨ii, hii, hs, _⟩ := (X.tiok h2).info?
          simp [hii, hs]) H (fun cs => putT N o.dst (.agg cs) σ) σ' parts.toList zero z.cells (by have := hcr.2; simpa using this) hcr.1 hp
      refine Did.pure H (x := .agg acc') (v := .agg arr') (fun w _ => ?_) (by simp only [TR]; exact ⟨arr', rfl, e2, e4⟩) e5
      have e1' : Instr.fill (fun i => (fs.toList.map fun f => (f.offset, ((X.P.info? f.type).map (·.size)).getD 0))[i]?) z.cells (List.map (fun (x : Nat × Operand) => (x.1, a.eval x.2)) parts.toList) = some arr' := e1
      simp only [execOp, ho, Instr.build, Sem.run_bind, hz, Result.andThen_ok, run_underlying hu]
      simp [Array.mapM_eq_mapM_toList, hpl]
      simp at e1'
      simp [e1']
    · cases hp
  · cases hp
end
end Go.Proofs.Ytkjbjgndinjdpaa
