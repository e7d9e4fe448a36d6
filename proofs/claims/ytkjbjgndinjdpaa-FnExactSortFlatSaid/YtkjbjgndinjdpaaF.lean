/- Slices that are made: literals and make. -/
import Derived.Test.YtkjbjgndinjdpaaE
set_option linter.unusedVariables false
set_option linter.unusedSimpArgs false
namespace Go.Proofs.Ytkjbjgndinjdpaa
open Go
section
variable {X : Pk} {N np : Nat} {G : Ctx} {D : Nat → Prop} {e : List ALoc} {σ σ' : State} {a : Act} {w : World}

theorem zero_rows {h : Array Obj} {z : Array Value} {zero : List C} {size : Nat} (hz : CRp D h e zero z.toList) (hs : z.size = size) (hl : zero.length = size) (n : Nat) :
    CRr D h e size (List.replicate n zero) (((Array.range (n * size)).map (z[· % z.size]!)).toList) := by
  rw [CRr_iff]
  intro i r hi
  rw [List.getElem?_replicate] at hi
  split at hi
  · rename_i hin
    simp at hi; subst hi
    refine ⟨hl, ?_⟩
    rw [CRp_iff]
    intro j c hj
    obtain ⟨v, hv, hc⟩ := CRp.get hz hj
    refine ⟨v, ?_, hc⟩
    have hjl : j < size := by
      rcases Nat.lt_or_ge j zero.length with h' | h'
      · omega
      · rw [List.getElem?_eq_none h'] at hj; cases hj
    have hmul : (i + 1) * size ≤ n * size := Nat.mul_le_mul_right _ (by omega)
    rw [Nat.succ_mul] at hmul
    have hmod : (i * size + j) % z.size = j := by rw [hs, Nat.add_comm, Nat.add_mul_mod_self_right]; exact Nat.mod_eq_of_lt hjl
    simp only [List.getElem?_drop, Array.toList_map, List.getElem?_map]
    have hr : (Array.range (n * size)).toList[i * size + j]? = some (i * size + j) := by rw [Array.toList_range, List.getElem?_range (by omega)]
    rw [hr]
    simp only [Option.map_some, hmod, Option.some.injEq]
    have : z[j]? = some v := by simpa using hv
    simp [getElem!_def, this]
  · cases hi

theorem patch_full {α : Type} (l xs : List α) (h : xs.length = l.length) : patch l 0 xs = xs := by
  unfold patch; simp [h]

def lenR : List (List C) → Nat
  | [] => 0
  | _ :: cs => lenR cs + 1
theorem lenR_eq : ∀ cs : List (List C), lenR cs = cs.length
  | [] => rfl
  | _ :: cs => by simp [lenR, lenR_eq cs]

def bsF {β : Type} (σ : State) (size : Nat) : List (Nat × Operand) → List (List C) → (List (List C) → Option β) → Option β
  | [], rows, k => k rows
  | (i, x) :: r, rows, k => match cellsT (evalO σ x) with
    | some cs => match Nat.beq (lenL cs) size, Nat.blt i (lenR rows) with
      | true, true => bsF σ size r (setNth rows i cs) k
      | _, _ => none
    | none => none

theorem bsF_fill {β : Type} {size : Nat} (H : Rel N np G D e σ a w) (k : List (List C) → Option β) (y : β) :
    ∀ (parts : List (Nat × Operand)) (rows : List (List C)) (arr : Array Value), arr.size = rows.length * size → CRr D w.heap e size rows arr.toList → bsF σ size parts rows k = some y →
      ∃ rows' arr', Instr.fill (fun i => some (i * size, size)) arr (parts.map fun (i, x) => (i, a.eval x)) = some arr' ∧ arr'.size = rows'.length * size ∧ rows'.length = rows.length ∧
        CRr D w.heap e size rows' arr'.toList ∧ k rows' = some y
  | [], rows, arr, hl, hr, hk => ⟨rows, arr, rfl, hl, rfl, hr, hk⟩
  | (i, x) :: r, rows, arr, hl, hr, hk => by
    simp only [bsF] at hk
    split at hk
    · rename_i cs hc
      split at hk
      · rename_i h1 h2
        have h1' := Nat.eq_of_beq_eq_true h1
        have h2' : i < rows.length := by rw [lenR_eq] at h2; simpa [Nat.blt_eq] using h2
        rw [lenL_eq] at h1'
        obtain ⟨hvl, hvr, hv1⟩ := cellsT_TR hc (H.ev x)
        have hmul : (i + 1) * size ≤ rows.length * size := Nat.mul_le_mul_right _ (by omega)
        rw [Nat.succ_mul] at hmul
        have hfold := foldl_set (a.eval x).cells.toList (i * size) 0 arr (by simp [hvl]; omega)
        have hzip : (a.eval x).cells.zipIdx.foldl (fun cs (c, j) => cs.setIfInBounds (i * size + j) c) arr =
            ((a.eval x).cells.toList.zipIdx 0).foldl (fun (cs : Array Value) (x : Value × Nat) => cs.setIfInBounds (i * size + x.2) x.1) arr := by
          rw [← Array.foldl_toList, Array.toList_zipIdx]
        have hlen : (patch arr.toList (i * size) (a.eval x).cells.toList).length = arr.toList.length := patch_length _ _ _ (by simp [hvl]; omega)
        have hrow : rows[i]? = some rows[i] := by simp [h2']
        have hrl := (CRr.get hr hrow).1
        have hpat := CRr_patch hr hrow (off := 0) (cs := cs) (by omega) (by simpa using hvl) hvr
        rw [patch_full _ _ (by omega)] at hpat
        rw [setNth_eq] at hk
        obtain ⟨rows', arr', e1, e2, e3, e4, e5⟩ := bsF_fill H k y r (rows.set i cs)
          (((a.eval x).cells.toList.zipIdx 0).foldl (fun (cs : Array Value) (x : Value × Nat) => cs.setIfInBounds (i * size + x.2) x.1) arr)
          (by
            have h3 : (((a.eval x).cells.toList.zipIdx 0).foldl (fun (cs : Array Value) (x : Value × Nat) => cs.setIfInBounds (i * size + x.2) x.1) arr).toList.length = arr.toList.length := by
              rw [hfold]; exact hlen
            simp only [Array.length_toList] at h3
            rw [h3, List.length_set, hl])
          (by rw [hfold]; exact hpat) hk
        refine ⟨rows', arr', ?_, e2, by rw [e3, List.length_set], e4, e5⟩
        simp only [List.map_cons, Instr.fill]
        rw [if_neg (by simp [hvl, ← h1']; rw [h1']; omega), hzip]
        exact e1
      · cases hk
    · cases hk

def repL : Nat → List C → List (List C)
  | 0, _ => []
  | n + 1, z => z :: repL n z
theorem repL_eq (z : List C) : ∀ n, repL n z = List.replicate n z
  | 0 => rfl
  | n + 1 => by simp [repL, repL_eq z n, List.replicate_succ]

def stBuildSlice (L : List (Nat × TI)) (N : Nat) (dst : Option Nat) (t : Nat) (len : Nat) (parts : Array (Nat × Operand)) (σ : State) : Option State :=
  match findTI L t with
  | some ⟨_, _, _, _, _, elem, 2, _⟩ => match findTI L elem with
    | some ⟨_, size, _, zero, _, _, _, _⟩ => match Nat.ble (len * size) 16777216, Nat.blt 0 size with
      | true, true => bsF σ size parts.toList (repL len zero) fun rows => match noOwnR rows with
        | true => putN N dst (fun n => .one (.os n 0 len len)) ⟨size, rows, true, false, false⟩ σ
        | false => putN N dst (fun n => .one (.os n 0 len len)) ⟨size, rows, false, false, false⟩ σ
      | _, _ => none
    | none => none
  | _ => none

theorem did_newSlice {o : Oper} {cells : Array Value} {t : TypeId} {ob : AObj} {len kc cap : Nat} (H : Rel N np G D e σ a w)
    (hr : (execOp a.eval o).run X.P w = .ok (.value (.slice (some ⟨w.heap.size, 0, none⟩) len cap)) (w.alloc (.cells cells t)))
    (hf : ob.fz = false) (hcl : ob.clean = true → noOwnR ob.elems = true) (hs : cap * ob.esz ≤ cells.size)
    (hcr : CRr D w.heap e ob.esz ob.elems cells.toList) (hl : len = ob.elems.length) (hk : len ≤ kc) (hk' : kc ≤ cap)
    (hp : putT N o.dst (.one (.os σ.o.length 0 len kc)) ⟨σ.ρ, σ.o ++ [some ob], σ.k⟩ = some σ') : Did X N np G D e o a w (.e none) σ σ' := by
  refine did_new H (cap := cap) hr hf hcl (by omega) hs hcr ?_ hp
  intro e' he'
  subst he'
  simp only [TR, CR]
  rw [← H.sr.len, getElem?_last]
  exact ⟨_, cap, rfl, hk, hk', by omega, .inr ⟨_, rfl, by simp, by omega⟩⟩

theorem did_buildSlice {o : Oper} {t len : Nat} {parts : Array (Nat × Operand)} (ho : o.op = .buildSlice t len parts) (H : Rel N np G D e σ a w)
    (hp : stBuildSlice X.L N o.dst t len parts σ = some σ') : Did X N np G D e o a w (.e none) σ σ' := by
  unfold stBuildSlice at hp
  split at hp
  · rename_i agg size bytes zero fields elem ik hti
    split at hp
    · rename_i agg' esz bytes' zero' fields' elem' kind' ik' hte
      split at hp
      · rename_i h1 h2
        have h1' := Nat.le_of_ble_eq_true h1
        have h2' : 0 < esz := by simpa [Nat.blt_eq] using h2
        have hu := (X.tiok hti).slice rfl
        have hte' := X.tiok hte
        obtain ⟨z, hz, hzc, hzl, _⟩ := hte'.zeroValue w
        have hcr := zcells_CRp (D := D) (h := w.heap) (e := e) hzc
        simp only at hu hzl
        have hzs : z.cells.size = esz := by have := hcr.2; simp at this; omega
        have h0 : CRr D w.heap e esz (repL len zero') (((Array.range (len * esz)).map (z.cells[· % z.cells.size]!)).toList) := by
          rw [repL_eq]; exact zero_rows hcr.1 hzs hzl len
        have hrun : ∀ arr', Instr.fill (fun i => some (i * esz, esz)) ((Array.range (len * esz)).map (z.cells[· % z.cells.size]!)) (parts.toList.map fun (i, x) => (i, a.eval x)) = some arr' →
            (execOp a.eval o).run X.P w = .ok (.value (.slice (some ⟨w.heap.size, 0, none⟩) len len)) (w.alloc (.cells arr' elem)) := by
          intro arr' hfill
          have hfill' : Instr.fill (fun i => some (i * esz, esz)) ((Array.range (len * esz)).map (z.cells[· % z.cells.size]!)) (List.map (fun (x : Nat × Operand) => (x.1, a.eval x.2)) parts.toList) = some arr' := hfill
          have hsz := hte'.sizeOf w
          rcases Nat.eq_zero_or_pos (len * esz) with hz0 | hz0
          · have hr0 : Array.range 0 = #[] := rfl
            simp only [hz0, hr0, Array.map_empty] at hfill'
            simp [hr0, execOp, ho, Instr.buildSlice, run_underlying hu, hsz, hz0, hfill', newRow]
          · have hn1 : ¬ len * esz > 2 ^ 24 := by omega
            have hn2 : ¬ len * esz = 0 := by omega
            simp [execOp, ho, Instr.buildSlice, run_underlying hu, hsz, hn1, hn2, hz, hfill', newRow]
        obtain ⟨rows', arr', e1, e2, e3, e4, e5⟩ := bsF_fill H _ σ' parts.toList (repL len zero') _ (by simp [repL_eq]) h0 hp
        have hlen : len = rows'.length := by rw [e3, repL_eq]; simp
        split at e5
        · rename_i hno
          rw [putN_eq] at e5
          exact did_newSlice H (ob := ⟨esz, rows', true, false, false⟩) (cap := len) (hrun arr' e1) rfl (fun _ => hno) (by simp only; rw [e2, ← hlen]; exact Nat.le_refl _) e4 hlen (Nat.le_refl _) (Nat.le_refl _) e5
        · rw [putN_eq] at e5
          exact did_newSlice H (ob := ⟨esz, rows', false, false, false⟩) (cap := len) (hrun arr' e1) rfl (by simp) (by simp only; rw [e2, ← hlen]; exact Nat.le_refl _) e4 hlen (Nat.le_refl _) (Nat.le_refl _) e5
      · cases hp
    · cases hp
  · cases hp
end
end Go.Proofs.Ytkjbjgndinjdpaa
