/- The computed operations, one by one, and that each says what the model does. -/
import Derived.Test.YtkjbjgndinjdpaaC
set_option linter.unusedVariables false
set_option linter.unusedSimpArgs false
namespace Go.Proofs.Ytkjbjgndinjdpaa
open Go

def lenL : List C → Nat
  | [] => 0
  | _ :: cs => lenL cs + 1
theorem lenL_eq : ∀ cs : List C, lenL cs = cs.length
  | [] => rfl
  | _ :: cs => by simp [lenL, lenL_eq cs]
def setNth {α : Type} : List α → Nat → α → List α
  | [], _, _ => []
  | _ :: xs, 0, y => y :: xs
  | x :: xs, n + 1, y => x :: setNth xs n y
theorem setNth_eq {α : Type} : ∀ (l : List α) (n : Nat) (y : α), setNth l n y = l.set n y
  | [], _, _ => by simp [setNth]
  | x :: xs, 0, y => by simp [setNth]
  | x :: xs, n + 1, y => by simp [setNth, setNth_eq xs n y]

/-- An object gets other contents. -/
def setS (σ : State) (id : Nat) (ob : AObj) : Option State :=
  match σ with
  | ⟨ρ, o, κ⟩ => forceO (setNth o id (some ob)) fun o' => some ⟨ρ, o', κ⟩
theorem setS_eq (σ : State) (id : Nat) (ob : AObj) : setS σ id ob = some ⟨σ.ρ, σ.o.set id (some ob), σ.k⟩ := by
  cases σ; simp [setS, forceO_eq, setNth_eq]

/-- An operation's kind: it reads (nothing of this call's own, or one object) and leaves a value; or it does more, to one object at most. -/
inductive Kd where
  | q (rd : Option Nat)
  | e (md : Option Nat)

def mdOf : Kd → Nat → Prop
  | .q _, _ => False
  | .e md, id => md = some id

/-- Two heaps that agree on what is read. -/
def Agree (D : Nat → Prop) (e : List ALoc) (rd : Option Nat) (h h' : Array Obj) : Prop :=
  (∀ b, D b → h'[b]? = h[b]?) ∧ ∀ id, rd = some id → ∀ (b : Addr) (esz cap n : Nat), e[id]? = some (.live (some b) esz cap n) → h'[b.block]? = h[b.block]?
/-- What is left alone. -/
def Pres (md : Nat → Prop) (D : Nat → Prop) (e : List ALoc) (h : Array Obj) (D' : Nat → Prop) (e' : List ALoc) (h' : Array Obj) : Prop :=
  Fixes D D' h h' ∧ ∀ (id : Nat), ¬ md id → ∀ (b : Addr) (esz cap n : Nat), e[id]? = some (.live (some b) esz cap n) → e'[id]? = some (.live (some b) esz cap n) ∧ h'[b.block]? = h[b.block]?

/-- What an operation must do to be told by 'σ'' : it yields a value, or nothing. -/
def Did (X : Pk) (N np : Nat) (G : Ctx) (D : Nat → Prop) (e : List ALoc) (o : Oper) (a : Act) (w : World) (k : Kd) (σ σ' : State) : Prop :=
  match k with
  | .q rd => ∃ x v, (∀ w' : World, Agree D e rd w.heap w'.heap → (execOp a.eval o).run X.P w' = .ok (.value v) w') ∧ TR D w.heap e x v ∧ putT N o.dst x σ = some σ'
  | .e md => ∃ D' e' n v w', (execOp a.eval o).run X.P w = .ok n w' ∧ (n = .value v ∨ (n = .skip ∧ v = undef)) ∧ Rel N np G D' e' σ' (a.put o.dst v) w' ∧
      Pres (fun id => md = some id) D e w.heap D' e' w'.heap

section
variable {X : Pk} {N np : Nat} {G : Ctx} {D : Nat → Prop} {e : List ALoc} {σ σ' : State} {a : Act} {w : World}

theorem Agree.refl (D : Nat → Prop) (e : List ALoc) (rd : Option Nat) (h : Array Obj) : Agree D e rd h h := ⟨fun _ _ => rfl, fun _ _ _ _ _ _ _ => rfl⟩
theorem Pres.refl (md : Nat → Prop) (D : Nat → Prop) (e : List ALoc) (h : Array Obj) : Pres md D e h D e h := ⟨Fixes.refl _ _, fun _ _ _ _ _ _ he => ⟨he, rfl⟩⟩

theorem Did.out {o : Oper} {k : Kd} (H : Rel N np G D e σ a w) (h : Did X N np G D e o a w k σ σ') :
    ∃ D' e' n v w', (execOp a.eval o).run X.P w = .ok n w' ∧ (n = .value v ∨ (n = .skip ∧ v = undef)) ∧ Rel N np G D' e' σ' (a.put o.dst v) w' ∧
      Pres (mdOf k) D e w.heap D' e' w'.heap := by
  cases k with
  | q rd =>
    obtain ⟨x, v, hr, hx, hp⟩ := h
    exact ⟨D, e, _, v, w, hr w (Agree.refl _ _ _ _), .inl rfl, H.putv hx hp, Pres.refl _ _ _ _⟩
  | e md => exact h

theorem Did.pure {o : Oper} {x : T} {v : Value} {rd : Option Nat} (H : Rel N np G D e σ a w) (hr : ∀ w' : World, Agree D e rd w.heap w'.heap → (execOp a.eval o).run X.P w' = .ok (.value v) w') (hx : TR D w.heap e x v)
    (hp : putT N o.dst x σ = some σ') : Did X N np G D e o a w (.q rd) σ σ' :=
  ⟨x, v, hr, hx, hp⟩

/-- What a load reads. -/
theorem run_loadVar_cells {P : Program} {t : Nat} {ti : TI} (H : TIok P t ti) {ad : Addr} {cells : Array Value} {tt : TypeId} {fr : Nat × Nat} (hs : ad.spot = none)
    (hh : w.heap[ad.block]? = some (.cells cells tt fr)) (hl : ad.off + ti.size ≤ cells.size) (h1 : ti.agg = true ∨ ti.size = 1) :
    (loadVar t ad).run P w = .ok (if ti.agg then .agg ((cells.toList.drop ad.off).take ti.size).toArray else ((cells.toList.drop ad.off).take ti.size).toArray.getD 0 undef) w := by
  have hadd : ∀ j, ad.add j = ⟨ad.block, ad.off + j, none⟩ := by
    intro j; unfold Addr.add; cases ad; split <;> simp_all
  have hcell : ∀ j, w.cell? ⟨ad.block, ad.off + j, none⟩ = cells[ad.off + j]? := fun j => by simp [World.cell?, hh]
  simp only [loadVar, Sem.run_bind, H.isAgg, Result.andThen_ok]
  cases hagg : ti.agg with
  | true =>
    have := run_loadCells_list (P := P) w ad ((cells.toList.drop ad.off).take ti.size) (fun j v hj => by
      rw [hadd, hcell]
      rw [List.getElem?_take] at hj
      split at hj
      · simpa [List.getElem?_drop] using hj
      · cases hj)
    have hlen : ((cells.toList.drop ad.off).take ti.size).length = ti.size := by simp; omega
    rw [hlen] at this
    simp [H.sizeOf, this]
  | false =>
    have h1' : ti.size = 1 := by rcases h1 with h | h; · rw [hagg] at h; cases h
                                 · exact h
    have hc0 := hcell 0
    simp only [Nat.add_zero] at hc0
    have had : ad = ⟨ad.block, ad.off, none⟩ := by cases ad; simp_all
    have hlt : ad.off < cells.size := by omega
    have hv : w.cell? ad = some cells[ad.off] := by
      have h2 : w.cell? ad = cells[ad.off]? := by rw [← hc0, ← had]
      rw [h2]; simp [hlt]
    simp only [Bool.false_eq_true, if_false, run_load, hv, h1']
    congr 1
    simp only [Array.getD_eq_getD_getElem?, List.getElem?_toArray, List.getElem?_take, List.getElem?_drop]
    simp [hlt]

def mkPut (N : Nat) (dst : Option Nat) (agg : Bool) (σ : State) (cs : List C) : Option State :=
  match mkT agg cs with
  | some y => putT N dst y σ
  | none => none

def stLoad (L : List (Nat × TI)) (N : Nat) (dst : Option Nat) (t : Nat) (x : Operand) (σ : State) : Option State :=
  match findTI L t with
  | some ⟨agg, size, _, _, _, _, _, _⟩ => match Nat.blt 0 size with
    | false => none
    | true => match evalO σ x with
    | .one (.op id i off) => match getObj? σ id with
      | some ⟨_, [row], _, _, true⟩ => match i with
        | 0 => takeF size (row.drop off) (mkPut N dst agg σ)
        | _ + 1 => none
      | _ => none
    | .one (.fp cs) => takeF size cs (mkPut N dst agg σ)
    | _ => none
  | none => none

theorem mkT_size {agg : Bool} {cs : List C} {y : T} (h : mkT agg cs = some y) : agg = true ∨ cs.length = 1 := by
  unfold mkT at h
  split at h
  · exact .inl rfl
  · exact .inr rfl
  · cases h

theorem did_loadAt {rd : Option Nat} {o : Oper} {t : Nat} {x : Operand} {ti : TI} {ad : Addr} {cells : Array Value} {tt : TypeId} {fr : Nat × Nat} {cs : List C}
    (ho : o.op = .load t x) (H : Rel N np G D e σ a w) (hti : findTI X.L t = some ti) (hx : a.eval x = .pointer (some ad)) (hs : ad.spot = none)
    (hh : w.heap[ad.block]? = some (.cells cells tt fr)) (hag : ∀ w' : World, Agree D e rd w.heap w'.heap → w'.heap[ad.block]? = w.heap[ad.block]?) (hr : CRp D w.heap e cs (cells.toList.drop ad.off)) (hle : ti.size ≤ cs.length) (h0 : 0 < ti.size)
    (hp : mkPut N o.dst ti.agg σ (cs.take ti.size) = some σ') : Did X N np G D e o a w (.q rd) σ σ' := by
  unfold mkPut at hp
  split at hp
  · rename_i y hy
    have htk := X.tiok hti
    have hlen := CRp.len hr
    simp only [List.length_drop, Array.length_toList] at hlen
    have h1 : ti.agg = true ∨ ti.size = 1 := by
      rcases mkT_size hy with h | h
      · exact .inl h
      · simp at h; exact .inr (by omega)
    have hrun := fun (w' : World) (hw : Agree D e rd w.heap w'.heap) => run_loadVar_cells (w := w') (X.tiok hti) hs ((hag w' hw).trans hh) (by omega) h1
    refine Did.pure H (x := y) (fun w' hw => ?_) (mkT_TR hy (vs := ((cells.toList.drop ad.off).take ti.size).toArray) ?_ ?_) hp
    · simp only [execOp, ho, hx, Instr.loadAt, Instr.sureAddr, Sem.run_bind, Sem.run_pure, Result.andThen_ok, hrun w' hw]
    · simp; omega
    · exact CRp.take' (by simp; omega) (CRp.take _ hr)
  · cases hp

/-- What an own object's pointer points at. -/
theorem Rel.own_ptr (H : Rel N np G D e σ a w) {id i off : Nat} {x : Operand} {ob : AObj} {row : List C} (hx : evalO σ x = .one (.op id i off)) (hob : σ.o[id]? = some (some ob)) (hi : ob.elems[i]? = some row) :
    ∃ b cap cells t, e[id]? = some (.live (some b) ob.esz cap ob.elems.length) ∧ a.eval x = .pointer (some ⟨b.block, b.off + i * ob.esz + off, none⟩) ∧ b.spot = none ∧
      w.heap[b.block]? = some (.cells cells t (0, 0)) ∧ ob.elems.length ≤ cap ∧ b.off + cap * ob.esz ≤ cells.size ∧ CRr D w.heap e ob.esz ob.elems (cells.toList.drop b.off) ∧
      row.length = ob.esz ∧ CRp D w.heap e row (cells.toList.drop (b.off + i * ob.esz)) := by
  have hx' := H.ev x
  rw [hx] at hx'
  simp only [TR, CR] at hx'
  obtain ⟨b, cap, cells, t, he, hs, hh, hcap, hsz, hr⟩ := H.sr.block hob (by intro h0; rw [h0] at hi; simp at hi)
  rw [he] at hx'
  obtain ⟨b', hb', hxv⟩ := hx'
  simp at hb'; subst hb'
  have := CRr.get hr hi
  rw [List.drop_drop] at this
  exact ⟨b, cap, cells, t, he, hxv, hs, hh, hcap, hsz, hr, this.1, this.2⟩

def idOf : T → Option Nat
  | .one (.op id _ _) => some id
  | _ => none

theorem did_load {o : Oper} {t : Nat} {x : Operand} (ho : o.op = .load t x) (H : Rel N np G D e σ a w) (hp : stLoad X.L N o.dst t x σ = some σ') : Did X N np G D e o a w (.q (idOf (evalO σ x))) σ σ' := by
  unfold stLoad at hp
  split at hp
  · rename_i agg size bytes zero fields elem kind ik hti
    split at hp
    · cases hp
    · rename_i h0
      have h0' : 0 < size := by simpa [Nat.blt_eq] using h0
      split at hp
      · rename_i id i off hx
        split at hp
        · rename_i esz row cl fz hob
          split at hp
          · have hob' := getObj?_eq hob
            obtain ⟨b, cap, cells, tt, he, hxv, hs, hh, hcap, hsz, hr, hrl, hrow⟩ := H.own_ptr (i := 0) (row := row) hx hob' rfl
            rw [takeF_eq] at hp
            split at hp
            · rename_i hle
              rw [hx]
              refine did_loadAt ho H hti hxv rfl hh (fun w' hw => hw.2 id rfl b _ _ _ he) (cs := row.drop off) ?_ hle h0' hp
              have := CRp.drop off hrow
              rw [List.drop_drop] at this
              exact this
            · cases hp
          · cases hp
        · cases hp
      · rename_i cs hx
        have hx' := H.ev x
        rw [hx] at hx'
        simp only [TR, CR] at hx'
        obtain ⟨ad, cells, tt, fr, hxv, hs, hD, hh, hr⟩ := hx'
        rw [takeF_eq] at hp
        split at hp
        · rename_i hle
          rw [hx]
          exact did_loadAt ho H hti hxv hs hh (fun w' hw => hw.1 _ hD) (cs := cs) (CRp.mono (Fixes.refl _ _) [] e (Leads.nil e) cs _ hr) hle h0' hp
        · cases hp
      · cases hp
  · cases hp

/-- A store into an own object: general form, the new elements given. -/
theorem did_storeAt {o : Oper} {t : Nat} {x y : Operand} {ti : TI} {id i off : Nat} {ob : AObj} {row cs : List C} {elems' : List (List C)} {cl' : Bool}
    (ho : o.op = .store t x y) (hd : o.dst = none) (H : Rel N np G D e σ a w) (hti : findTI X.L t = some ti) (hx : evalO σ x = .one (.op id i off)) (hob : σ.o[id]? = some (some ob))
    (hfz : ob.fz = false) (hi : ob.elems[i]? = some row) (hc : cellsT (evalO σ y) = some cs) (hsz' : cs.length = ti.size) (hoff : off + cs.length ≤ row.length)
    (hel : elems' = ob.elems.set i (patch row off cs)) (hcl : cl' = true → noOwnR elems' = true) :
    Did X N np G D e o a w (.e (some id)) σ ⟨σ.ρ, σ.o.set id (some ⟨ob.esz, elems', cl', false, ob.box⟩), σ.k⟩ := by
  obtain ⟨b, cap, cells, tt, he, hxv, hs, hh, hcap, hsz, hr, hrl, hrow⟩ := H.own_ptr hx hob hi
  obtain ⟨hvl, hvr, hv1⟩ := cellsT_TR hc (H.ev y)
  have htk := X.tiok hti
  have hlt : i < ob.elems.length := by
    rcases Nat.lt_or_ge i ob.elems.length with h' | h'
    · exact h'
    · rw [List.getElem?_eq_none h'] at hi; cases hi
  have hmul : (i + 1) * ob.esz ≤ cap * ob.esz := Nat.mul_le_mul_right _ (by omega)
  rw [Nat.succ_mul] at hmul
  have hrun := run_storeCells_at X.P b.block (b.off + i * ob.esz + off) tt (a.eval y).cells.toList 0 cells w hh (by simp [hvl]; omega) (by simpa using hv1)
  obtain ⟨cells', hcs'⟩ : ∃ c, c = (cells.toList.take (b.off + i * ob.esz + off + 0) ++ (a.eval y).cells.toList ++ cells.toList.drop (b.off + i * ob.esz + off + 0 + (a.eval y).cells.toList.length)).toArray := ⟨_, rfl⟩
  rw [← hcs'] at hrun
  have hnD : ¬ D b.block := fun hD => by
    obtain ⟨o', ho', hf'⟩ := (H.sr.own id b _ _ _ he).2 hD
    rw [hob] at ho'; simp at ho'; subst ho'; rw [hfz] at hf'; cases hf'
  refine ⟨D, e, .skip, undef, w.setRow b.block cells', ?_, .inr ⟨rfl, rfl⟩, ?_, fun c hc => ⟨hc, setRow_other w _ _ _ (fun hcb => hnD (hcb ▸ hc))⟩, fun id' hid' b' esz' cap' n' he' => ⟨he', setRow_other w _ _ _ (fun hbb => hid' (by
    rw [H.sr.sep id id' b b' _ _ _ _ _ _ he he' hbb.symm]))⟩⟩
  · have hsize : (a.eval y).cells.size = ti.size := by rw [hvl, hsz']
    simp only [execOp, ho, hxv, Instr.storeAt, Instr.sureAddr, Sem.run_bind, Sem.run_pure, Result.andThen_ok, storeVar, htk.sizeOf, hsize, ne_eq, not_true_eq_false, if_false, hrun]
  · rw [hd]
    have hrel := H.setObj (ob' := ⟨ob.esz, elems', cl', false, ob.box⟩)
      (cells' := cells') hob hfz he hs hh hcap hsz ?_ rfl (by simp [hel]) rfl hcl ?_
    · exact hrel
    · rw [hcs']; simp [hvl]; omega
    · have := CRr_patch hr hi (off := off) (cs := cs) (by omega) (by simpa using hvl) hvr
      rw [hel, hcs']
      refine CRr.congr (fun j hj => ?_) this
      congr 1
      simp only [List.toList_toArray, Nat.add_zero, patch]
      rw [List.append_assoc, List.drop_append_of_le_length (by simp [hvl]; omega), ← List.append_assoc]
      congr 1
      · rw [List.drop_take]
        congr 2
        omega
      · rw [List.drop_drop]
        congr 1
        omega

def stStore (L : List (Nat × TI)) (dst : Option Nat) (t : Nat) (x y : Operand) (σ : State) : Option State :=
  match dst with
  | some _ => none
  | none => match findTI L t with
    | none => none
    | some ⟨_, size, _, _, _, _, _, _⟩ => match evalO σ x with
      | .one (.op id i off) => match getObj? σ id with
        | some ⟨esz, [row], false, false, true⟩ => match i with
          | 0 => match cellsT (evalO σ y) with
            | some cs => match Nat.beq (lenL cs) size, Nat.ble (off + lenL cs) (lenL row) with
              | true, true => forceL (patch row off cs) fun row' => setS σ id ⟨esz, [row'], false, false, true⟩
              | _, _ => none
            | none => none
          | _ + 1 => none
        | _ => none
      | _ => none

theorem did_store {o : Oper} {t : Nat} {x y : Operand} (ho : o.op = .store t x y) (H : Rel N np G D e σ a w) (hp : stStore X.L o.dst t x y σ = some σ') : Did X N np G D e o a w (.e (idOf (evalO σ x))) σ σ' := by
  unfold stStore at hp
  split at hp
  · cases hp
  · rename_i hd
    split at hp
    · cases hp
    · rename_i agg size bytes zero fields elem kind ik hti
      split at hp
      · rename_i id i off hx
        split at hp
        · rename_i esz row hob
          split at hp
          · split at hp
            · rename_i cs hc
              split at hp
              · rename_i h1 h2
                rw [forceL_eq, setS_eq] at hp
                simp at hp; subst hp
                have h1' := Nat.eq_of_beq_eq_true h1
                have h2' := Nat.le_of_ble_eq_true h2
                rw [lenL_eq] at h1' h2'
                rw [lenL_eq] at h2'
                rw [hx]
                exact did_storeAt ho hd H hti hx (getObj?_eq hob) rfl (row := row) rfl hc h1' h2' (elems' := [patch row off cs]) (cl' := false) rfl (by simp)
              · cases hp
            · cases hp
          · cases hp
        · cases hp
      · cases hp
end
end Go.Proofs.Ytkjbjgndinjdpaa
