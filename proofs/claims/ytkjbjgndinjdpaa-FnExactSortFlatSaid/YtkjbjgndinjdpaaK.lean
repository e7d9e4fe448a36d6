/- Contracts; bodies; calls. -/
import Derived.Test.YtkjbjgndinjdpaaJ
set_option linter.unusedVariables false
set_option linter.unusedSimpArgs false
namespace Go.Proofs.Ytkjbjgndinjdpaa
open Go

abbrev Post := T → List (Option AObj) → Prop

/-- 'Called with what 'args' and 'o' say, function 'f' returns what 'Φ' says.' -/
def Callable (P : Program) (f : FuncId) : Prop := ∃ fn, P.funcs[f]? = some fn ∧ fn.body.isNone = false ∧ (fn.name == "runtime.NumGoroutine") = false

def ACalls (X : Pk) (f : FuncId) (args : List T) (o : List (Option AObj)) (Φ : Post) : Prop :=
  Callable X.P f ∧ ∀ (D : Nat → Prop) (e : List ALoc) (w : World) (vals : List Value), SR D w.heap e o → TRs D w.heap e args vals →
    (∀ (id : Nat) (b : Addr) (esz cap n : Nat), e[id]? = some (.live (some b) esz cap n) → ¬ D b.block) →
    Calls X.P f vals.toArray w fun en w' => ∃ v r o' D' e', en = .returned v ∧ Φ r o' ∧ TR D' w'.heap e' r v ∧ SR D' w'.heap e' o' ∧ Ext w (Wof e) w' ∧
      (∀ (id : Nat) (b : Addr) (esz cap n : Nat), e'[id]? = some (.live (some b) esz cap n) → Wof e b.block ∨ w.heap.size ≤ b.block) ∧
      (∀ b, D' b → b < w.heap.size → D b) ∧ (∀ id, id < e.length → e'[id]? = e[id]?) ∧ e.length ≤ o'.length

theorem ACalls.mono {X : Pk} {f : FuncId} {args : List T} {o : List (Option AObj)} {Φ Ψ : Post} (h : ACalls X f args o Φ) (hm : ∀ r o', Φ r o' → Ψ r o') : ACalls X f args o Ψ :=
  ⟨h.1, fun D e w vals h1 h2 h3 => (h.2 D e w vals h1 h2 h3).mono fun en w' ⟨v, r, o', D', e', a1, a2, a3⟩ => ⟨v, r, o', D', e', a1, hm _ _ a2, a3⟩⟩

/-! ### Results -/
def rdVar (L : List (Nat × TI)) (σ : State) (t : Nat) (x : T) : Option T :=
  match findTI L t with
  | some ⟨agg, size, _, _, _, _, _, _⟩ => match Nat.blt 0 size with
    | false => none
    | true => match x with
      | .one (.op id i off) => match getObj? σ id with
        | some ⟨_, [row], _, _, true⟩ => match i with
          | 0 => takeF size (row.drop off) (mkT agg)
          | _ + 1 => none
        | _ => none
      | _ => none
  | none => none

def resL (L : List (Nat × TI)) (σ : State) : List ResultVar → List T → Option (List T)
  | [], acc => some acc
  | .tmp t :: r, acc => resL L σ r (acc ++ [getρ σ.ρ t])
  | .cell ad t :: r, acc => match rdVar L σ t (getρ σ.ρ ad) with
    | some y => resL L σ r (acc ++ [y])
    | none => none

def resT (L : List (Nat × TI)) (fn : Func) (σ : State) : Option T :=
  match resL L σ fn.results.toList [] with
  | some [t] => some t
  | some ts => some (.tup ts)
  | none => none

section
variable {X : Pk} {N np : Nat} {G : Ctx} {D : Nat → Prop} {e : List ALoc} {σ σ' : State} {a : Act} {w : World}

theorem rdVar_spec {t : Nat} {x y : T} {v : Value} (H : Rel N np G D e σ a w) (hx : TR D w.heap e x v) (hp : rdVar X.L σ t x = some y) :
    ∃ ad u, v = .pointer (some ad) ∧ (loadVar t ad).run X.P w = .ok u w ∧ TR D w.heap e y u := by
  unfold rdVar at hp
  split at hp
  · rename_i agg size bytes zero fields elem kind ik hti
    split at hp
    · cases hp
    · rename_i h0
      have h0' : 0 < size := by simpa [Nat.blt_eq] using h0
      split at hp
      · rename_i id i off
        split at hp
        · rename_i esz row cl fz hob
          split at hp
          · have hob' := getObj?_eq hob
            obtain ⟨b, cap, cells, tt, he, hs, hh, hcap, hsz, hr⟩ := H.sr.block hob' (by simp)
            simp only [TR, CR, he] at hx
            obtain ⟨b', hb', rfl⟩ := hx
            simp at hb'; subst hb'
            rw [takeF_eq] at hp
            split at hp
            · rename_i hle
              simp only [CRr] at hr
              have hrow := CRp.drop off hr.2.1
              rw [List.drop_drop] at hrow
              have hlen := CRp.len hrow
              simp only [List.length_drop, Array.length_toList] at hlen hle
              have h1 : agg = true ∨ size = 1 := by
                rcases mkT_size hp with h | h
                · exact .inl h
                · simp at h; exact .inr (by omega)
              have hrun := run_loadVar_cells (w := w) (X.tiok hti) (ad := ⟨b.block, b.off + off, none⟩) rfl hh (by simp only; omega) h1
              refine ⟨_, _, rfl, by simp only [Nat.zero_mul, Nat.add_zero]; exact hrun, ?_⟩
              refine mkT_TR hp (vs := ((cells.toList.drop (b.off + off)).take size).toArray) ?_ ?_
              · simp; omega
              · exact CRp.take' (by simp; omega) (CRp.take _ hrow)
            · cases hp
          · cases hp
        · cases hp
      · cases hp
  · cases hp

theorem TRs.snoc {h : Array Obj} : ∀ {ts : List T} {vs : List Value} {t : T} {v : Value}, TRs D h e ts vs → TR D h e t v → TRs D h e (ts ++ [t]) (vs ++ [v])
  | [], vs, t, v, H, h1 => by simp only [TRs] at H; subst H; simp only [List.nil_append, TRs]; exact ⟨v, [], rfl, h1, rfl⟩
  | t0 :: ts, vs, t, v, H, h1 => by
    simp only [TRs] at H
    obtain ⟨x, r, rfl, h2, h3⟩ := H
    simp only [List.cons_append, TRs]
    exact ⟨x, r ++ [v], rfl, h2, TRs.snoc h3 h1⟩

def resVal (tmps : Array Value) : ResultVar → Sem Value
  | .tmp t => pure (tmps.getD t undef)
  | .cell a t => do loadVar t (← asAddr (tmps.getD a undef))

theorem resL_spec (H : Rel N np G D e σ a w) : ∀ (rs : List ResultVar) (acc ts : List T) (vs : List Value), TRs D w.heap e acc vs → resL X.L σ rs acc = some ts →
    ∃ us, (rs.mapM (resVal a.tmps)).run X.P w = .ok us w ∧ TRs D w.heap e ts (vs ++ us)
  | [], acc, ts, vs, hv, hp => by simp [resL] at hp; subst hp; exact ⟨[], by simp, by simpa using hv⟩
  | .tmp t :: r, acc, ts, vs, hv, hp => by
    simp only [resL] at hp
    obtain ⟨us, h1, h2⟩ := resL_spec H r _ ts _ (hv.snoc (H.tmps t)) hp
    refine ⟨a.tmps.getD t undef :: us, ?_, by simpa using h2⟩
    simp [List.mapM_cons, resVal, h1]
  | .cell ad t :: r, acc, ts, vs, hv, hp => by
    simp only [resL] at hp
    split at hp
    · rename_i y hy
      obtain ⟨addr, u, hv1, hr1, ht1⟩ := rdVar_spec H (H.tmps ad) hy
      obtain ⟨us, h1, h2⟩ := resL_spec H r _ ts _ (hv.snoc ht1) hp
      refine ⟨u :: us, ?_, by simpa using h2⟩
      simp only [List.mapM_cons, resVal, hv1, asAddr, Sem.run_bind, Sem.run_pure, Result.andThen_ok, hr1, h1]
    · cases hp

theorem resT_spec (H : Rel N np G D e σ a w) {fn : Func} {t : T} (hp : resT X.L fn σ = some t) : ∃ v, (results fn a.tmps).run X.P w = .ok v w ∧ TR D w.heap e t v := by
  have hres : results fn a.tmps = (do
      let vs ← fn.results.mapM (resVal a.tmps)
      pure (if h : vs.size = 1 then vs[0] else .tuple vs)) := by
    unfold results
    congr 1
  unfold resT at hp
  split at hp
  · rename_i t' hl
    simp at hp; subst hp
    obtain ⟨us, h1, h2⟩ := resL_spec H fn.results.toList [] _ [] (by simp [TRs]) hl
    simp only [List.nil_append, TRs] at h2
    obtain ⟨x, r, rfl, h3, rfl⟩ := h2
    refine ⟨x, ?_, h3⟩
    rw [hres]
    simp [Array.mapM_eq_mapM_toList, h1]
  · rename_i ts hne hl
    simp at hp; subst hp
    obtain ⟨us, h1, h2⟩ := resL_spec H fn.results.toList [] _ [] (by simp [TRs]) hl
    simp only [List.nil_append] at h2
    refine ⟨.tuple us.toArray, ?_, by simp only [TR]; exact ⟨_, rfl, by simpa using h2⟩⟩
    rw [hres]
    have hn : us.length ≠ 1 := by
      intro h1'
      cases us with
      | nil => simp at h1'
      | cons x r =>
        cases r with
        | nil =>
          cases ts with
          | nil => simp [TRs] at h2
          | cons t ts' =>
            simp only [TRs] at h2
            obtain ⟨x', r', he', h3, h4⟩ := h2
            simp at he'
            obtain ⟨rfl, rfl⟩ := he'
            cases ts' with
            | nil => exact hne t rfl
            | cons t2 ts2 => simp only [TRs] at h4; obtain ⟨_, _, h5, _⟩ := h4; cases h5
        | cons x2 r2 => simp at h1'
    simp [Array.mapM_eq_mapM_toList, h1, hn]
  · cases hp

def rangeL : Nat → Nat → List Nat → List Nat
  | _, 0, ks => ks
  | i, n + 1, ks => i :: rangeL (i + 1) n ks

theorem rangeL_get : ∀ (n i : Nat) (ks : List Nat) (j : Nat), (rangeL i n ks)[j]? = if j < n then some (i + j) else ks[j - n]?
  | 0, i, ks, j => by simp [rangeL]
  | n + 1, i, ks, 0 => by simp [rangeL]
  | n + 1, i, ks, j + 1 => by
    simp only [rangeL, List.getElem?_cons_succ, rangeL_get n (i + 1) ks j]
    by_cases h : j < n
    · rw [if_pos h, if_pos (by omega)]; congr 1; omega
    · rw [if_neg h, if_neg (by omega)]; congr 1; omega
theorem rangeL_length : ∀ (n i : Nat) (ks : List Nat), (rangeL i n ks).length = n + ks.length
  | 0, i, ks => by simp [rangeL]
  | n + 1, i, ks => by simp [rangeL, rangeL_length n (i + 1) ks]; omega

/-- What the state must be at the end: the results told of what is kept, all else that is this call's own frozen. -/
def Fin (X : Pk) (fn : Func) (np : Nat) (Φ : Post) (σ : State) : Prop :=
  ∃ (ks : List Nat) (d : Nat) (t : T), nodupB (rangeL 0 np ks) = true ∧ resT X.L fn σ = some t ∧
    Φ (reT (fun id => idxOf (rangeL 0 np ks) id 0) (fzAll (fun id => idxOf (rangeL 0 np ks) id 0) 0 σ.o) d t) (pickO (fzAll (fun id => idxOf (rangeL 0 np ks) id 0) 0 σ.o) d (rangeL 0 np ks))

def finK (X : Pk) (fn : Func) (np : Nat) (Φ : Post) : KP := fun ex σ => match ex with
  | .normal | .ret => ∃ σ', Weak fn.ntmps np σ σ' ∧ Fin X fn np Φ σ'
  | _ => False
theorem Weak.refl {N np : Nat} {σ : State} : Weak N np σ σ := fun {_ D e _ _} H => ⟨D, e, H⟩
theorem Weak.trans {N np : Nat} {σ σ' σ'' : State} (h : Weak N np σ σ') (h' : Weak N np σ' σ'') : Weak N np σ σ'' := fun H => by
  obtain ⟨D', e', H'⟩ := h H
  exact h' H'
theorem fin_now {X : Pk} {fn : Func} {np : Nat} {Φ : Post} {σ : State} (h : Fin X fn np Φ σ) : ∃ σ', Weak fn.ntmps np σ σ' ∧ Fin X fn np Φ σ' := ⟨σ, Weak.refl, h⟩

theorem idxOf_some : ∀ {l : List Nat} {id m j : Nat}, l[j]? = some id → ∃ i, idxOf l id m = some i
  | [], id, m, j, h => by simp at h
  | x :: r, id, m, j, h => by
    simp only [idxOf]
    split
    · exact ⟨_, rfl⟩
    · rename_i hb
      cases j with
      | zero => simp at h; subst h; rw [Nat.beq_refl] at hb; cases hb
      | succ j => exact idxOf_some (j := j) (by simpa using h)

def zipArgs : Nat → List T → List (Nat × T)
  | _, [] => []
  | i, t :: ts => (i, t) :: zipArgs (i + 1) ts

theorem getρ_zip : ∀ (ts : List T) (i j : Nat), getρ (zipArgs i ts) (i + j) = (ts[j]?).getD .junk
  | [], i, j => by simp [zipArgs, getρ]
  | t :: ts, i, 0 => by simp [zipArgs, getρ]
  | t :: ts, i, j + 1 => by
    simp only [zipArgs, getρ]
    have : Nat.beq i (i + (j + 1)) = false := by
      cases hb : Nat.beq i (i + (j + 1)) with
      | false => rfl
      | true => have := Nat.eq_of_beq_eq_true hb; omega
    rw [this]
    simpa [Nat.add_assoc, Nat.add_comm 1 j] using getρ_zip ts (i + 1) j

theorem acalls_of_body {f : FuncId} {fn : Func} {c : Code} {args : List T} {o : List (Option AObj)} {Φ : Post} (hf : X.P.funcs[f]? = some fn) (hb : fn.body = some c)
    (hna : (fn.name == "runtime.NumGoroutine") = false) (hn : Nat.ble args.length fn.ntmps = true) (h : goal X fn.ntmps o.length (finK X fn o.length Φ) (.cod c []) ⟨zipArgs 0 args, o, []⟩) : ACalls X f args o Φ := by
  refine ⟨⟨fn, hf, by rw [hb]; rfl, hna⟩, ?_⟩
  intro D e w vals hsr hargs hnd
  refine calls_of_wp hf hb ?_
  have hlen : vals.length = args.length := by
    clear h hf hb hn hna
    induction args generalizing vals with
    | nil => simp only [TRs] at hargs; subst hargs; rfl
    | cons t ts ih => simp only [TRs] at hargs; obtain ⟨x, r, rfl, _, h2⟩ := hargs; simp [ih r h2]
  have hn' := Nat.le_of_ble_eq_true hn
  have H0 : Rel fn.ntmps o.length ⟨w, D, e⟩ D e ⟨zipArgs 0 args, o, []⟩ { tmps := vals.toArray ++ Array.replicate (fn.ntmps - vals.toArray.size) undef, defers := [] } w := by
    refine ⟨hsr.len, Nat.le_refl _, Ext.refl _ _, rfl, by simp; omega, fun t => ?_, hsr, fun id b esz cap n he => .inl ⟨id, b, esz, cap, n, he, rfl⟩, fun b hb _ => hb, fun _ _ => rfl⟩
    have h1 := getρ_zip args 0 t
    simp only [Nat.zero_add] at h1
    simp only [h1]
    cases ht : args[t]? with
    | none => simp [TR]
    | some x =>
      obtain ⟨v, hv, hxv⟩ := TRs.get hargs ht
      have hlt : t < vals.length := by
        rcases Nat.lt_or_ge t vals.length with h' | h'
        · exact h'
        · rw [List.getElem?_eq_none h'] at hv; cases hv
      have : (vals.toArray ++ Array.replicate (fn.ntmps - vals.toArray.size) undef).getD t undef = v := by
        simp only [Array.getD_eq_getD_getElem?]
        rw [Array.getElem?_append_left (by simpa using hlt)]
        simp [hv]
      rw [this]
      exact hxv
  refine wp_mono (h ⟨w, D, e⟩ D e _ w H0) ?_
  rintro ex a1 w1 ⟨D1, e1, σ1, H1, hk⟩
  have fin : (∃ σ', Weak fn.ntmps o.length σ1 σ' ∧ Fin X fn o.length Φ σ') → a1.defers = [] ∧ ∃ v, (results fn a1.tmps).run X.P w1 = .ok v w1 ∧ ∃ v' r o' D' e', Ending.returned v = .returned v' ∧ Φ r o' ∧ TR D' w1.heap e' r v' ∧ SR D' w1.heap e' o' ∧ Ext w (Wof e) w1 ∧
      (∀ (id : Nat) (b : Addr) (esz cap n : Nat), e'[id]? = some (.live (some b) esz cap n) → Wof e b.block ∨ w.heap.size ≤ b.block) ∧
      (∀ b, D' b → b < w.heap.size → D b) ∧ (∀ id, id < e.length → e'[id]? = e[id]?) ∧ e.length ≤ o'.length := by
    rintro ⟨σ1', hw1, ks, d, t, hnd', hres, hΦ⟩
    obtain ⟨D1, e1, H1⟩ := hw1 H1
    obtain ⟨v, hv, htv⟩ := resT_spec H1 hres
    obtain ⟨D2, H2, hD2⟩ := H1.fzAll (fun id => idxOf (rangeL 0 o.length ks) id 0) (fun id hid => by
      have : (rangeL 0 o.length ks)[id]? = some id := by rw [rangeL_get, if_pos hid]; simp
      obtain ⟨i, hi⟩ := idxOf_some (m := 0) this
      simp [hi])
    have htv2 : TR D2 w1.heap e1 t v := TR.mono (fun b hb => ⟨hD2 b hb, rfl⟩) (Leads.refl e1) t v htv
    refine ⟨H1.defers, v, hv, v, _, _, D2, pickE e1 (rangeL 0 o.length ks), rfl, hΦ, reT_spec H2.sr (fun id j l => pick_map id j l) d t v htv2, H2.sr.pick hnd' d, H1.ext, ?_, H2.old, ?_, ?_⟩
    · intro id b esz cap n he
      rw [pickE_get] at he
      cases hi : (rangeL 0 o.length ks)[id]? with
      | none => rw [hi] at he; simp at he
      | some id' =>
        rw [hi] at he
        simp only [Option.map_some, List.getD, Option.some.injEq] at he
        cases hid : e1[id']? with
        | none => rw [hid] at he; simp at he
        | some l => rw [hid] at he; simp at he; subst he; exact H1.new id' b _ _ _ hid
    · intro id hid
      have hid' : id < o.length := by rw [← hsr.len]; exact hid
      rw [pickE_get, rangeL_get, if_pos hid']
      simp only [Nat.zero_add, Option.map_some, List.getD]
      have := H1.keep id hid'
      simp only at this
      rw [this]
      rw [List.getElem?_eq_getElem hid]; simp
    · unfold pickO; rw [pickO'_length, rangeL_length, hsr.len]; omega
  cases ex with
  | normal => exact fin hk
  | ret => exact fin hk
  | exit id => exact hk.elim
  | goto l => exact hk.elim
  | panic ch => exact hk.elim
  | outgrown => exact hk.elim
end
end Go.Proofs.Ytkjbjgndinjdpaa
