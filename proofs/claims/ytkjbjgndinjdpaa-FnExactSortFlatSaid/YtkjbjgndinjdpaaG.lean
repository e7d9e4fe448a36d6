/- The rest of the computed operations, and all of them as one function. -/
import Derived.Test.YtkjbjgndinjdpaaF
set_option linter.unusedVariables false
set_option linter.unusedSimpArgs false
namespace Go.Proofs.Ytkjbjgndinjdpaa
open Go
section
variable {X : Pk} {N np : Nat} {G : Ctx} {D : Nat → Prop} {e : List ALoc} {σ σ' : State} {a : Act} {w : World}

def memN : Nat → List Nat → Bool
  | _, [] => false
  | n, m :: r => match Nat.beq n m with
    | true => true
    | false => memN n r

/-- Told by hint: the choice's test has been decided. -/
def stPick (N : Nat) (dst : Option Nat) (c x y : Operand) (σ : State) : Option State :=
  match c with
  | .tmp t => match memN t σ.k with
    | true => match evalO σ c with
      | .one (.bool true) => putT N dst (evalO σ x) σ
      | .one (.bool false) => putT N dst (evalO σ y) σ
      | _ => none
    | false => none
  | _ => none

theorem one_bool {b : Bool} {h : Array Obj} {v : Value} (H : TR D h e (.one (.bool b)) v) : v = .bool b := by simpa only [TR, CR] using H
theorem one_int {k : IntKind} {n : Int} {h : Array Obj} {v : Value} (H : TR D h e (.one (.int k n)) v) : v = .int k n := by simpa only [TR, CR] using H
theorem one_str {s : Str} {h : Array Obj} {v : Value} (H : TR D h e (.one (.str s)) v) : v = .string ⟨s.toArray⟩ := by simpa only [TR, CR] using H

theorem did_move {o : Oper} {x : Operand} (ho : o.op = .move x ∨ o.op = .assign x) (H : Rel N np G D e σ a w) (hp : putT N o.dst (evalO σ x) σ = some σ') : Did X N np G D e o a w (.q none) σ σ' := by
  refine Did.pure H (fun w _ => ?_) (H.ev x) hp
  rcases ho with ho | ho <;> simp [execOp, ho]

theorem did_pick {o : Oper} {c x y : Operand} (ho : o.op = .pick c x y) (H : Rel N np G D e σ a w) (hp : stPick N o.dst c x y σ = some σ') : Did X N np G D e o a w (.q none) σ σ' := by
  unfold stPick at hp
  split at hp
  · rename_i t
    split at hp
    · split at hp
      · rename_i hc
        have h0 := one_bool (hc ▸ H.ev (.tmp t))
        exact Did.pure H (fun w _ => by simp [execOp, ho, h0, asBool]) (H.ev x) hp
      · rename_i hc
        have h0 := one_bool (hc ▸ H.ev (.tmp t))
        exact Did.pure H (fun w _ => by simp [execOp, ho, h0, asBool]) (H.ev y) hp
      · cases hp
    · cases hp
  · cases hp

def stFieldAddr (L : List (Nat × TI)) (N : Nat) (dst : Option Nat) (t : Nat) (x : Operand) (i : Nat) (σ : State) : Option State :=
  match findTI L t with
  | some ⟨_, _, _, _, fields, _, 3, _⟩ => match nth fields i with
    | some (off', ft) => match findTI L ft with
      | some ⟨_, size, _, _, _, _, _, _⟩ => match Nat.blt 0 size with
        | false => none
        | true => match evalO σ x with
          | .one (.op id j off) => match getObj? σ id with
            | some _ => putT N dst (.one (.op id j (off + off'))) σ
            | none => none
          | .one (.fp cs) => forceL (cs.drop off') fun cs' => putT N dst (.one (.fp cs')) σ
          | _ => none
      | none => none
    | none => none
  | _ => none

theorem run_fieldAt {P : Program} {t i off' ft : Nat} {fields : List (Nat × Nat)} {ti : TI} (htk : TIok P t ti) (hk : ti.kind = 3) (hfs : ti.fields = fields) (hf : nth fields i = some (off', ft))
    {tf : TI} (htf : TIok P ft tf) (h0 : 0 < tf.size) (ad : Addr) (w : World) :
    (Instr.fieldAt t (.pointer (some ad)) i).run P w = .ok (.pointer (some (ad.add off'))) w := by
  obtain ⟨fs, hu, hfs'⟩ := htk.struct hk
  rw [hfs] at hfs'
  rw [nth_eq, ← hfs', List.getElem?_map] at hf
  cases hfi : fs.toList[i]? with
  | none => rw [hfi] at hf; simp at hf
  | some f =>
    rw [hfi] at hf
    simp at hf
    obtain ⟨rfl, rfl⟩ := hf
    have hfi' : fs[i]? = some f := by simpa using hfi
    have hn : ¬ tf.size = 0 := by omega
    simp [Instr.fieldAt, run_underlying hu, hfi', Instr.sureAddr, fieldPlace, htf.sizeOf, hn]

theorem add_eq (ad : Addr) (n : Nat) (h : ad.spot = none) : ad.add n = ⟨ad.block, ad.off + n, none⟩ := by
  unfold Addr.add; cases ad; split <;> simp_all

theorem did_fieldAddr {o : Oper} {t i : Nat} {x : Operand} (ho : o.op = .fieldAddr t x i) (H : Rel N np G D e σ a w) (hp : stFieldAddr X.L N o.dst t x i σ = some σ') : Did X N np G D e o a w (.q none) σ σ' := by
  unfold stFieldAddr at hp
  split at hp
  · rename_i agg size bytes zero fields elem ik hti
    split at hp
    · rename_i off' ft hf
      split at hp
      · rename_i agg' size' bytes' zero' fields' elem' kind' ik' htf
        split at hp
        · cases hp
        · rename_i h0
          have h0' : 0 < size' := by simpa [Nat.blt_eq] using h0
          have hrun := run_fieldAt (X.tiok hti) rfl rfl hf (X.tiok htf) h0'
          split at hp
          · rename_i id j off hx
            split at hp
            · rename_i ob hob
              obtain ⟨aa, cap, n, he, _⟩ := H.sr.objs id ob (getObj?_eq hob)
              have hx' := H.ev x
              rw [hx] at hx'
              simp only [TR, CR, he] at hx'
              obtain ⟨b, hb, hv⟩ := hx'
              refine Did.pure H (v := .pointer (some ⟨b.block, b.off + j * ob.esz + (off + off'), none⟩)) (fun w _ => ?_) ?_ hp
              · simp only [execOp, ho, hv, Sem.run_bind, hrun, Result.andThen_ok, Sem.run_pure]
                rw [add_eq _ off' rfl]
                simp only [Nat.add_assoc]
              · simp only [TR, CR, he]; exact ⟨b, hb, rfl⟩
            · cases hp
          · rename_i cs hx
            rw [forceL_eq] at hp
            have hx' := H.ev x
            rw [hx] at hx'
            simp only [TR, CR] at hx'
            obtain ⟨ad, cells, tt, fr, hxv, hs, hD, hh, hr⟩ := hx'
            refine Did.pure H (v := .pointer (some (ad.add off'))) (fun w _ => ?_) ?_ hp
            · simp only [execOp, ho, hxv, Sem.run_bind, hrun, Result.andThen_ok, Sem.run_pure]
            · simp only [TR, CR, add_eq ad off' hs]
              refine ⟨_, cells, tt, fr, rfl, rfl, hD, hh, ?_⟩
              have := CRp.drop off' hr
              rw [List.drop_drop] at this
              exact this
          · cases hp
      · cases hp
    · cases hp
  · cases hp

/-! #### a part of a struct value -/
def stField (L : List (Nat × TI)) (N : Nat) (dst : Option Nat) (t : Nat) (x : Operand) (i : Nat) (σ : State) : Option State :=
  match findTI L t with
  | some ⟨_, _, _, _, fields, _, 3, _⟩ => match nth fields i with
    | some (off', ft) => match findTI L ft with
      | some ⟨agg, size, _, _, _, _, _, _⟩ => match Nat.blt 0 size with
        | false => none
        | true => match evalO σ x with
          | .agg cs => takeF size (cs.drop off') (mkPut N dst agg σ)
          | _ => none
      | none => none
    | none => none
  | _ => none

theorem did_field {o : Oper} {t i : Nat} {x : Operand} (ho : o.op = .field t x i) (H : Rel N np G D e σ a w) (hp : stField X.L N o.dst t x i σ = some σ') : Did X N np G D e o a w (.q none) σ σ' := by
  unfold stField at hp
  split at hp
  · rename_i agg0 size0 bytes0 zero0 fields elem0 ik0 hti
    split at hp
    · rename_i off' ft hf
      split at hp
      · rename_i agg size bytes zero fields' elem kind ik htf
        split at hp
        · cases hp
        · rename_i h0
          have h0' : 0 < size := by simpa [Nat.blt_eq] using h0
          split at hp
          · rename_i cs hx
            have hx' := H.ev x
            rw [hx] at hx'
            simp only [TR] at hx'
            obtain ⟨vs, hv, hl, hr⟩ := hx'
            rw [takeF_eq] at hp
            split at hp
            · rename_i hle
              unfold mkPut at hp
              split at hp
              · rename_i y hy
                have hle' : off' + size ≤ vs.size := by simp at hle; omega
                refine Did.pure H (x := y) (fun w _ => ?_) (mkT_TR hy (vs := (vs.extract off' (off' + size))) (by simp at hle ⊢; omega) ?_) hp
                · obtain ⟨fs, hu, hfs'⟩ := (X.tiok hti).struct rfl
                  simp only at hfs'
                  rw [nth_eq, ← hfs', List.getElem?_map] at hf
                  cases hfi : fs.toList[i]? with
                  | none => rw [hfi] at hf; simp at hf
                  | some f =>
                    rw [hfi] at hf
                    simp at hf
                    obtain ⟨rfl, rfl⟩ := hf
                    have hfi' : fs[i]? = some f := by simpa using hfi
                    have htf' := X.tiok htf
                    have h1 := htf'.isAgg w
                    have h2 := htf'.sizeOf w
                    simp only at h1 h2
                    simp only [execOp, ho, hv, Instr.field, Sem.run_bind, run_underlying hu, Result.andThen_ok, hfi', asAgg, Sem.run_pure, part, h1]
                    cases agg with
                    | true => simp [h2]
                    | false =>
                      have hs1 : size = 1 := by
                        rcases mkT_size hy with h | h
                        · cases h
                        · simp at h; omega
                      subst hs1
                      have hlt : f.offset < vs.size := by omega
                      have hlt' : f.offset < min (f.offset + 1) vs.size := by omega
                      simp [hlt, Array.getD_eq_getD_getElem?, Array.getElem?_extract]
                      rw [if_pos (by omega)]; rfl
                · have := CRp.take size (CRp.drop off' hr)
                  have h3 : (vs.extract off' (off' + size)).toList = (vs.toList.drop off').take size := by
                    rw [Array.toList_extract]; simp [List.extract_eq_take_drop]
                  rw [h3]
                  exact CRp.take' (by simp; omega) this
              · cases hp
            · cases hp
          · cases hp
      · cases hp
    · cases hp
  · cases hp

/-! #### numbers, strings, tests -/
def intOp (op : BinOp) (k : IntKind) (x y : Int) : Option C :=
  match op with
  | .add => some (.int k (k.wrap (x + y)))
  | .sub => some (.int k (k.wrap (x - y)))
  | .mul => some (.int k (k.wrap (x * y)))
  | .eql => some (.bool (x == y))
  | .neq => some (.bool (x != y))
  | .lss => some (.bool (decide (x < y)))
  | .leq => some (.bool (decide (x ≤ y)))
  | .gtr => some (.bool (decide (x > y)))
  | .geq => some (.bool (decide (x ≥ y)))
  | _ => none
def strOp (op : BinOp) (x y : Str) : Option C :=
  match op with
  | .eql => some (.bool (x == y))
  | .neq => some (.bool (!(x == y)))
  | .lss => some (.bool (Op.bytesLess x y))
  | .leq => some (.bool (Op.bytesLess x y || x == y))
  | .gtr => some (.bool (!(Op.bytesLess x y || x == y)))
  | .geq => some (.bool (!Op.bytesLess x y))
  | _ => none
def boolOp (op : BinOp) (x y : Bool) : Option C :=
  match op with
  | .eql => some (.bool (x == y))
  | .neq => some (.bool (!(x == y)))
  | _ => none
def quoRem (op : BinOp) (k : IntKind) (x : Int) (c : Operand) : Option C :=
  match c with
  | .const (.int _ (.ofNat (m + 1))) => match op with
    | .quo => some (.int k (k.wrap (x.tdiv (.ofNat (m + 1)))))
    | .rem => some (.int k (x.tmod (.ofNat (m + 1))))
    | _ => none
  | _ => none
def eqKind : IntKind → IntKind → Bool
  | .i8, .i8 | .i16, .i16 | .i32, .i32 | .i64, .i64 | .u8, .u8 | .u16, .u16 | .u32, .u32 | .u64, .u64 => true
  | _, _ => false
theorem eqKind_eq {j k : IntKind} (h : eqKind j k = true) : j = k := by cases j <;> cases k <;> simp_all [eqKind]

def putC (N : Nat) (dst : Option Nat) (σ : State) : Option C → Option State
  | some c => putT N dst (.one c) σ
  | none => none

theorem run_equal_bool {P : Program} {t : Nat} (hu : P.underlying t = some .bool) (p q : Bool) (w : World) : (Op.equal t (.bool p) (.bool q)).run P w = .ok (p == q) w := by
  show (Op.equalIn (9999 + 1) t _ _).run P w = _
  rw [Op.equalIn]
  simp only [Sem.run_bind, run_underlying hu, Result.andThen_ok]
  rfl
theorem run_bool_eql {P : Program} {t : Nat} (hu : P.underlying t = some .bool) (p q : Bool) (w : World) : (Go.binOp .eql t (.bool p) (.bool q)).run P w = .ok (.bool (p == q)) w := by
  show (Op.equal t (.bool p) (.bool q) >>= fun r => pure (Value.bool r)).run P w = _
  simp only [Sem.run_bind, run_equal_bool hu, Result.andThen_ok, Sem.run_pure]
theorem run_bool_neq {P : Program} {t : Nat} (hu : P.underlying t = some .bool) (p q : Bool) (w : World) : (Go.binOp .neq t (.bool p) (.bool q)).run P w = .ok (.bool (!(p == q))) w := by
  show (Op.equal t (.bool p) (.bool q) >>= fun r => pure (Value.bool (!r))).run P w = _
  simp only [Sem.run_bind, run_equal_bool hu, Result.andThen_ok, Sem.run_pure]
theorem run_len_str {P : Program} {t ty : Nat} {ts : List TypeId} (hu : P.underlying t = some .string) (s : ByteArray) (w : World) :
    (Builtin.len_ (t :: ts).toArray ty #[.string s]).run P w = .ok (goInt s.size) w := by
  simp [Builtin.len_, run_underlying hu]
theorem run_len_slice {P : Program} {t ty el : Nat} {ts : List TypeId} (hu : P.underlying t = some (.slice el)) (A : Option Addr) (l c : Nat) (w : World) :
    (Builtin.len_ (t :: ts).toArray ty #[.slice A l c]).run P w = .ok (goInt l) w := by
  simp [Builtin.len_, run_underlying hu]

def stBin (L : List (Nat × TI)) (N : Nat) (dst : Option Nat) (op : BinOp) (t : Nat) (x y : Operand) (σ : State) : Option State :=
  match evalO σ x, evalO σ y with
  | .one (.int k n), .one (.int k' m) => match eqKind k k' with
    | false => none
    | true => match op with
      | .quo => putC N dst σ (quoRem .quo k n y)
      | .rem => putC N dst σ (quoRem .rem k n y)
      | op => putC N dst σ (intOp op k n m)
  | .one (.str n), .one (.str m) => putC N dst σ (strOp op n m)
  | .one (.bool n), .one (.bool m) => match findTI L t with
    | some ⟨_, _, _, _, _, _, 5, _⟩ => putC N dst σ (boolOp op n m)
    | _ => none
  | _, _ => none

theorem did_bin {o : Oper} {op : BinOp} {t ty : Nat} {x y : Operand} (ho : o.op = .binOp op t x y ty) (H : Rel N np G D e σ a w) (hp : stBin X.L N o.dst op t x y σ = some σ') : Did X N np G D e o a w (.q none) σ σ' := by
  unfold stBin at hp
  split at hp
  · rename_i k n k' m hx hy
    have h1 := one_int (hx ▸ H.ev x)
    have h2 := one_int (hy ▸ H.ev y)
    split at hp
    · cases hp
    · rename_i hk
      have := eqKind_eq hk
      subst this
      have hq : ∀ op', op' = .quo ∨ op' = .rem → o.op = .binOp op' t x y ty → putC N o.dst σ (quoRem op' k n y) = some σ' → Did X N np G D e o a w (.q none) σ σ' := by
        intro op' ho' hoo hpp
        unfold quoRem at hpp
        split at hpp
        · rename_i k2 m2
          simp only [Act.eval, Value.int.injEq] at h2
          obtain ⟨rfl, rfl⟩ := h2
          have hz : ¬ ((m2 : Int) + 1 = 0) := by omega
          have hyv : ∀ z, a.eval (.const (.int k2 z)) = .int k2 z := fun _ => rfl
          rcases ho' with rfl | rfl
          · simp only [putC] at hpp
            refine Did.pure H (v := .int k2 (k2.wrap (n.tdiv (.ofNat (m2 + 1))))) (fun w _ => ?_) (by simp only [TR, CR]) hpp
            simp [execOp, hoo, h1, hyv, eqGuard, Go.binOp, Op.intDiv, hz]
          · simp only [putC] at hpp
            refine Did.pure H (v := .int k2 (n.tmod (.ofNat (m2 + 1)))) (fun w _ => ?_) (by simp only [TR, CR]) hpp
            simp [execOp, hoo, h1, hyv, eqGuard, Go.binOp, Op.intDiv, hz]
        · simp [putC] at hpp
      split at hp
      · exact hq .quo (.inl rfl) ho hp
      · exact hq .rem (.inr rfl) ho hp
      · rename_i op' hn1 hn2
        unfold intOp at hp
        split at hp <;> (try (simp only [putC] at hp; cases hp; done)) <;>
          (simp only [putC] at hp; refine Did.pure H (fun w _ => ?_) (by simp only [TR, CR]; exact rfl) hp; simp [execOp, ho, h1, h2, eqGuard, Go.binOp, Op.intArith, Op.intCmp])
  · rename_i n m hx hy
    have h1 := one_str (hx ▸ H.ev x)
    have h2 := one_str (hy ▸ H.ev y)
    unfold strOp at hp
    split at hp <;> (try (simp only [putC] at hp; cases hp; done)) <;>
      (simp only [putC] at hp; refine Did.pure H (fun w _ => ?_) (by simp only [TR, CR]; exact rfl) hp; simp [execOp, ho, h1, h2, eqGuard, Go.binOp, Op.stringOp])
  · rename_i n m hx hy
    have h1 := one_bool (hx ▸ H.ev x)
    have h2 := one_bool (hy ▸ H.ev y)
    split at hp
    · rename_i hti
      have hu := (X.tiok hti).bool rfl
      unfold boolOp at hp
      split at hp <;> (try (simp only [putC] at hp; cases hp; done)) <;>
        (simp only [putC] at hp; refine Did.pure H (fun w _ => ?_) (by simp only [TR, CR]; exact rfl) hp; simp [execOp, ho, h1, h2, eqGuard, run_bool_eql hu, run_bool_neq hu])
    · cases hp
  · cases hp

def stUn (N : Nat) (dst : Option Nat) (op : UnOp) (x : Operand) (σ : State) : Option State :=
  match op, evalO σ x with
  | .not, .one (.bool b) => putT N dst (.one (.bool (!b))) σ
  | .neg, .one (.int k n) => putT N dst (.one (.int k (k.wrap (0 - n)))) σ
  | _, _ => none

theorem did_un {o : Oper} {op : UnOp} {t : Nat} {x : Operand} (ho : o.op = .unOp op t x) (H : Rel N np G D e σ a w) (hp : stUn N o.dst op x σ = some σ') : Did X N np G D e o a w (.q none) σ σ' := by
  unfold stUn at hp
  split at hp
  · rename_i b hx
    have h1 := one_bool (hx ▸ H.ev x)
    refine Did.pure H (v := .bool (!b)) (fun w _ => ?_) (by simp only [TR, CR]) hp
    simp [execOp, ho, h1, Op.unary]
  · rename_i k n hx
    have h1 := one_int (hx ▸ H.ev x)
    refine Did.pure H (v := .int k (k.wrap (0 - n))) (fun w _ => ?_) (by simp only [TR, CR]) hp
    simp [execOp, ho, h1, Op.unary, Op.intArith]
  · cases hp

def stConvert (L : List (Nat × TI)) (N : Nat) (dst : Option Nat) (s d : Nat) (x : Operand) (σ : State) : Option State :=
  match findTI L s, findTI L d, evalO σ x with
  | some _, some ⟨_, _, _, _, _, _, 4, ik⟩, .one (.int k n) => putT N dst (.one (.int ik (ik.wrap n))) σ
  | _, _, _ => none

theorem did_convert {o : Oper} {s d : Nat} {x : Operand} (ho : o.op = .convert s d x) (H : Rel N np G D e σ a w) (hp : stConvert X.L N o.dst s d x σ = some σ') : Did X N np G D e o a w (.q none) σ σ' := by
  unfold stConvert at hp
  split at hp
  · rename_i ts _ _ _ _ _ _ ik k n hs hd hx
    have h1 := one_int (hx ▸ H.ev x)
    have hu := (X.tiok hd).int rfl
    obtain ⟨ds, hds, _⟩ := (X.tiok hs).und
    simp only at hu
    refine Did.pure H (v := .int ik (ik.wrap n)) (fun w _ => ?_) (by simp only [TR, CR]) hp
    simp [execOp, ho, h1, Go.convert, run_underlying hu, run_underlying hds, Conv.intToInt]
  · cases hp

def stExtract (N : Nat) (dst : Option Nat) (x : Operand) (i : Nat) (σ : State) : Option State :=
  match evalO σ x with
  | .tup ts => match nth ts i with
    | some t => putT N dst t σ
    | none => none
  | _ => none

theorem TRs.get {h : Array Obj} : ∀ {ts : List T} {vs : List Value} {i : Nat} {t : T}, TRs D h e ts vs → ts[i]? = some t → ∃ v, vs[i]? = some v ∧ TR D h e t v
  | [], vs, i, t, H, hi => by simp at hi
  | t0 :: ts, vs, 0, t, H, hi => by
    simp only [TRs] at H
    obtain ⟨x, r, rfl, h1, _⟩ := H
    simp at hi; subst hi
    exact ⟨x, by simp, h1⟩
  | t0 :: ts, vs, i + 1, t, H, hi => by
    simp only [TRs] at H
    obtain ⟨x, r, rfl, _, h2⟩ := H
    simpa using TRs.get h2 (by simpa using hi)

theorem did_extract {o : Oper} {x : Operand} {i : Nat} (ho : o.op = .extract x i) (H : Rel N np G D e σ a w) (hp : stExtract N o.dst x i σ = some σ') : Did X N np G D e o a w (.q none) σ σ' := by
  unfold stExtract at hp
  split at hp
  · rename_i ts hx
    split at hp
    · rename_i t ht
      have hx' := H.ev x
      rw [hx] at hx'
      simp only [TR] at hx'
      obtain ⟨vs, hv, hr⟩ := hx'
      rw [nth_eq] at ht
      obtain ⟨v, hvi, htv⟩ := TRs.get hr ht
      have hvi' : vs[i]? = some v := by simpa using hvi
      exact Did.pure H (fun w _ => by simp [execOp, ho, hv, Instr.extract, hvi']) htv hp
    · cases hp
  · cases hp

def onesF {β : Type} (σ : State) : List Operand → List C → (List C → Option β) → Option β
  | [], acc, k => k acc
  | x :: xs, acc, k => match evalO σ x with
    | .one c => onesF σ xs (acc ++ [c]) k
    | _ => none

theorem onesF_CRp {β : Type} (H : Rel N np G D e σ a w) (k : List C → Option β) (y : β) : ∀ (xs : List Operand) (acc : List C) (vs : List Value), vs.length = acc.length → CRp D w.heap e acc vs → onesF σ xs acc k = some y →
    ∃ cs, (vs ++ xs.map a.eval).length = cs.length ∧ CRp D w.heap e cs (vs ++ xs.map a.eval) ∧ k cs = some y
  | [], acc, vs, hl, hr, hk => ⟨acc, by simpa using hl, by simpa using hr, hk⟩
  | x :: xs, acc, vs, hl, hr, hk => by
    simp only [onesF] at hk
    split at hk
    · rename_i c hc
      have hx := H.ev x
      rw [hc] at hx
      simp only [TR] at hx
      obtain ⟨cs, h1, h2, h3⟩ := onesF_CRp H k y xs (acc ++ [c]) (vs ++ [a.eval x]) (by simp [hl]) (by
        rw [CRp.app]
        refine ⟨CRp.more hr, ?_⟩
        rw [← hl, List.drop_left]
        simp only [CRp]
        exact ⟨hx, trivial⟩) hk
      exact ⟨cs, by simpa using h1, by simpa using h2, h3⟩
    · cases hk

def stMakeFunc (N : Nat) (dst : Option Nat) (fn : Fn) (first captured : Array Operand) (σ : State) : Option State :=
  match fn, first.toList with
  | .func f, [] => onesF σ captured.toList [] fun cs => putT N dst (.one (.fn f cs)) σ
  | _, _ => none

theorem did_makeFunc {o : Oper} {fn : Fn} {first captured : Array Operand} (ho : o.op = .makeFunc fn first captured) (H : Rel N np G D e σ a w) (hp : stMakeFunc N o.dst fn first captured σ = some σ') : Did X N np G D e o a w (.q none) σ σ' := by
  unfold stMakeFunc at hp
  split at hp
  · rename_i f hf
    have hf' : first = #[] := by cases first; simp at hf; simp [hf]
    subst hf'
    obtain ⟨cs, h1, h2, h3⟩ := onesF_CRp H _ σ' captured.toList [] [] rfl (by simp [CRp]) hp
    refine Did.pure H (v := .func (.func f) #[] (captured.map a.eval)) (fun w _ => by simp [execOp, ho, Instr.makeFunc]) ?_ h3
    simp only [TR, CR]
    exact ⟨_, rfl, by simpa using h1, by simpa using h2⟩
  · cases hp

def stNilCheck (N : Nat) (dst : Option Nat) (x : Operand) (σ : State) : Option State :=
  match evalO σ x with
  | .one (.fp cs) => putT N dst (.one (.fp cs)) σ
  | .one (.fn f cs) => putT N dst (.one (.fn f cs)) σ
  | .one (.op id i off) => match getObj? σ id with
    | some _ => putT N dst (.one (.op id i off)) σ
    | none => none
  | _ => none

theorem did_nilCheck {o : Oper} {x : Operand} (ho : o.op = .nilCheck x) (H : Rel N np G D e σ a w) (hp : stNilCheck N o.dst x σ = some σ') : Did X N np G D e o a w (.q none) σ σ' := by
  unfold stNilCheck at hp
  split at hp
  · rename_i cs hx
    have hx0 := H.ev x
    rw [hx] at hx0
    have hx' := hx0
    simp only [TR, CR] at hx'
    obtain ⟨ad, _, _, _, hv, _⟩ := hx'
    exact Did.pure H (v := a.eval x) (fun w _ => by simp [execOp, ho, hv]) hx0 hp
  · rename_i f cs hx
    have hx0 := H.ev x
    rw [hx] at hx0
    have hx' := hx0
    simp only [TR, CR] at hx'
    obtain ⟨vs, hv, _⟩ := hx'
    exact Did.pure H (v := a.eval x) (fun w _ => by simp [execOp, ho, hv]) hx0 hp
  · rename_i id i off hx
    split at hp
    · rename_i ob hob
      obtain ⟨aa, cap, n, he, _⟩ := H.sr.objs id ob (getObj?_eq hob)
      have hx0 := H.ev x
      rw [hx] at hx0
      have hx' := hx0
      simp only [TR, CR, he] at hx'
      obtain ⟨b, hb, hv⟩ := hx'
      exact Did.pure H (v := a.eval x) (fun w _ => by simp [execOp, ho, hv]) hx0 hp
    · cases hp
  · cases hp

/-! #### len -/
def lenC (σ : State) : C → Option Int
  | .fs xs => some (xs.length : Int)
  | .os id _ len _ => match getObj? σ id with
    | some _ => some (len : Int)
    | none => none
  | .v (.slice none 0 0) => some 0
  | _ => none

def stLen (L : List (Nat × TI)) (N : Nat) (dst : Option Nat) (ts : Array TypeId) (xs : Array Operand) (σ : State) : Option State :=
  match ts.toList, xs.toList with
  | t :: _, [x] => match findTI L t with
    | some ⟨_, _, _, _, _, _, 2, _⟩ => match evalO σ x with
      | .one c => match lenC σ c with
        | some n => putT N dst (.one (.int .i64 n)) σ
        | none => none
      | _ => none
    | some ⟨_, _, _, _, _, _, 1, _⟩ => match evalO σ x with
      | .one (.str s) => putT N dst (.one (.int .i64 (s.length : Int))) σ
      | _ => none
    | _ => none
  | _, _ => none

theorem lenC_spec {h : Array Obj} (H : Rel N np G D e σ a w) {c : C} {v : Value} {n : Int} (hc : CR D h e c v) (hl : lenC σ c = some n) : ∃ A l cp, v = .slice A l cp ∧ (l : Int) = n := by
  unfold lenC at hl
  split at hl
  · simp at hl; subst hl
    simp only [CR] at hc
    obtain ⟨A, c, rfl, _⟩ := hc
    exact ⟨A, _, c, rfl, rfl⟩
  · split at hl
    · rename_i ob hob
      simp at hl; subst hl
      obtain ⟨aa, cap, n, he, _⟩ := H.sr.objs _ ob (getObj?_eq hob)
      simp only [CR, he] at hc
      obtain ⟨A, c, rfl, _⟩ := hc
      exact ⟨A, _, c, rfl, rfl⟩
    · cases hl
  · simp at hl; subst hl
    simp only [CR] at hc
    obtain ⟨rfl, _⟩ := hc
    exact ⟨none, 0, 0, rfl, rfl⟩
  · cases hl

theorem did_len {o : Oper} {ts : Array TypeId} {xs : Array Operand} (ho : o.op = .call ⟨.builtin .len, xs, ts⟩) (H : Rel N np G D e σ a w) (hp : stLen X.L N o.dst ts xs σ = some σ') : Did X N np G D e o a w (.q none) σ σ' := by
  unfold stLen at hp
  split at hp
  · rename_i t rest x hts hxs
    have hxs' : xs = #[x] := by cases xs; simp at hxs; simp [hxs]
    have hts' : ts = (t :: rest).toArray := by cases ts; simp at hts; simp [hts]
    subst hxs'; subst hts'
    split at hp
    · rename_i hti
      have hu := (X.tiok hti).slice rfl
      split at hp
      · rename_i c hc
        split at hp
        · rename_i n hn
          have hx := H.ev x
          rw [hc] at hx
          simp only [TR] at hx
          obtain ⟨A, l, cp, hv, hln⟩ := lenC_spec H hx hn
          refine Did.pure H (v := .int .i64 n) (fun w _ => ?_) (by simp only [TR, CR]) hp
          simp [execOp, ho, resolve, invoke, Go.builtin, run_len_slice hu, hv, goInt, hln]
        · cases hp
      · cases hp
    · rename_i hti
      have hu := (X.tiok hti).string rfl
      split at hp
      · rename_i s hc
        have hv := one_str (hc ▸ H.ev x)
        refine Did.pure H (v := .int .i64 (s.length : Int)) (fun w _ => ?_) (by simp only [TR, CR]) hp
        simp [execOp, ho, resolve, invoke, Go.builtin, run_len_str hu, hv, goInt]
        rfl
      · cases hp
    · cases hp
  · cases hp

/-! #### all of them -/
def stepOp (L : List (Nat × TI)) (N : Nat) (dst : Option Nat) (op : Op) (σ : State) : Option State :=
  match op with
  | .move x => putT N dst (evalO σ x) σ
  | .assign x => putT N dst (evalO σ x) σ
  | .pick c x y => stPick N dst c x y σ
  | .alloc t => stAlloc L N dst t σ
  | .box t x => stBox L N dst t x σ
  | .build t parts => stBuild L N dst t parts σ
  | .buildSlice t len parts => stBuildSlice L N dst t len parts σ
  | .load t x => stLoad L N dst t x σ
  | .store t x y => stStore L dst t x y σ
  | .nilCheck x => stNilCheck N dst x σ
  | .binOp op t x y _ => stBin L N dst op t x y σ
  | .unOp op _ x => stUn N dst op x σ
  | .convert s d x => stConvert L N dst s d x σ
  | .makeFunc fn first captured => stMakeFunc N dst fn first captured σ
  | .fieldAddr t x i => stFieldAddr L N dst t x i σ
  | .field t x i => stField L N dst t x i σ
  | .extract x i => stExtract N dst x i σ
  | .call ⟨.builtin .len, xs, ts⟩ => stLen L N dst ts xs σ
  | _ => none

def kindOf (op : Op) (σ : State) : Kd :=
  match op with
  | .alloc _ => .e none
  | .box _ _ => .e none
  | .buildSlice _ _ _ => .e none
  | .load _ x => .q (idOf (evalO σ x))
  | .store _ x _ => .e (idOf (evalO σ x))
  | _ => .q none

theorem did_step {o : Oper} (H : Rel N np G D e σ a w) (hp : stepOp X.L N o.dst o.op σ = some σ') : Did X N np G D e o a w (kindOf o.op σ) σ σ' := by
  unfold stepOp at hp
  split at hp
  case h_1 ho => rw [ho]; exact did_move (.inl ho) H hp
  case h_2 ho => rw [ho]; exact did_move (.inr ho) H hp
  case h_3 ho => rw [ho]; exact did_pick ho H hp
  case h_4 ho => rw [ho]; exact did_alloc ho H hp
  case h_5 ho => rw [ho]; exact did_box ho H hp
  case h_6 ho => rw [ho]; exact did_build ho H hp
  case h_7 ho => rw [ho]; exact did_buildSlice ho H hp
  case h_8 ho => rw [ho]; exact did_load ho H hp
  case h_9 ho => rw [ho]; exact did_store ho H hp
  case h_10 ho => rw [ho]; exact did_nilCheck ho H hp
  case h_11 ho => rw [ho]; exact did_bin ho H hp
  case h_12 ho => rw [ho]; exact did_un ho H hp
  case h_13 ho => rw [ho]; exact did_convert ho H hp
  case h_14 ho => rw [ho]; exact did_makeFunc ho H hp
  case h_15 ho => rw [ho]; exact did_fieldAddr ho H hp
  case h_16 ho => rw [ho]; exact did_field ho H hp
  case h_17 ho => rw [ho]; exact did_extract ho H hp
  case h_18 ho => rw [ho]; exact did_len ho H hp
  case h_19 => cases hp
end
end Go.Proofs.Ytkjbjgndinjdpaa
