/- Part 4 of the proof: an abstract machine over the model; contracts of the functions that the law reaches. -/
import Derived.Test.YtbenojnoepkgbaaGreatKADB3
set_option linter.unusedVariables false
set_option linter.unusedSimpArgs false
namespace Go.Proofs.YtbenojnoepkgbaaGreat
open Go
set_option maxRecDepth 100000
set_option maxHeartbeats 1000000

theorem gt_zero {α : Type} (xs : List α) : decide (((xs.length : Nat) : Int) > 0) = !decide (xs = []) := by
  cases xs with
  | nil => rfl
  | cons x xs => simp

/-- Slots of own memory. -/
def rL (b : Bnds) : T := .agg [.os 0 0 b.length b.length]

theorem iBind_ct (s : Sig) (f : Flat) (hs : LenS s) (hf : LenF f) : ACalls pk 43 [.agg (eG s), .agg (eF f)] [] (fun r o => r = .tup [rL (BindQ s f).1, .one (.bool (BindQ s f).2)] ∧ o = [ownL (BindQ s f).1]) := by
  refine acalls_of_body Tryz.func43 rfl (by kernel_rfl) rfl ?_
  refine rn rfl ?_
  refine goal_step (step_call [] rfl rfl rfl rfl rfl rfl (fit_ct s f hs hf)) ?_
  rintro σ2 ⟨r, o', ⟨rfl, rfl⟩, hσ⟩
  obtain rfl := Option.some.inj hσ
  clear hσ
  refine rn rfl ?_
  refine goal_cond rfl (fun h => ?_) (fun h => ?_) <;> (try simp only [gt_iff_lt, ge_iff_le, bne_iff_ne, ne_eq, bne_eq_false_iff_eq, beq_iff_eq, beq_eq_false_iff_ne, Bool.not_eq_true', Bool.not_eq_false', decide_eq_true_eq, decide_eq_false_iff_not, List.length_map] at h)
  · refine rn rfl ?_
    refine fin_weak (Weak.adoptO 2 0 3) (fin_is [3] rfl ⟨?_, ?_⟩)
    · simp [BindQ, h]; rfl
    · simp [BindQ, h]; rfl
  · have hfit := fitQ_iff.1 h
    refine rn rfl ?_
    refine goal_step (step_call [] rfl rfl rfl rfl rfl rfl (ibind_ct s f hfit.1 hf.places hf.named)) ?_
    rintro σ2 ⟨r, o', ⟨rfl, rfl⟩, hσ⟩
    obtain rfl := Option.some.inj hσ
    clear hσ
    refine rn rfl ?_
    rw [List.length_map, gt_zero]
    refine goal_cond rfl (fun h2 => ?_) (fun h2 => ?_) <;> simp only [Bool.not_eq_true', Bool.not_eq_false', decide_eq_true_eq, decide_eq_false_iff_not] at h2
    · refine rn rfl ?_
      refine fin_weak (Weak.adoptO 2 0 3) (fin_is [5] rfl ⟨?_, ?_⟩)
      · simp [BindQ, accQ, h2]; rfl
      · simp [BindQ, accQ, h2]; rfl
    · refine rn rfl ?_
      have hb : BindQ s f = ((boundQ s f).1, true) := by simp [BindQ, h, accQ, h2]
      refine fin_is [3] rfl ⟨?_, ?_⟩
      · rw [hb]; simp [rL, boundQ_len]
      · rw [hb]; rfl

theorem iBindD_ct (s : Sig) (f : Flat) (hs : LenS s) (hf : LenF f) : ACalls pk 43 [.agg (eG s), .agg (eF f)] [] (fun r o => r = .tup [.agg (eBi (BindQ s f).1), .one (.bool (BindQ s f).2)] ∧ o = []) :=
  (iBind_ct s f hs hf).told [] (by
    rintro r o ⟨rfl, rfl⟩
    refine ⟨_, _, rfl, ?_, rfl⟩
    rw [takeAll eL _ _ rfl]; rfl)

theorem byNameD_ct (xs : List Pair) (hl : xs.length ≤ 12) : ACalls pk 113 [.one (.fs (xs.map eP))] [] (fun r o => r = .one (.fs ((isortL ltN xs).map eP)) ∧ o = []) :=
  (byName_ct xs hl).told [] (by rintro r o ⟨rfl, rfl⟩; exact ⟨_, _, rfl, congrArg (fun x => T.one (C.fs x)) (takeAll eP _ _ (isortL_length _ _)), rfl⟩)

section

variable {X : Pk} {N np : Nat} {G : Ctx} {D : Nat → Prop} {e : List ALoc} {σ σ' : State} {a : Act} {w : World} {K : KP}

theorem dA_min {o : Oper} {x y : Operand} {t t2 : TypeId} {n m : Int} (ho : o.op = .call ⟨.builtin .min, #[x, y], #[t, t2]⟩) (hx : evalO σ x = .one (.int .i64 n)) (hy : evalO σ y = .one (.int .i64 m)) (hd : dstB N o.dst = true) :
    DidA X N np o (.q none) σ (putS o.dst (.one (.int .i64 (if m < n then m else n))) σ) := fun {G D e a w} H => by
  have hxv := one_int (hx ▸ H.ev x)
  have hyv := one_int (hy ▸ H.ev y)
  refine Did.pure H (v := .int .i64 (if m < n then m else n)) (fun w _ => ?_) (by simp only [TR, CR]) (putS_eq hd)
  simp [execOp, ho, resolve, invoke, Go.builtin, hxv, hyv, Builtin.min_, Builtin.min2]

end

/-- All of the memory, zs data. -/
def allD (w : World) (b : Nat) : Prop := b < w.heap.size

/-- A value of type 't' that can be read is some 'a', its cells told by 'enc'. -/
def Opens (P : Program) (t : TypeId) {α : Type} (enc : α → List C) (ok : α → Prop) : Prop :=
  ∀ (H : Type) (en : TypeId × Value → H) (w : World) (fuel : Nat) (cs : List Value) (x : DataW H × List MemPlace), DataW.trod en P w 0 (fun _ => true) true fuel t cs = some x →
    ∃ a : α, ok a ∧ CRp (allD w) w.heap [] (enc a) cs ∧ cs.length = (enc a).length

theorem opens_slice {P : Program} {t e : TypeId} {α : Type} {enc : α → List C} {ok : α → Prop} {sz : Nat} (ht : P.underlying t = some (.slice e)) (hc : P.cellsOf e = sz) (h0 : 0 < sz) (hl : ∀ a, (enc a).length = sz) (he : Opens P e enc ok) :
    Opens P t (fun xs : List α => [.fs (xs.map enc)]) (fun xs => xs.length ≤ 9223372036854775807 ∧ ∀ x ∈ xs, ok x) := by
  intro H en w fuel cs x h
  rcases DataW.trod_slice ht h with ⟨rfl, _⟩ | ⟨a, len, cap, elems, rest, n, _, rfl, _, _, hlc, hm, hlen, hel, _, _⟩
  · refine ⟨[], by simp, ?_, rfl⟩
    simp only [CRp, CR, List.map_nil, List.length_nil, and_true]
    exact ⟨none, 0, rfl, Nat.le_refl _, .inl trivial⟩
  · have each : ∀ i, i < len → ∃ cs' : List Value, w.cells? 0 (a.add (i * sz)) sz = some cs' ∧ ∃ b : α, ok b ∧ CRp (allD w) w.heap [] (enc b) cs' ∧ cs'.length = (enc b).length := by
      intro i hi
      have := hel i hi
      rw [hc] at this
      obtain ⟨y, hy⟩ : ∃ y, elems[i]? = some y := ⟨elems[i], by simp [hlen, hi]⟩
      rw [hy, Option.bind_eq_some_iff] at this
      obtain ⟨cs', h1, h2⟩ := this
      obtain ⟨b, hb⟩ := he H en w n cs' y h2
      exact ⟨cs', h1, b, hb⟩
    have hxs : ∀ k, k ≤ len → ∃ xs : List α, xs.length = k ∧ (∀ x ∈ xs, ok x) ∧ ∀ (i : Nat) (b : α), xs[i]? = some b → ∃ cs', w.cells? 0 (a.add (i * sz)) sz = some cs' ∧ CRp (allD w) w.heap [] (enc b) cs' := by
      intro k
      induction k with
      | zero => intro _; exact ⟨[], rfl, by simp, by simp⟩
      | succ k ih =>
        intro hk
        obtain ⟨xs, q1, q2, q3⟩ := ih (by omega)
        obtain ⟨cs', h1, b, hb1, hb2, _⟩ := each k (by omega)
        refine ⟨xs ++ [b], by simp [q1], ?_, ?_⟩
        · intro x hx
          rcases List.mem_append.1 hx with hx | hx
          · exact q2 x hx
          · simp at hx; subst hx; exact hb1
        · intro i b' hi
          rw [getElem?_app_one] at hi
          split at hi
          · exact q3 i b' hi
          · split at hi
            · rename_i heq
              simp at hi
              subst hi
              rw [heq, q1]
              exact ⟨cs', h1, hb2⟩
            · cases hi
    obtain ⟨xs, q1, q2, q3⟩ := hxs len (Nat.le_refl _)
    refine ⟨xs, ⟨?_, q2⟩, ?_, rfl⟩
    · rw [q1]; exact Nat.le_trans (Nat.le_trans hlc hm) (by decide)
    · simp only [CRp, CR, and_true]
      refine ⟨some a, cap, by simp [q1], by simpa [q1] using hlc, ?_⟩
      rcases Nat.eq_zero_or_pos len with hz | hz
      · left
        have : xs = [] := List.eq_nil_of_length_eq_zero (by omega)
        simp [this]
      · right
        obtain ⟨b0, hb0⟩ : ∃ b, xs[0]? = some b := ⟨xs[0], by simp [q1, hz]⟩
        obtain ⟨cs0, hc0, _⟩ := q3 0 b0 hb0
        have hcell0 := (World.cells?_some hc0).2.2 0 (by omega)
        have hl0 := (World.cells?_some hc0).1
        -- where the row lies
        obtain ⟨cells, tt, fr, hh, hs⟩ : ∃ cells tt fr, w.heap[a.block]? = some (.cells cells tt fr) ∧ a.spot = none := by
          have hv : ∃ v, w.cell? a = some v := by
            have h2 : a.add (0 * sz) = a := by simp [Addr.add]
            rw [h2] at hcell0
            have h3 : a.add 0 = a := by simp [Addr.add]
            rw [h3] at hcell0
            have : cs0[0]? ≠ none := by
              have h4 : cs0.length = sz := by
                have := World.cells?_some hc0
                first | exact this.1 | exact this.2.1
              rw [List.getElem?_eq_getElem (by omega)]; simp
            exact ⟨cs0[0]?.get (by cases hx : cs0[0]? with | none => exact absurd hx this | some v => rfl), by rw [hcell0]; simp⟩
          obtain ⟨v, hv⟩ := hv
          unfold World.cell? at hv
          split at hv
          · rename_i cells tt fr hh
            split at hv
            · cases hv
            · rename_i hsp
              exact ⟨cells, tt, fr, hh, by cases hq : a.spot with | none => rfl | some _ => rw [hq] at hsp; simp at hsp⟩
          · cases hv
        refine ⟨a, cells, tt, fr, sz, rfl, hs, (Array.getElem?_eq_some_iff.1 hh).1, hh, ?_⟩
        rw [CRr_iff]
        intro i r hi
        rw [List.getElem?_map] at hi
        cases hxi : xs[i]? with
        | none => rw [hxi] at hi; simp at hi
        | some b =>
          rw [hxi] at hi
          simp at hi
          subst hi
          obtain ⟨cs', hc', hr'⟩ := q3 i b hxi
          refine ⟨hl b, CRp.congr (fun j hj => ?_) hr'⟩
          rw [hl b] at hj
          have := (World.cells?_some hc').2.2 j hj
          rw [← this]
          have ha : (a.add (i * sz)).add j = ⟨a.block, a.off + i * sz + j, none⟩ := by rw [add_eq a _ hs, add_eq _ _ rfl]
          rw [ha, List.getElem?_drop]
          simp [World.cell?, hh, Nat.add_assoc]

section
open Go Go.ChangeShapes Go.WideShapes Go.ChangeAt Go.RowKit
theorem TIok.cellsOf {P : Program} {t : Nat} {ti : TI} (H : TIok P t ti) : P.cellsOf t = ti.size := by
  obtain ⟨i, z, hi, hs, _⟩ := H.info
  simp [Program.cellsOf, hi, hs]

section

variable {X : Pk} {t : Nat} {ti te : TI}

theorem xo_slice {α : Type} {enc : α → List C} {ok : α → Prop} (h : findTI X.L t = some ti) (hk : ti.kind = 2) (he : findTI X.L ti.elem = some te) (h0 : Nat.blt 0 te.size = true) (hl : ∀ a, (enc a).length = te.size) (hE : Opens X.P ti.elem enc ok) :
    Opens X.P t (fun xs : List α => [.fs (xs.map enc)]) (fun xs => xs.length ≤ 9223372036854775807 ∧ ∀ x ∈ xs, ok x) :=
  opens_slice ((X.tiok h).slice hk) (X.tiok he).cellsOf (by simpa [Nat.blt_eq] using h0) hl hE

end

theorem Opens.map {P : Program} {t : TypeId} {α β : Type} {enc : α → List C} {ok : α → Prop} {enc' : β → List C} {ok' : β → Prop} (h : Opens P t enc ok) (g : α → β) (he : ∀ a, enc' (g a) = enc a) (ho : ∀ a, ok a → ok' (g a)) : Opens P t enc' ok' := by
  intro H en w fuel cs x hx
  obtain ⟨a, h1, h2, h3⟩ := h H en w fuel cs x hx
  exact ⟨g a, ho a h1, by rw [he]; exact h2, by rw [he]; exact h3⟩

/-- A law's contract, zs a call from any memory. -/
theorem law_calls {X : Pk} {f : FuncId} {args : List T} {vals : Array Value} {w : World} (h : ACalls X f args [] (fun r o => r = .one (.bool true) ∧ o = [])) (hgl : GlobOk w []) (ha : TRs (allD w) w.heap [] args vals.toList) :
    Calls X.P f vals w fun e w' => e = .returned (.bool true) ∧ Below w.heap.size w w' := by
  have hsr : SR (allD w) w.heap [] [] := ⟨rfl, by simp, by simp, by simp, fun b hb => hb⟩
  refine (h.2 (allD w) [] w vals.toList hgl hsr ha (by simp)).mono ?_
  rintro en w' ⟨v, r, o', D', e', rfl, ⟨rfl, rfl⟩, htr, _, hext, _⟩
  simp only [TR, CR] at htr
  subst htr
  refine ⟨rfl, hext.os, hext.tape, hext.output, hext.size, fun k hk => hext.block k hk ?_⟩
  rintro ⟨id, a, esz, cap, n, he, _⟩
  simp at he
end

section
open Go Go.ChangeShapes
theorem cells_of_okWide {P : Program} {W : World} {r : Reach} {base : Nat} {t : TypeId} {v : Value} (hu : (∃ e, P.underlying t = some (.slice e)) ∨ (∃ k, P.underlying t = some (.int k)) ∨ P.underlying t = some .string)
    (h : Value.okWide P W r base t v) : v.cells.toList = [v] := by
  rcases hu with ⟨e, hu⟩ | ⟨k, hu⟩ | hu <;> cases v <;> first
    | rfl
    | (exfalso; simp [Value.okWide, hu, Cell.okWide, Cell.ok] at h)

theorem opens_u8 {P : Program} {t : TypeId} (ht : P.underlying t = some (.int .u8)) : Opens P t (fun b : UInt8 => [.int .u8 b.toNat]) (fun _ => True) := by
  intro H en w fuel cs x h
  obtain ⟨n, rfl, _, hw⟩ := DataW.trod_int ht h
  have hr : 0 ≤ n ∧ n < 256 := by
    simp [Lit.wf, IntKind.min, IntKind.max, IntKind.bits, IntKind.signed] at hw
    omega
  refine ⟨UInt8.ofNat n.toNat, trivial, ?_, rfl⟩
  simp only [CRp, CR, and_true]
  congr 1
  rw [UInt8.toNat_ofNat']
  omega

theorem xo_u8 {X : Pk} {t : Nat} {ti : TI} (h : findTI X.L t = some ti) (hk : ti.kind = 4) (hik : ti.ik = .u8) : Opens X.P t (fun b : UInt8 => [.int .u8 b.toNat]) (fun _ => True) := by
  have := (X.tiok h).int hk
  rw [hik] at this
  exact opens_u8 this

theorem openBytes : Opens pk.P 22 (fun bs : Str => [.fs (bs.map rowB)]) (fun bs => bs.length ≤ 9223372036854775807) :=
  Opens.map (xo_slice (enc := rowB) rfl rfl rfl rfl (fun _ => rfl) (xo_u8 rfl rfl rfl)) (fun x => x) (fun _ => rfl) (fun _ h => h.1)
end

theorem asFl (f : Flat) : T.agg [C.fs (List.take f.places.length (List.drop 0 (f.places.map eI))), C.fs (List.take f.named.length (List.drop 0 (f.named.map eP)))] = T.agg (eF f) := by
  rw [takeAll eI _ _ rfl, takeAll eP _ _ rfl]; rfl

theorem asG (s : Sig) : T.agg [C.fs (List.take s.length (List.drop 0 (s.map eQ)))] = T.agg (eG s) := by
  rw [takeAll eQ _ _ rfl]; rfl

theorem asGs (s : Sig) : T.one (C.fs (List.take s.length (List.drop 0 (s.map eQ)))) = T.one (.fs (s.map eQ)) := by rw [takeAll eQ _ _ rfl]

theorem oG_noFz' (s : Sig) : noFzO [ownQ s] = true := by simp [ownQ, noFzO, noFzR_map eQ (fun _ => rfl)]

theorem goodSignature_ct (bs : Str) (k : Int) (hb : bs.length ≤ 2000) (hk : 0 ≤ k) (hk' : k ≤ 1073730000) :
    ACalls pk 117 [.one (.op 0 0 0)] [oR bs k] (fun r o => ∃ s k', OkS s ∧ k ≤ k' ∧ k' ≤ k + 100 ∧ r = .agg [.os 1 0 s.length s.length] ∧ o = [oR bs k', ownQ s]) := by
  refine acalls_of_body Tryz.func117 rfl (by kernel_rfl) rfl ?_
  refine rn rfl ?_
  refine goal_step (step_callE [0] rfl rfl rfl rfl rfl rfl (rfl) (pick_ct bs k 2 hb (by omega) (by omega) (by omega))) ?_
  rintro σ2 ⟨r, o', ⟨⟨z, rfl, _, _⟩, rfl⟩, hσ⟩
  obtain rfl := Option.some.inj hσ
  clear hσ
  refine rn rfl ?_
  refine goal_cutR (fun σ' => ∃ kd : Int, 0 ≤ kd ∧ kd ≤ 4 ∧ σ' = ⟨[(4, .one (.int .i64 kd)), (3, .one (.os 2 0 0 0)), (2, .one (.op 1 0 0)), (0, .one (.op 0 0 0))], [oR bs (k + 1), some ⟨1, [[.fs []]], false, false, true⟩, ownQ []], []⟩) ?_ ?_
  · refine goal_cond rfl (fun h0 => ?_) (fun h0 => ?_) <;> (try simp only [gt_iff_lt, ge_iff_le, bne_iff_ne, ne_eq, bne_eq_false_iff_eq, beq_iff_eq, beq_eq_false_iff_ne, Bool.not_eq_true', Bool.not_eq_false', decide_eq_true_eq, decide_eq_false_iff_not, List.length_map] at h0)
    · refine rn rfl ?_
      exact cut_nrm [4, 3, 2, 0] [1, 2] rfl ⟨1, by omega, by omega, rfl⟩
    · refine rn rfl ?_
      exact cut_nrm [4, 3, 2, 0] [1, 2] rfl ⟨0, by omega, by omega, rfl⟩
  rintro _ ⟨kd, hd0, hd4, rfl⟩
  refine rn rfl ?_
  refine goal_step (step_callE [0] rfl rfl rfl rfl rfl rfl (rfl) (one_ct bs (k + 1) [3, 4, 2, 5, 1, 0, 6, 8] hb (by omega) (by omega) (by decide) (by decide))) ?_
  rintro σ2 ⟨r, o', ⟨⟨v, hv, rfl⟩, rfl⟩, hσ⟩
  obtain rfl := Option.some.inj hσ
  clear hσ
  refine rn rfl ?_
  have hv8 : 0 ≤ v ∧ v ≤ 8 := by
    simp only [List.mem_cons, List.not_mem_nil, or_false] at hv
    omega
  refine goal_loop_keep (fun m σ => ∃ (q kd k1 : Int) (l : Nat) (out : Sig), m = q.toNat ∧ 0 ≤ q ∧ q ≤ 8 ∧ 0 ≤ kd ∧ kd ≤ 4 ∧ l = out.length ∧ OkS out ∧ k ≤ k1 ∧ k1 + 6 * q ≤ k + 90 ∧
      σ = ⟨[(5, .one (.int .i64 q)), (4, .one (.int .i64 kd)), (3, .one (.os 2 0 l l)), (2, .one (.op 1 0 0)), (0, .one (.op 0 0 0))], [oR bs k1, some ⟨1, [[.fs []]], false, false, true⟩, ownQ out], []⟩) v.toNat [5, 4, 3, 2, 0] [1, 2] rfl
    ⟨v, kd, k + 1 + 1, 0, [], rfl, hv8.1, hv8.2, hd0, hd4, rfl, okSig_iff.1 rfl, by omega, by omega, rfl⟩ ?_
  rintro m σ ⟨q, kd, k1, l, out, rfl, hq0, hq8, hd0, hd4, rfl, hok, hk1, hk2, rfl⟩
  have hol := hok.len
  refine rn rfl ?_
  refine goal_cond rfl (fun hc => ?_) (fun hc => ?_) <;> (try simp only [gt_iff_lt, ge_iff_le, bne_iff_ne, ne_eq, bne_eq_false_iff_eq, beq_iff_eq, beq_eq_false_iff_ne, Bool.not_eq_true', Bool.not_eq_false', decide_eq_true_eq, decide_eq_false_iff_not, List.length_map] at hc)
  · refine rt 8 rfl ?_
    refine goal_cutR (fun σ' => ∃ kd' k2 : Int, 0 ≤ kd' ∧ kd' ≤ 4 ∧ k1 ≤ k2 ∧ k2 ≤ k1 + 2 ∧ σ' = ⟨[(5, .one (.int .i64 q)), (4, .one (.int .i64 kd')), (3, .one (.os 2 0 out.length out.length)), (2, .one (.op 1 0 0)), (0, .one (.op 0 0 0))], [oR bs k2, some ⟨1, [[.fs []]], false, false, true⟩, ownQ out], []⟩) ?_ ?_
    · refine rn rfl ?_
      refine goal_step (step_callE [0] rfl rfl rfl rfl rfl rfl (rfl) (pick_ct bs k1 3 hb (by omega) (by omega) (by omega))) ?_
      rintro σ2 ⟨r, o', ⟨⟨z1, rfl, _, _⟩, rfl⟩, hσ⟩
      obtain rfl := Option.some.inj hσ
      clear hσ
      refine rn rfl ?_
      refine goal_guard rfl rfl rfl (fun h1 => ?_) (fun h1 => ?_) <;> (try simp only [gt_iff_lt, ge_iff_le, bne_iff_ne, ne_eq, bne_eq_false_iff_eq, beq_iff_eq, beq_eq_false_iff_ne, Bool.not_eq_true', Bool.not_eq_false', decide_eq_true_eq, decide_eq_false_iff_not, List.length_map] at h1)
      · refine rn rfl ?_
        refine goal_cond rfl (fun h2 => ?_) (fun h2 => ?_) <;> (try simp only [gt_iff_lt, ge_iff_le, bne_iff_ne, ne_eq, bne_eq_false_iff_eq, beq_iff_eq, beq_eq_false_iff_ne, Bool.not_eq_true', Bool.not_eq_false', decide_eq_true_eq, decide_eq_false_iff_not, List.length_map] at h2)
        · have hw : IntKind.i64.wrap (4 - kd) = 4 - kd := wrap64 (by omega) (by omega)
          have hw1 : IntKind.i64.wrap (kd + 1) = kd + 1 := wrap64 (by omega) (by omega)
          refine rn rfl ?_
          rw [hw, hw1]
          refine goal_step (step_callE [0] rfl rfl rfl rfl rfl rfl (rfl) (pick_ct bs (k1 + 1) (4 - kd) hb (by omega) (by omega) (by omega))) ?_
          rintro σ2 ⟨r, o', ⟨⟨y, rfl, hy, _⟩, rfl⟩, hσ⟩
          obtain rfl := Option.some.inj hσ
          clear hσ
          refine rn rfl ?_
          have hy' := hy (by omega)
          have e : IntKind.i64.wrap (kd + 1 + y) = kd + 1 + y := wrap64 (by omega) (by omega)
          rw [e]
          exact cut_nrm [5, 4, 3, 2, 0] [1, 2] rfl ⟨kd + 1 + y, k1 + 1 + 1, by omega, by omega, by omega, by omega, rfl⟩
        · refine rn rfl ?_
          exact cut_nrm [5, 4, 3, 2, 0] [1, 2] rfl ⟨kd, k1 + 1, hd0, hd4, by omega, by omega, rfl⟩
      · refine rn rfl ?_
        exact cut_nrm [5, 4, 3, 2, 0] [1, 2] rfl ⟨kd, k1 + 1, hd0, hd4, by omega, by omega, rfl⟩
    clear hd0 hd4
    rintro _ ⟨kd', k2, hd0, hd4, hk3, hk4, rfl⟩
    refine rn rfl ?_
    refine goal_step (step_callE [0] rfl rfl rfl rfl rfl rfl rfl (of_ct bs k2 [[97], [98], [99], [100], [120], [121], [112], [113], [97, 114, 103, 115], [107, 119]] hb (by omega) (by omega) (by decide) (by decide))) ?_
    rintro σ2 ⟨r, o', ⟨⟨nm, hnm, rfl⟩, rfl⟩, hσ⟩
    obtain rfl := Option.some.inj hσ
    clear hσ
    have hnl : nm.length ≤ 7 := by
      simp only [List.mem_cons, List.not_mem_nil, or_false] at hnm
      rcases hnm with h | h | h | h | h | h | h | h | h | h <;> (rw [h]; decide)
    refine rt 11 rfl ?_
    refine goal_cutR (fun σ' => ∃ (p : Param) (k3 : Int), p.name.length ≤ 7 ∧ k2 ≤ k3 ∧ k3 ≤ k2 + 3 ∧ σ' = ⟨[(6, .one (.op 3 0 0)), (5, .one (.int .i64 q)), (4, .one (.int .i64 kd')), (3, .one (.os 2 0 out.length out.length)), (2, .one (.op 1 0 0)), (0, .one (.op 0 0 0))], [oR bs k3, some ⟨1, [[.fs []]], false, false, true⟩, ownQ out, some ⟨4, [eQ p], false, false, true⟩], []⟩) ?_ ?_
    · refine rn rfl ?_
      refine goal_step (step_callE [0] rfl rfl rfl rfl rfl rfl (rfl) (pick_ct bs (k2 + 1) 3 hb (by omega) (by omega) (by omega))) ?_
      rintro σ2 ⟨r, o', ⟨⟨z2, rfl, _, _⟩, rfl⟩, hσ⟩
      obtain rfl := Option.some.inj hσ
      clear hσ
      refine rn rfl ?_
      refine goal_guard rfl rfl rfl (fun h1 => ?_) (fun h1 => ?_) <;> (try simp only [gt_iff_lt, ge_iff_le, bne_iff_ne, ne_eq, bne_eq_false_iff_eq, beq_iff_eq, beq_eq_false_iff_ne, Bool.not_eq_true', Bool.not_eq_false', decide_eq_true_eq, decide_eq_false_iff_not, List.length_map] at h1)
      · refine rn rfl ?_
        refine goal_step (step_call [] rfl rfl rfl rfl rfl rfl (ssingle_ct ⟨nm, kd', false, 0⟩)) ?_
        rintro σ2 ⟨r, o', ⟨rfl, rfl⟩, hσ⟩
        obtain rfl := Option.some.inj hσ
        clear hσ
        refine rn rfl ?_
        refine goal_cond rfl (fun h2 => ?_) (fun h2 => ?_) <;> (try simp only [gt_iff_lt, ge_iff_le, bne_iff_ne, ne_eq, bne_eq_false_iff_eq, beq_iff_eq, beq_eq_false_iff_ne, Bool.not_eq_true', Bool.not_eq_false', decide_eq_true_eq, decide_eq_false_iff_not, List.length_map] at h2)
        · refine rn rfl ?_
          refine goal_step (step_callE [0] rfl rfl rfl rfl rfl rfl (rfl) (aNumber_ct bs (k2 + 1 + 1) hb (by omega) (by omega))) ?_
          rintro σ2 ⟨r, o', ⟨⟨w, _, _, rfl⟩, rfl⟩, hσ⟩
          obtain rfl := Option.some.inj hσ
          clear hσ
          refine rn rfl ?_
          refine rn rfl ?_
          exact cut_nrm [6, 5, 4, 3, 2, 0] [1, 2, 4] rfl ⟨⟨nm, kd', true, w⟩, k2 + 1 + 1 + 1, hnl, by omega, by omega, rfl⟩
        · refine rn rfl ?_
          exact cut_nrm [6, 5, 4, 3, 2, 0] [1, 2, 4] rfl ⟨⟨nm, kd', false, 0⟩, k2 + 1 + 1, hnl, by omega, by omega, rfl⟩
      · refine rn rfl ?_
        exact cut_nrm [6, 5, 4, 3, 2, 0] [1, 2, 4] rfl ⟨⟨nm, kd', false, 0⟩, k2 + 1 + 1, hnl, by omega, by omega, rfl⟩
    rintro _ ⟨p, k3, hpn, hk5, hk6, rfl⟩
    refine rt 14 rfl ?_
    refine goal_cutR (fun σ' => ∃ kd2 : Int, 0 ≤ kd2 ∧ kd2 ≤ 4 ∧ σ' = ⟨[(6, .one (.op 3 0 0)), (5, .one (.int .i64 q)), (4, .one (.int .i64 kd2)), (3, .one (.os 2 0 out.length out.length)), (2, .one (.op 1 0 0)), (0, .one (.op 0 0 0))], [oR bs k3, some ⟨1, [[.fs []]], false, false, true⟩, ownQ out, some ⟨4, [eQ p], false, false, true⟩], []⟩) ?_ ?_
    · refine rn rfl ?_
      refine goal_step (step_call [] rfl rfl rfl rfl rfl rfl (ssingle_ct p)) ?_
      rintro σ2 ⟨r, o', ⟨rfl, rfl⟩, hσ⟩
      obtain rfl := Option.some.inj hσ
      clear hσ
      refine rn rfl ?_
      refine goal_cond rfl (fun h1 => ?_) (fun h1 => ?_) <;> (try simp only [gt_iff_lt, ge_iff_le, bne_iff_ne, ne_eq, bne_eq_false_iff_eq, beq_iff_eq, beq_eq_false_iff_ne, Bool.not_eq_true', Bool.not_eq_false', decide_eq_true_eq, decide_eq_false_iff_not, List.length_map] at h1)
      · have hw : IntKind.i64.wrap (kd' + 1) = kd' + 1 := wrap64 (by omega) (by omega)
        refine rn rfl ?_
        rw [hw]
        refine goal_did rfl rfl (dA_min rfl rfl rfl rfl) ?_
        refine rn rfl ?_
        exact cut_nrm [6, 5, 4, 3, 2, 0] [1, 2, 3] rfl ⟨if 4 < kd' + 1 then 4 else kd' + 1, by split <;> omega, by split <;> omega, rfl⟩
      · refine rn rfl ?_
        exact cut_nrm [6, 5, 4, 3, 2, 0] [1, 2, 3] rfl ⟨kd', hd0, hd4, rfl⟩
    rintro _ ⟨kd2, hd5, hd6, rfl⟩
    refine rt1 16 rfl ?_
    refine goal_cutR (fun σ' => σ' = ⟨[(7, .one (.os 3 0 (out.length + 1) (out.length + 1))), (5, .one (.int .i64 q)), (4, .one (.int .i64 kd2)), (3, .one (.os 2 0 out.length out.length)), (2, .one (.op 1 0 0)), (0, .one (.op 0 0 0))], [oR bs k3, some ⟨1, [[.fs []]], false, false, true⟩, ownQ out, ownQ (out ++ [p])], []⟩) ?_ ?_
    · refine goal_draw' [2, 3] 6 rfl ?_
      refine drn [0, 2] (by kernel_rfl) (by kernel_rfl) rfl rfl ?_
      refine AH_two (i := 1) (j := 3) (by kernel_rfl) (step_lendE [] rfl rfl rfl rfl rfl rfl rfl (cons_eq (asGs out) rfl) (copyParams_ct out (by omega)) (by rintro r o ⟨rfl, rfl⟩; exact ⟨rfl, oG_noFz' out⟩)) (by simp) (step_did rfl rfl (dA_step rfl)) (mdOk rfl) ?_ ?_
      · rintro σ2 ⟨r, o', ⟨rfl, rfl⟩, hσ⟩
        obtain rfl := Option.some.inj hσ
        clear hσ
        refine AH_oneDid 3 rfl (by kernel_rfl) rfl (dA_step rfl) (mdOk rfl) ?_
        refine AH_oneDid 4 rfl (by kernel_rfl) rfl (dA_append (old := (out).map eQ) (rows := ([p] : List Param).map eQ) (((out) ++ ([p] : List Param)).map eQ) (out.length + 1) true (Dst.own rfl rfl rfl rfl rfl (by first | (simp; done) | (simp; omega)) (whole (by first | (simp; done) | (simp; omega)))) (Src.os rfl rfl (Nat.le_refl 1) rfl) rfl rfl rfl rfl rfl rfl rfl rfl (rows_len eQ_len _) (rows_len eQ_len _) (by (try simp only [List.length_map, List.length_append, List.length_cons, List.length_nil, List.length_take, List.length_drop]); show _ * 40 ≤ _; omega) (by first | (simp; done) | (simp; omega)) (by simp) (by first | (simp; done) | (simp; omega)) (fun _ => noOwnR_map _ eQ_noOwn _)) (mdOk rfl) ?_
        refine drn [5] (by kernel_rfl) (by kernel_rfl) rfl rfl ?_
        refine AH_end (by kernel_rfl) ?_
        refine rn rfl ?_
        exact cut_nrm [7, 5, 4, 3, 2, 0] [1, 2, 6] rfl rfl
      · rintro _ rfl
        refine AH_one (i := 1) (by kernel_rfl) (step_lendE [] rfl rfl rfl rfl rfl rfl rfl (cons_eq (asGs out) rfl) (copyParams_ct out (by omega)) (by rintro r o ⟨rfl, rfl⟩; exact ⟨rfl, oG_noFz' out⟩)) (by simp) ?_
        rintro σ2 ⟨r, o', ⟨rfl, rfl⟩, hσ⟩
        obtain rfl := Option.some.inj hσ
        clear hσ
        refine AH_oneDid 4 rfl (by kernel_rfl) rfl (dA_append (old := (out).map eQ) (rows := ([p] : List Param).map eQ) (((out) ++ ([p] : List Param)).map eQ) (out.length + 1) true (Dst.own rfl rfl rfl rfl rfl (by first | (simp; done) | (simp; omega)) (whole (by first | (simp; done) | (simp; omega)))) (Src.os rfl rfl (Nat.le_refl 1) rfl) rfl rfl rfl rfl rfl rfl rfl rfl (rows_len eQ_len _) (rows_len eQ_len _) (by (try simp only [List.length_map, List.length_append, List.length_cons, List.length_nil, List.length_take, List.length_drop]); show _ * 40 ≤ _; omega) (by first | (simp; done) | (simp; omega)) (by simp) (by first | (simp; done) | (simp; omega)) (fun _ => noOwnR_map _ eQ_noOwn _)) (mdOk rfl) ?_
        refine drn [5] (by kernel_rfl) (by kernel_rfl) rfl rfl ?_
        refine AH_end (by kernel_rfl) ?_
        refine rn rfl ?_
        exact cut_nrm [7, 5, 4, 3, 2, 0] [1, 2, 6] rfl rfl
    rintro _ rfl
    have hln : ∀ r ∈ out ++ [p], r.name.length ≤ 9223372036854775807 := by
      intro r hr
      rcases List.mem_append.1 hr with hr | hr
      · have := hok.nameLen hr; omega
      · simp only [List.mem_singleton] at hr; rw [hr]; omega
    refine rn rfl ?_
    refine goal_step (step_lendE [] rfl rfl rfl rfl rfl rfl rfl (cons_eq (congrArg (fun x => T.one (C.fs x)) (takeAll eQ (out ++ [p]) (out.length + 1) (by simp))) rfl) (svalidParams_ct (out ++ [p]) (by simp; omega) hln) (by rintro r o ⟨rfl, rfl⟩; exact ⟨rfl, rfl⟩)) ?_
    rintro σ2 ⟨r, o', ⟨rfl, rfl⟩, hσ⟩
    obtain rfl := Option.some.inj hσ
    clear hσ
    refine rn rfl ?_
    have hw : IntKind.i64.wrap (q - 1) = q - 1 := wrap64 (by omega) (by omega)
    refine goal_cond rfl (fun h9 => ?_) (fun h9 => ?_) <;> (try simp only [gt_iff_lt, ge_iff_le, bne_iff_ne, ne_eq, bne_eq_false_iff_eq, beq_iff_eq, beq_eq_false_iff_ne, Bool.not_eq_true', Bool.not_eq_false', decide_eq_true_eq, decide_eq_false_iff_not, List.length_map] at h9)
    · refine rn rfl ?_
      rw [hw]
      refine round_keep (q - 1).toNat [5, 4, 3, 2, 0] [1, 3] (by omega) rfl ⟨q - 1, kd2, k3, _, out ++ [p], rfl, by omega, by omega, hd5, hd6, (by simp : out.length + 1 = _), okSig_iff.1 h9, by omega, by omega, rfl⟩
    · refine rn rfl ?_
      rw [hw]
      refine round_keep (q - 1).toNat [5, 4, 3, 2, 0] [1, 2] (by omega) rfl ⟨q - 1, kd2, k3, _, out, rfl, by omega, by omega, hd5, hd6, rfl, hok, by omega, by omega, rfl⟩
  · refine rn rfl (round_ext ?_)
    refine rn rfl (fin_is [2] rfl ⟨out, k1, hok, hk1, by omega, rfl, rfl⟩)

structure SmallS (s : Sig) : Prop where
  len : s.length ≤ 8
  names : ∀ p ∈ s, p.name.length ≤ 7

theorem small_set {s : Sig} {j : Nat} {p : Param} (h : SmallS s) (hp : p.name.length ≤ 7) : SmallS (s.set j p) := by
  refine ⟨by simp [h.len], fun q hq => ?_⟩
  rcases List.mem_or_eq_of_mem_set hq with hq | hq
  · exact h.names q hq
  · rw [hq]; exact hp

theorem OkS.small {s : Sig} (h : OkS s) : SmallS s := ⟨h.len, fun p hp => by have := h.nameLen hp; omega⟩

theorem someSignature_ct (bs : Str) (k : Int) (hb : bs.length ≤ 2000) (hk : 0 ≤ k) (hk' : k ≤ 1073720000) :
    ACalls pk 61 [.one (.op 0 0 0)] [oR bs k] (fun r o => ∃ s k', SmallS s ∧ k ≤ k' ∧ k' ≤ k + 110 ∧ r = .agg (eG s) ∧ o = [oR bs k']) := by
  refine acalls_of_body Tryz.func61 rfl (by kernel_rfl) rfl ?_
  refine rn rfl ?_
  refine goal_step (step_callE [0] rfl rfl rfl rfl rfl rfl rfl (goodSignature_ct bs k hb hk (by omega))) ?_
  rintro σ2 ⟨r, o', ⟨s, k1, hs, hk1, hk2, rfl, rfl⟩, hσ⟩
  obtain rfl := Option.some.inj hσ
  clear hσ
  have hsm := hs.small
  have hsl := hsm.len
  refine rt 2 rfl ?_
  refine goal_cutR (fun σ' => ∃ (t : Sig) (k2 : Int), SmallS t ∧ k1 ≤ k2 ∧ k2 ≤ k1 + 10 ∧ t.length = s.length ∧ σ' = ⟨[(3, .one (.op 2 0 0)), (2, .one (.op 1 0 0))], [oR bs k2, some ⟨1, [[.fs []]], false, false, true⟩, some ⟨1, [[.os 3 0 s.length s.length]], false, false, true⟩, ownQ t], []⟩) ?_ ?_
  · refine rn rfl ?_
    refine goal_cond rfl (fun h0 => ?_) (fun h0 => ?_) <;> (try simp only [gt_iff_lt, ge_iff_le, bne_iff_ne, ne_eq, bne_eq_false_iff_eq, beq_iff_eq, beq_eq_false_iff_ne, Bool.not_eq_true', Bool.not_eq_false', decide_eq_true_eq, decide_eq_false_iff_not, List.length_map] at h0)
    · refine rn rfl ?_
      refine goal_step (step_callE [0] rfl rfl rfl rfl rfl rfl (rfl) (pick_ct bs k1 s.length hb (by omega) (by omega) (by omega))) ?_
      rintro σ2 ⟨r, o', ⟨⟨y, rfl, hy, _⟩, rfl⟩, hσ⟩
      obtain rfl := Option.some.inj hσ
      clear hσ
      refine rn rfl ?_
      have hy' := hy (by omega)
      obtain ⟨j, rfl⟩ : ∃ j : Nat, y = j := ⟨y.toNat, by omega⟩
      obtain ⟨p, hp⟩ := at_some (xs := s) (i := j) (by omega)
      have hpn := hsm.names p (List.mem_of_getElem? hp)
      refine rn rfl ?_
      refine goal_step (step_callE [0] rfl rfl rfl rfl rfl rfl (rfl) (pick_ct bs (k1 + 1) 24 hb (by omega) (by omega) (by omega))) ?_
      rintro σ2 ⟨r, o', ⟨⟨z, rfl, _, _⟩, rfl⟩, hσ⟩
      obtain rfl := Option.some.inj hσ
      clear hσ
      refine rn rfl ?_
      refine rn rfl ?_
      refine goal_cond rfl (fun c1 => ?_) (fun c1 => ?_) <;> (try simp only [gt_iff_lt, ge_iff_le, bne_iff_ne, ne_eq, bne_eq_false_iff_eq, beq_iff_eq, beq_eq_false_iff_ne, Bool.not_eq_true', Bool.not_eq_false', decide_eq_true_eq, decide_eq_false_iff_not, List.length_map] at c1)
      · refine rn rfl ?_
        refine goal_draw' [3] 8 rfl ?_
        refine drn [0, 1, 2, 3] (by kernel_rfl) (by kernel_rfl) rfl rfl ?_
        refine AH_one (i := 4) (by kernel_rfl) (step_callE [0] rfl rfl rfl rfl rfl rfl (rfl) (anyName_ct bs (k1 + 1 + 1) hb (by omega) (by omega))) (by simp) ?_
        rintro σ2 ⟨r, o', ⟨⟨nm, hnm, rfl⟩, rfl⟩, hσ⟩
        obtain rfl := Option.some.inj hσ
        clear hσ
        refine AH_did 5 rfl (by kernel_rfl) (by kernel_rfl) (by kernel_rfl) rfl rfl (dA_indexOwn rfl rfl rfl rfl rfl rfl rfl rfl rfl (by omega) (by (try simp); omega)) ?_
        refine AH_did 6 rfl (by kernel_rfl) (by kernel_rfl) (by kernel_rfl) rfl rfl (dA_step rfl) ?_
        refine AH_oneDid 7 rfl (by kernel_rfl) rfl (dA_storeEl (eQ p) ((s.set j ⟨nm, p.kind, p.hasD, p.dflt⟩).map eQ) true rfl rfl rfl rfl rfl (map_at (by simpa using hp)) rfl rfl (by simp [eQ]) (by rw [map_set]; simp [patch, eQ]) (fun _ => noOwnR_map _ eQ_noOwn _)) (mdOk rfl) ?_
        refine AH_end (by kernel_rfl) ?_
        refine rn rfl ?_
        exact cut_nrm [3, 2] [1, 3, 2] rfl ⟨s.set j ⟨nm, p.kind, p.hasD, p.dflt⟩, k1 + 1 + 1 + 2, small_set hsm (by exact hnm), by omega, by omega, by simp, rfl⟩
      · refine rn rfl ?_
        refine goal_cond rfl (fun c2 => ?_) (fun c2 => ?_) <;> (try simp only [gt_iff_lt, ge_iff_le, bne_iff_ne, ne_eq, bne_eq_false_iff_eq, beq_iff_eq, beq_eq_false_iff_ne, Bool.not_eq_true', Bool.not_eq_false', decide_eq_true_eq, decide_eq_false_iff_not, List.length_map] at c2)
        · refine rn rfl ?_
          refine goal_draw' [3] 9 rfl ?_
          refine drn [0, 1, 2, 3] (by kernel_rfl) (by kernel_rfl) rfl rfl ?_
          refine AH_oneDid 4 rfl (by kernel_rfl) rfl (dA_step rfl) (mdOk rfl) ?_
          refine AH_one (i := 5) (by kernel_rfl) (step_callE [0] rfl rfl rfl rfl rfl rfl (rfl) (one_ct bs (k1 + 1 + 1) [-1, 5, 0, 2, 4] hb (by omega) (by omega) (by decide) (by decide))) (by simp) ?_
          rintro σ2 ⟨r, o', ⟨⟨w, hw, rfl⟩, rfl⟩, hσ⟩
          obtain rfl := Option.some.inj hσ
          clear hσ
          refine AH_did 6 rfl (by kernel_rfl) (by kernel_rfl) (by kernel_rfl) rfl rfl (dA_indexOwn rfl rfl rfl rfl rfl rfl rfl rfl rfl (by omega) (by (try simp); omega)) ?_
          refine AH_did 7 rfl (by kernel_rfl) (by kernel_rfl) (by kernel_rfl) rfl rfl (dA_step rfl) ?_
          refine AH_oneDid 8 rfl (by kernel_rfl) rfl (dA_storeEl (eQ p) ((s.set j ⟨p.name, w, p.hasD, p.dflt⟩).map eQ) true rfl rfl rfl rfl rfl (map_at (by simpa using hp)) rfl rfl (by simp [eQ]) (by rw [map_set]; simp [patch, eQ]) (fun _ => noOwnR_map _ eQ_noOwn _)) (mdOk rfl) ?_
          refine AH_end (by kernel_rfl) ?_
          refine rn rfl ?_
          exact cut_nrm [3, 2] [1, 3, 2] rfl ⟨s.set j ⟨p.name, w, p.hasD, p.dflt⟩, k1 + 1 + 1 + 1, small_set hsm (by exact hpn), by omega, by omega, by simp, rfl⟩
        · refine rn rfl ?_
          refine goal_cond rfl (fun c3 => ?_) (fun c3 => ?_) <;> (try simp only [gt_iff_lt, ge_iff_le, bne_iff_ne, ne_eq, bne_eq_false_iff_eq, beq_iff_eq, beq_eq_false_iff_ne, Bool.not_eq_true', Bool.not_eq_false', decide_eq_true_eq, decide_eq_false_iff_not, List.length_map] at c3)
          · refine rn rfl ?_
            refine goal_drawL [2, 3] [12] 13 rfl ?_
            refine drnL [0, 1, 2, 3, 4, 5] (by kernel_rfl) (by kernel_rfl) rfl rfl ?_
            refine AHL_did 6 rfl (by kernel_rfl) (by kernel_rfl) (by kernel_rfl) (by kernel_rfl) rfl rfl (dA_indexOwn rfl rfl rfl rfl rfl rfl rfl rfl rfl (by omega) (by (try simp); omega)) ?_
            refine AHL_did 7 rfl (by kernel_rfl) (by kernel_rfl) (by kernel_rfl) (by kernel_rfl) rfl rfl (dA_step rfl) ?_
            refine AHL_did 8 rfl (by kernel_rfl) (by kernel_rfl) (by kernel_rfl) (by kernel_rfl) rfl rfl (dA_loadEl (eQ p) rfl rfl rfl rfl (map_at (by simpa using hp)) rfl rfl rfl) ?_
            refine drnL [9] (by kernel_rfl) (by kernel_rfl) rfl rfl ?_
            refine AHL_did 10 rfl (by kernel_rfl) (by kernel_rfl) (by kernel_rfl) (by kernel_rfl) rfl rfl (dA_indexOwn rfl rfl rfl rfl rfl rfl rfl rfl rfl (by omega) (by (try simp); omega)) ?_
            refine AHL_did 11 rfl (by kernel_rfl) (by kernel_rfl) (by kernel_rfl) (by kernel_rfl) rfl rfl (dA_step rfl) ?_
            refine AHL_lateDid 12 rfl (by kernel_rfl) rfl rfl (dA_storeEl (eQ p) ((s.set j ⟨p.name, p.kind, !p.hasD, p.dflt⟩).map eQ) true rfl rfl rfl rfl rfl (map_at (by simpa using hp)) rfl rfl (by simp [eQ]) (by rw [map_set]; simp [patch, eQ]) (fun _ => noOwnR_map _ eQ_noOwn _)) ?_
            refine AH_end (by kernel_rfl) ?_
            refine rn rfl ?_
            exact cut_nrm [3, 2] [1, 3, 2] rfl ⟨s.set j ⟨p.name, p.kind, !p.hasD, p.dflt⟩, k1 + 1 + 1, small_set hsm (by exact hpn), by omega, by omega, by simp, rfl⟩
          · refine rn rfl ?_
            refine goal_cond rfl (fun c4 => ?_) (fun c4 => ?_) <;> (try simp only [gt_iff_lt, ge_iff_le, bne_iff_ne, ne_eq, bne_eq_false_iff_eq, beq_iff_eq, beq_eq_false_iff_ne, Bool.not_eq_true', Bool.not_eq_false', decide_eq_true_eq, decide_eq_false_iff_not, List.length_map] at c4)
            · refine rn rfl ?_
              refine goal_draw' [3] 9 rfl ?_
              refine drn [0, 1, 2, 3] (by kernel_rfl) (by kernel_rfl) rfl rfl ?_
              refine AH_oneDid 4 rfl (by kernel_rfl) rfl (dA_step rfl) (mdOk rfl) ?_
              refine AH_one (i := 5) (by kernel_rfl) (step_callE [0] rfl rfl rfl rfl rfl rfl (rfl) (one_ct bs (k1 + 1 + 1) [100, 5] hb (by omega) (by omega) (by decide) (by decide))) (by simp) ?_
              rintro σ2 ⟨r, o', ⟨⟨w, hw, rfl⟩, rfl⟩, hσ⟩
              obtain rfl := Option.some.inj hσ
              clear hσ
              refine AH_did 6 rfl (by kernel_rfl) (by kernel_rfl) (by kernel_rfl) rfl rfl (dA_indexOwn rfl rfl rfl rfl rfl rfl rfl rfl rfl (by omega) (by (try simp); omega)) ?_
              refine AH_did 7 rfl (by kernel_rfl) (by kernel_rfl) (by kernel_rfl) rfl rfl (dA_step rfl) ?_
              refine AH_oneDid 8 rfl (by kernel_rfl) rfl (dA_storeEl (eQ p) ((s.set j ⟨p.name, p.kind, p.hasD, w⟩).map eQ) true rfl rfl rfl rfl rfl (map_at (by simpa using hp)) rfl rfl (by simp [eQ]) (by rw [map_set]; simp [patch, eQ]) (fun _ => noOwnR_map _ eQ_noOwn _)) (mdOk rfl) ?_
              refine AH_end (by kernel_rfl) ?_
              refine rn rfl ?_
              exact cut_nrm [3, 2] [1, 3, 2] rfl ⟨s.set j ⟨p.name, p.kind, p.hasD, w⟩, k1 + 1 + 1 + 1, small_set hsm (by exact hpn), by omega, by omega, by simp, rfl⟩
            · refine rn rfl ?_
              exact cut_nrm [3, 2] [1, 3, 2] rfl ⟨s, k1 + 1 + 1, hsm, by omega, by omega, rfl, rfl⟩
    · refine rn rfl ?_
      exact cut_nrm [3, 2] [1, 3, 2] rfl ⟨s, k1, hsm, by omega, by omega, rfl, rfl⟩
  rintro _ ⟨t, k2, ht, hk3, hk4, htl, rfl⟩
  refine rn rfl (fin_is [] rfl ⟨t, k2, ht, by omega, by omega, ?_, rfl⟩)
  rw [← htl]; exact asG t

/-- A flat of a draw: not long, its names short. -/
structure MidF (f : Flat) (a b : Nat) : Prop where
  places : f.places.length ≤ a
  named : f.named.length ≤ b
  names : ∀ p ∈ f.named, p.name.length ≤ 7

theorem callFor_ct (bs : Str) (k : Int) (s : Sig) (hs : OkS s) (hb : bs.length ≤ 2000) (hk : 0 ≤ k) (hk' : k ≤ 1073700000) :
    ACalls pk 88 [.one (.op 0 0 0), .agg (eG s)] [oR bs k] (fun r o => ∃ f k', MidF f 24 8 ∧ k ≤ k' ∧ k' ≤ k + 200 ∧ r = .agg (eF f) ∧ o = [oR bs k']) := by
  have hsl := hs.len
  have hP := placesQ_le s
  have hw0 : IntKind.i64.wrap ((placesQ s : Int) + 1) = (placesQ s : Int) + 1 := wrap64 (by omega) (by omega)
  refine acalls_of_body Tryz.func88 rfl (by kernel_rfl) rfl ?_
  refine rn rfl ?_
  refine goal_step (step_call [] rfl rfl rfl rfl rfl rfl (splaces_ct s (by omega))) ?_
  rintro σ2 ⟨r, o', ⟨rfl, rfl⟩, hσ⟩
  obtain rfl := Option.some.inj hσ
  clear hσ
  refine rn rfl ?_
  rw [hw0]
  refine goal_step (step_callE [0] rfl rfl rfl rfl rfl rfl (rfl) (pick_ct bs k ((placesQ s : Int) + 1) hb (by omega) (by omega) (by omega))) ?_
  rintro σ2 ⟨r, o', ⟨⟨pl, rfl, _, _⟩, rfl⟩, hσ⟩
  obtain rfl := Option.some.inj hσ
  clear hσ
  refine rn rfl ?_
  refine goal_loop_keep (fun m σ => ∃ (q k1 : Int) (i l1 l2 : Nat) (F : Flat), q = i ∧ i ≤ s.length ∧ m = s.length - i ∧ l1 = F.places.length ∧ l2 = F.named.length ∧ MidF F (3 * i) i ∧ k + 1 ≤ k1 ∧ k1 ≤ k + 1 + 20 * i ∧
      σ = ⟨[(7, .one (.int .i64 q)), (6, .one (.int .i64 pl)), (5, .one (.op 3 0 0)), (4, .one (.op 2 0 0)), (3, .one (.op 1 0 0)), (0, .one (.op 0 0 0))],
        [oR bs k1, some ⟨1, [eG s], false, false, true⟩, some ⟨2, [[.fs [], .fs []]], false, false, true⟩, some ⟨2, [[.os 4 0 l1 l1, .os 5 0 l2 l2]], false, false, true⟩, ownI F.places, ownP F.named], []⟩) s.length [7, 6, 5, 4, 3, 0] [1, 2, 5, 3, 4] rfl
    ⟨_, k + 1, 0, 0, 0, zF, rfl, by omega, by omega, rfl, rfl, ⟨by simp [zF], by simp [zF], by simp [zF]⟩, by omega, by omega, rfl⟩ ?_
  rintro m σ ⟨q, k1, i, l1, l2, F, rfl, hi, rfl, rfl, rfl, hF, hk1, hk2, rfl⟩
  have hF1 := hF.places
  have hF2 := hF.named
  have fin : goal pk Tryz.f88.ntmps 1 (fun _ _ => False) (.nrm []) ⟨[], [], []⟩ → True := fun _ => trivial
  clear fin
  refine rn rfl ?_
  refine goal_guard rfl rfl rfl (fun hc => ?_) (fun hc => ?_) <;> (try simp only [gt_iff_lt, ge_iff_le, bne_iff_ne, ne_eq, bne_eq_false_iff_eq, beq_iff_eq, beq_eq_false_iff_ne, Bool.not_eq_true', Bool.not_eq_false', decide_eq_true_eq, decide_eq_false_iff_not, List.length_map] at hc)
  · refine rn rfl ?_
    refine goal_cond rfl (fun hc2 => ?_) (fun hc2 => ?_) <;> (try simp only [gt_iff_lt, ge_iff_le, bne_iff_ne, ne_eq, bne_eq_false_iff_eq, beq_iff_eq, beq_eq_false_iff_ne, Bool.not_eq_true', Bool.not_eq_false', decide_eq_true_eq, decide_eq_false_iff_not, List.length_map] at hc2)
    · obtain ⟨p, hp⟩ := at_some (xs := s) (i := i) (by omega)
      have hpn := hs.nameLen (List.mem_of_getElem? hp)
      refine rn rfl ?_
      refine goal_did rfl rfl (dA_index (eQ p) rfl rfl rfl rfl rfl rfl rfl (by omega) (by (try simp); omega) (map_at (by simpa using hp)) rfl) ?_
      refine rt1 7 rfl ?_
      refine goal_cutR (fun σ' => ∃ v : Int, σ' = ⟨[(9, .one (.int .i64 v)), (8, .one (.op 6 0 0)), (7, .one (.int .i64 i)), (6, .one (.int .i64 pl)), (5, .one (.op 3 0 0)), (4, .one (.op 2 0 0)), (3, .one (.op 1 0 0)), (0, .one (.op 0 0 0))], [oR bs (k1 + 1), some ⟨1, [eG s], false, false, true⟩, some ⟨2, [[.fs [], .fs []]], false, false, true⟩, some ⟨2, [[.os 4 0 F.places.length F.places.length, .os 5 0 F.named.length F.named.length]], false, false, true⟩, ownI F.places, ownP F.named, some ⟨4, [eQ p], false, false, true⟩], []⟩) ?_ ?_
      · refine rn rfl ?_
        refine goal_step (step_callE [0] rfl rfl rfl rfl rfl rfl (rfl) (aNumber_ct bs k1 hb (by omega) (by omega))) ?_
        rintro σ2 ⟨r, o', ⟨⟨v, _, _, rfl⟩, rfl⟩, hσ⟩
        obtain rfl := Option.some.inj hσ
        clear hσ
        refine rn rfl ?_
        exact cut_nrm [9, 8, 7, 6, 5, 4, 3, 0] [1, 2, 3, 4, 5, 6] rfl ⟨v, rfl⟩
      rintro _ ⟨v0, rfl⟩
      refine rt 8 rfl ?_
      refine goal_cutR (fun σ' => ∃ v k2 : Int, k1 + 1 ≤ k2 ∧ k2 ≤ k1 + 2 ∧ σ' = ⟨[(9, .one (.int .i64 v)), (8, .one (.op 6 0 0)), (7, .one (.int .i64 i)), (6, .one (.int .i64 pl)), (5, .one (.op 3 0 0)), (4, .one (.op 2 0 0)), (3, .one (.op 1 0 0)), (0, .one (.op 0 0 0))], [oR bs k2, some ⟨1, [eG s], false, false, true⟩, some ⟨2, [[.fs [], .fs []]], false, false, true⟩, some ⟨2, [[.os 4 0 F.places.length F.places.length, .os 5 0 F.named.length F.named.length]], false, false, true⟩, ownI F.places, ownP F.named, some ⟨4, [eQ p], false, false, true⟩], []⟩) ?_ ?_
      · refine rn rfl ?_
        refine goal_guard rfl rfl rfl (fun a1 => ?_) (fun a1 => ?_) <;> (try simp only [gt_iff_lt, ge_iff_le, bne_iff_ne, ne_eq, bne_eq_false_iff_eq, beq_iff_eq, beq_eq_false_iff_ne, Bool.not_eq_true', Bool.not_eq_false', decide_eq_true_eq, decide_eq_false_iff_not, List.length_map] at a1)
        · refine rn rfl ?_
          refine goal_step (step_callE [0] rfl rfl rfl rfl rfl rfl (rfl) (pick_ct bs (k1 + 1) 3 hb (by omega) (by omega) (by omega))) ?_
          rintro σ2 ⟨r, o', ⟨⟨z, rfl, _, _⟩, rfl⟩, hσ⟩
          obtain rfl := Option.some.inj hσ
          clear hσ
          refine rn rfl ?_
          refine goal_cond rfl (fun a2 => ?_) (fun a2 => ?_) <;> (try simp only [gt_iff_lt, ge_iff_le, bne_iff_ne, ne_eq, bne_eq_false_iff_eq, beq_iff_eq, beq_eq_false_iff_ne, Bool.not_eq_true', Bool.not_eq_false', decide_eq_true_eq, decide_eq_false_iff_not, List.length_map] at a2)
          · refine rn rfl ?_
            exact cut_nrm [9, 8, 7, 6, 5, 4, 3, 0] [1, 2, 3, 4, 5, 6] rfl ⟨p.dflt, k1 + 1 + 1, by omega, by omega, rfl⟩
          · refine rn rfl ?_
            exact cut_nrm [9, 8, 7, 6, 5, 4, 3, 0] [1, 2, 3, 4, 5, 6] rfl ⟨v0, k1 + 1 + 1, by omega, by omega, rfl⟩
        · refine rn rfl ?_
          exact cut_nrm [9, 8, 7, 6, 5, 4, 3, 0] [1, 2, 3, 4, 5, 6] rfl ⟨v0, k1 + 1, by omega, by omega, rfl⟩
      rintro _ ⟨v, k2, hk3, hk4, rfl⟩
      refine rt1 10 rfl ?_
      refine goal_cutR (fun σ' => ∃ b : Bool, σ' = ⟨[(48, .one (.bool b)), (9, .one (.int .i64 v)), (8, .one (.op 6 0 0)), (7, .one (.int .i64 i)), (6, .one (.int .i64 pl)), (5, .one (.op 3 0 0)), (4, .one (.op 2 0 0)), (3, .one (.op 1 0 0)), (0, .one (.op 0 0 0))], [oR bs k2, some ⟨1, [eG s], false, false, true⟩, some ⟨2, [[.fs [], .fs []]], false, false, true⟩, some ⟨2, [[.os 4 0 F.places.length F.places.length, .os 5 0 F.named.length F.named.length]], false, false, true⟩, ownI F.places, ownP F.named, some ⟨4, [eQ p], false, false, true⟩], []⟩) ?_ ?_
      · refine rn rfl ?_
        refine goal_step (step_call [] rfl rfl rfl rfl rfl rfl (splaced_ct p)) ?_
        rintro σ2 ⟨r, o', ⟨rfl, rfl⟩, hσ⟩
        obtain rfl := Option.some.inj hσ
        clear hσ
        refine rn rfl ?_
        refine goal_guard rfl rfl rfl (fun a1 => ?_) (fun a1 => ?_) <;> (try simp only [gt_iff_lt, ge_iff_le, bne_iff_ne, ne_eq, bne_eq_false_iff_eq, beq_iff_eq, beq_eq_false_iff_ne, Bool.not_eq_true', Bool.not_eq_false', decide_eq_true_eq, decide_eq_false_iff_not, List.length_map] at a1)
        · refine rn rfl ?_
          refine goal_guard rfl rfl rfl (fun a2 => ?_) (fun a2 => ?_) <;> (try simp only [gt_iff_lt, ge_iff_le, bne_iff_ne, ne_eq, bne_eq_false_iff_eq, beq_iff_eq, beq_eq_false_iff_ne, Bool.not_eq_true', Bool.not_eq_false', decide_eq_true_eq, decide_eq_false_iff_not, List.length_map] at a2)
          · refine rn rfl ?_
            exact cut_nrm [48, 9, 8, 7, 6, 5, 4, 3, 0] [1, 2, 3, 4, 5, 6] rfl ⟨true, rfl⟩
          · refine rn rfl ?_
            refine goal_guard rfl rfl rfl (fun a3 => ?_) (fun a3 => ?_) <;> (try simp only [gt_iff_lt, ge_iff_le, bne_iff_ne, ne_eq, bne_eq_false_iff_eq, beq_iff_eq, beq_eq_false_iff_ne, Bool.not_eq_true', Bool.not_eq_false', decide_eq_true_eq, decide_eq_false_iff_not, List.length_map] at a3)
            · refine rn rfl ?_
              refine goal_guard rfl rfl rfl (fun a4 => ?_) (fun a4 => ?_) <;> (try simp only [gt_iff_lt, ge_iff_le, bne_iff_ne, ne_eq, bne_eq_false_iff_eq, beq_iff_eq, beq_eq_false_iff_ne, Bool.not_eq_true', Bool.not_eq_false', decide_eq_true_eq, decide_eq_false_iff_not, List.length_map] at a4)
              · refine rn rfl ?_
                exact cut_nrm [48, 9, 8, 7, 6, 5, 4, 3, 0] [1, 2, 3, 4, 5, 6] rfl ⟨_, rfl⟩
              · refine rn rfl ?_
                exact cut_nrm [48, 9, 8, 7, 6, 5, 4, 3, 0] [1, 2, 3, 4, 5, 6] rfl ⟨false, rfl⟩
            · refine rn rfl ?_
              exact cut_nrm [48, 9, 8, 7, 6, 5, 4, 3, 0] [1, 2, 3, 4, 5, 6] rfl ⟨false, rfl⟩
        · refine rn rfl ?_
          exact cut_nrm [48, 9, 8, 7, 6, 5, 4, 3, 0] [1, 2, 3, 4, 5, 6] rfl ⟨false, rfl⟩
      rintro _ ⟨b1, rfl⟩
      refine rn rfl ?_
      refine goal_cond rfl (fun c1 => ?_) (fun c1 => ?_) <;> (try simp only [gt_iff_lt, ge_iff_le, bne_iff_ne, ne_eq, bne_eq_false_iff_eq, beq_iff_eq, beq_eq_false_iff_ne, Bool.not_eq_true', Bool.not_eq_false', decide_eq_true_eq, decide_eq_false_iff_not, List.length_map] at c1)
      · refine rn rfl ?_
        refine goal_did rfl rfl (dA_append (old := (F.places).map eI) (rows := ([v] : List Int).map eI) (((F.places) ++ ([v] : List Int)).map eI) (F.places.length + 1) true (Dst.own rfl rfl rfl rfl rfl (by first | (simp; done) | (simp; omega)) (whole (by first | (simp; done) | (simp; omega)))) (Src.os rfl rfl (Nat.le_refl 1) rfl) rfl rfl rfl rfl rfl rfl rfl rfl (rows_len eI_len _) (rows_len eI_len _) (by (try simp only [List.length_map, List.length_append, List.length_cons, List.length_nil, List.length_take, List.length_drop]); show _ * 8 ≤ _; omega) (by first | (simp; done) | (simp; omega)) (by simp) (by first | (simp; done) | (simp; omega)) (fun _ => noOwnR_map _ eI_noOwn _)) ?_
        refine rn rfl ?_
        refine rn rfl ?_
        refine round_keep (s.length - (i + 1)) [7, 6, 5, 4, 3, 0] [1, 2, 3, 8, 5] (by omega) rfl ⟨_, k2, i + 1, _, _, ⟨F.places ++ [v], F.named⟩, wrap64 (by omega) (by omega), by omega, rfl, by simp, rfl, ⟨by simp; omega, by simp; omega, hF.names⟩, by omega, by omega, rfl⟩
      · refine rt1 12 rfl ?_
        refine goal_cutR (fun σ' => ∃ (b : Bool) (k3 : Int), k2 ≤ k3 ∧ k3 ≤ k2 + 1 ∧ σ' = ⟨[(79, .one (.bool b)), (9, .one (.int .i64 v)), (8, .one (.op 6 0 0)), (7, .one (.int .i64 i)), (6, .one (.int .i64 pl)), (5, .one (.op 3 0 0)), (4, .one (.op 2 0 0)), (3, .one (.op 1 0 0)), (0, .one (.op 0 0 0))], [oR bs k3, some ⟨1, [eG s], false, false, true⟩, some ⟨2, [[.fs [], .fs []]], false, false, true⟩, some ⟨2, [[.os 4 0 F.places.length F.places.length, .os 5 0 F.named.length F.named.length]], false, false, true⟩, ownI F.places, ownP F.named, some ⟨4, [eQ p], false, false, true⟩], []⟩) ?_ ?_
        · refine rn rfl ?_
          refine goal_step (step_call [] rfl rfl rfl rfl rfl rfl (snamed_ct p)) ?_
          rintro σ2 ⟨r, o', ⟨rfl, rfl⟩, hσ⟩
          obtain rfl := Option.some.inj hσ
          clear hσ
          refine rn rfl ?_
          refine goal_guard rfl rfl rfl (fun a1 => ?_) (fun a1 => ?_) <;> (try simp only [gt_iff_lt, ge_iff_le, bne_iff_ne, ne_eq, bne_eq_false_iff_eq, beq_iff_eq, beq_eq_false_iff_ne, Bool.not_eq_true', Bool.not_eq_false', decide_eq_true_eq, decide_eq_false_iff_not, List.length_map] at a1)
          · refine rn rfl ?_
            refine goal_step (step_lendE [] rfl rfl rfl rfl rfl rfl rfl (cons_eq (congrArg (fun x => T.one (C.fs x)) (takeAll eP F.named _ rfl)) rfl) (spairAt_ct F.named p.name (by omega)) (by rintro r o ⟨rfl, rfl⟩; exact ⟨rfl, rfl⟩)) ?_
            rintro σ2 ⟨r, o', ⟨rfl, rfl⟩, hσ⟩
            obtain rfl := Option.some.inj hσ
            clear hσ
            refine rn rfl ?_
            refine goal_guard rfl rfl rfl (fun a2 => ?_) (fun a2 => ?_) <;> (try simp only [gt_iff_lt, ge_iff_le, bne_iff_ne, ne_eq, bne_eq_false_iff_eq, beq_iff_eq, beq_eq_false_iff_ne, Bool.not_eq_true', Bool.not_eq_false', decide_eq_true_eq, decide_eq_false_iff_not, List.length_map] at a2)
            · refine rn rfl ?_
              refine goal_guard rfl rfl rfl (fun a3 => ?_) (fun a3 => ?_) <;> (try simp only [gt_iff_lt, ge_iff_le, bne_iff_ne, ne_eq, bne_eq_false_iff_eq, beq_iff_eq, beq_eq_false_iff_ne, Bool.not_eq_true', Bool.not_eq_false', decide_eq_true_eq, decide_eq_false_iff_not, List.length_map] at a3)
              · refine rn rfl ?_
                exact cut_nrm [79, 9, 8, 7, 6, 5, 4, 3, 0] [1, 2, 3, 4, 5, 6] rfl ⟨true, k2, by omega, by omega, rfl⟩
              · refine rn rfl ?_
                refine goal_step (step_callE [0] rfl rfl rfl rfl rfl rfl (rfl) (pick_ct bs k2 2 hb (by omega) (by omega) (by omega))) ?_
                rintro σ2 ⟨r, o', ⟨⟨z, rfl, _, _⟩, rfl⟩, hσ⟩
                obtain rfl := Option.some.inj hσ
                clear hσ
                refine rn rfl ?_
                exact cut_nrm [79, 9, 8, 7, 6, 5, 4, 3, 0] [1, 2, 3, 4, 5, 6] rfl ⟨_, k2 + 1, by omega, by omega, rfl⟩
            · refine rn rfl ?_
              exact cut_nrm [79, 9, 8, 7, 6, 5, 4, 3, 0] [1, 2, 3, 4, 5, 6] rfl ⟨false, k2, by omega, by omega, rfl⟩
          · refine rn rfl ?_
            exact cut_nrm [79, 9, 8, 7, 6, 5, 4, 3, 0] [1, 2, 3, 4, 5, 6] rfl ⟨false, k2, by omega, by omega, rfl⟩
        rintro _ ⟨b2, k3, hk5, hk6, rfl⟩
        refine rn rfl ?_
        refine goal_cond rfl (fun c2 => ?_) (fun c2 => ?_) <;> (try simp only [gt_iff_lt, ge_iff_le, bne_iff_ne, ne_eq, bne_eq_false_iff_eq, beq_iff_eq, beq_eq_false_iff_ne, Bool.not_eq_true', Bool.not_eq_false', decide_eq_true_eq, decide_eq_false_iff_not, List.length_map] at c2)
        · refine rn rfl ?_
          refine goal_did rfl rfl (dA_append (old := (F.named).map eP) (rows := ([⟨p.name, v⟩] : List Pair).map eP) (((F.named) ++ ([⟨p.name, v⟩] : List Pair)).map eP) (F.named.length + 1) true (Dst.own rfl rfl rfl rfl rfl (by first | (simp; done) | (simp; omega)) (whole (by first | (simp; done) | (simp; omega)))) (Src.os rfl rfl (Nat.le_refl 1) rfl) rfl rfl rfl rfl rfl rfl rfl rfl (rows_len eP_len _) (rows_len eP_len _) (by (try simp only [List.length_map, List.length_append, List.length_cons, List.length_nil, List.length_take, List.length_drop]); show _ * 24 ≤ _; omega) (by first | (simp; done) | (simp; omega)) (by simp) (by first | (simp; done) | (simp; omega)) (fun _ => noOwnR_map _ eP_noOwn _)) ?_
          refine rn rfl ?_
          refine rn rfl ?_
          refine round_keep (s.length - (i + 1)) [7, 6, 5, 4, 3, 0] [1, 2, 3, 4, 8] (by omega) rfl ⟨_, k3, i + 1, _, _, ⟨F.places, F.named ++ [⟨p.name, v⟩]⟩, wrap64 (by omega) (by omega), by omega, rfl, rfl, by simp, ⟨by simp; omega, by simp; omega, ?_⟩, by omega, by omega, rfl⟩
          intro r hr
          rcases List.mem_append.1 hr with hr | hr
          · exact hF.names r hr
          · simp only [List.mem_singleton] at hr; rw [hr]; show p.name.length ≤ 7; omega
        · refine rt1 14 rfl ?_
          refine goal_cutR (fun σ' => ∃ b : Bool, σ' = ⟨[(109, .one (.bool b)), (9, .one (.int .i64 v)), (8, .one (.op 6 0 0)), (7, .one (.int .i64 i)), (6, .one (.int .i64 pl)), (5, .one (.op 3 0 0)), (4, .one (.op 2 0 0)), (3, .one (.op 1 0 0)), (0, .one (.op 0 0 0))], [oR bs k3, some ⟨1, [eG s], false, false, true⟩, some ⟨2, [[.fs [], .fs []]], false, false, true⟩, some ⟨2, [[.os 4 0 F.places.length F.places.length, .os 5 0 F.named.length F.named.length]], false, false, true⟩, ownI F.places, ownP F.named, some ⟨4, [eQ p], false, false, true⟩], []⟩) ?_ ?_
          · refine goal_draw' [1, 3, 6] 18 rfl ?_
            refine drn [0, 1, 2, 3] (by kernel_rfl) (by kernel_rfl) rfl rfl ?_
            refine AH_guard (i := 4) rfl rfl rfl (fun d1 => ?_) (fun d1 => ?_) <;> (try simp only [gt_iff_lt, ge_iff_le, bne_iff_ne, ne_eq, bne_eq_false_iff_eq, beq_iff_eq, beq_eq_false_iff_ne, Bool.not_eq_true', Bool.not_eq_false', decide_eq_true_eq, decide_eq_false_iff_not, List.length_map] at d1)
            · refine drn [4, 5, 6, 7] (by kernel_rfl) (by kernel_rfl) rfl rfl ?_
              refine AH_one (i := 8) (by kernel_rfl) (step_call [] rfl rfl rfl rfl rfl rfl (splaces_ct s (by omega))) (by simp) ?_
              rintro σ2 ⟨r, o', ⟨rfl, rfl⟩, hσ⟩
              obtain rfl := Option.some.inj hσ
              clear hσ
              refine drn [9, 10, 11] (by kernel_rfl) (by kernel_rfl) rfl rfl ?_
              refine AH_guard (i := 12) rfl rfl rfl (fun d2 => ?_) (fun d2 => ?_) <;> (try simp only [gt_iff_lt, ge_iff_le, bne_iff_ne, ne_eq, bne_eq_false_iff_eq, beq_iff_eq, beq_eq_false_iff_ne, Bool.not_eq_true', Bool.not_eq_false', decide_eq_true_eq, decide_eq_false_iff_not, List.length_map] at d2)
              · refine drn [12, 13, 14, 15, 16, 17] (by kernel_rfl) (by kernel_rfl) rfl rfl ?_
                refine AH_end (by kernel_rfl) ?_
                refine rn rfl ?_
                exact cut_nrm [109, 9, 8, 7, 6, 5, 4, 3, 0] [1, 2, 3, 4, 5, 6] rfl ⟨_, rfl⟩
              · refine drn [12, 13, 14, 15, 16, 17] (by kernel_rfl) (by kernel_rfl) rfl rfl ?_
                refine AH_end (by kernel_rfl) ?_
                refine rn rfl ?_
                exact cut_nrm [109, 9, 8, 7, 6, 5, 4, 3, 0] [1, 2, 3, 4, 5, 6] rfl ⟨false, rfl⟩
            · refine drn [4, 5, 6, 7, 8, 9, 10, 11, 12, 13, 14, 15, 16, 17] (by kernel_rfl) (by kernel_rfl) rfl rfl ?_
              refine AH_end (by kernel_rfl) ?_
              refine rn rfl ?_
              exact cut_nrm [109, 9, 8, 7, 6, 5, 4, 3, 0] [1, 2, 3, 4, 5, 6] rfl ⟨false, rfl⟩
          rintro _ ⟨b3, rfl⟩
          refine rn rfl ?_
          refine goal_cond rfl (fun c3 => ?_) (fun c3 => ?_) <;> (try simp only [gt_iff_lt, ge_iff_le, bne_iff_ne, ne_eq, bne_eq_false_iff_eq, beq_iff_eq, beq_eq_false_iff_ne, Bool.not_eq_true', Bool.not_eq_false', decide_eq_true_eq, decide_eq_false_iff_not, List.length_map] at c3)
          · refine rn rfl ?_
            refine goal_step (step_callE [0] rfl rfl rfl rfl rfl rfl (rfl) (pick_ct bs k3 3 hb (by omega) (by omega) (by omega))) ?_
            rintro σ2 ⟨r, o', ⟨⟨y, rfl, hy, _⟩, rfl⟩, hσ⟩
            obtain rfl := Option.some.inj hσ
            clear hσ
            refine rn rfl ?_
            have hy' := hy (by omega)
            refine goal_loop_keep (fun m σ => ∃ (q k4 : Int) (l : Nat) (G : List Int), m = q.toNat ∧ 0 ≤ q ∧ q ≤ 2 ∧ l = G.length ∧ (G.length : Int) + q ≤ F.places.length + 2 ∧ k3 + 1 ≤ k4 ∧ k4 + q ≤ k3 + 3 ∧
                σ = ⟨[(10, .one (.int .i64 q)), (7, .one (.int .i64 i)), (6, .one (.int .i64 pl)), (5, .one (.op 3 0 0)), (4, .one (.op 2 0 0)), (3, .one (.op 1 0 0)), (0, .one (.op 0 0 0))],
                  [oR bs k4, some ⟨1, [eG s], false, false, true⟩, some ⟨2, [[.fs [], .fs []]], false, false, true⟩, some ⟨2, [[.os 4 0 l l, .os 5 0 F.named.length F.named.length]], false, false, true⟩, ownI G, ownP F.named], []⟩) y.toNat [10, 7, 6, 5, 4, 3, 0] [1, 2, 3, 4, 5] rfl
              ⟨y, k3 + 1, _, F.places, rfl, by omega, by omega, rfl, by omega, by omega, by omega, rfl⟩ ?_
            rintro m2 σ2 ⟨q, k4, l, G, rfl, hq0, hq2, rfl, hG, hk7, hk8, rfl⟩
            have hwq : IntKind.i64.wrap (q - 1) = q - 1 := wrap64 (by omega) (by omega)
            have fin2 : ∀ {K : KP}, K = K → True := fun _ => trivial
            clear fin2
            refine rn rfl ?_
            refine goal_guard rfl rfl rfl (fun d5 => ?_) (fun d5 => ?_) <;> (try simp only [gt_iff_lt, ge_iff_le, bne_iff_ne, ne_eq, bne_eq_false_iff_eq, beq_iff_eq, beq_eq_false_iff_ne, Bool.not_eq_true', Bool.not_eq_false', decide_eq_true_eq, decide_eq_false_iff_not, List.length_map] at d5)
            · refine rn rfl ?_
              refine goal_cond rfl (fun d6 => ?_) (fun d6 => ?_) <;> (try simp only [gt_iff_lt, ge_iff_le, bne_iff_ne, ne_eq, bne_eq_false_iff_eq, beq_iff_eq, beq_eq_false_iff_ne, Bool.not_eq_true', Bool.not_eq_false', decide_eq_true_eq, decide_eq_false_iff_not, List.length_map] at d6)
              · refine rn rfl ?_
                refine goal_drawL [3] [7] 8 rfl ?_
                refine drnL [0, 1, 2] (by kernel_rfl) (by kernel_rfl) rfl rfl ?_
                refine AHL_one (i := 3) (by kernel_rfl) rfl (step_callE [0] rfl rfl rfl rfl rfl rfl (rfl) (aNumber_ct bs k4 hb (by omega) (by omega))) (by simp) ?_
                rintro σ2 ⟨r, o', ⟨⟨w, _, _, rfl⟩, rfl⟩, hσ⟩
                obtain rfl := Option.some.inj hσ
                clear hσ
                refine AHL_oneDid 4 rfl (by kernel_rfl) rfl rfl (dA_step rfl) (mdOk rfl) ?_
                refine AHL_oneDid 5 rfl (by kernel_rfl) rfl rfl (dA_append (old := (G).map eI) (rows := ([w] : List Int).map eI) (((G) ++ ([w] : List Int)).map eI) (G.length + 1) true (Dst.own rfl rfl rfl rfl rfl (by first | (simp; done) | (simp; omega)) (whole (by first | (simp; done) | (simp; omega)))) (Src.os rfl rfl (Nat.le_refl 1) rfl) rfl rfl rfl rfl rfl rfl rfl rfl (rows_len eI_len _) (rows_len eI_len _) (by (try simp only [List.length_map, List.length_append, List.length_cons, List.length_nil, List.length_take, List.length_drop]); show _ * 8 ≤ _; omega) (by first | (simp; done) | (simp; omega)) (by simp) (by first | (simp; done) | (simp; omega)) (fun _ => noOwnR_map _ eI_noOwn _)) (mdOk rfl) ?_
                refine drnL [6] (by kernel_rfl) (by kernel_rfl) rfl rfl ?_
                refine AHL_lateDid 7 rfl (by kernel_rfl) rfl rfl (dA_step rfl) ?_
                refine AH_end (by kernel_rfl) ?_
                refine rn rfl ?_
                refine rn rfl ?_
                rw [hwq]
                refine round_keep (q - 1).toNat [10, 7, 6, 5, 4, 3, 0] [1, 2, 3, 7, 5] (by omega) rfl ⟨q - 1, k4 + 1, _, G ++ [w], rfl, by omega, by omega, (by simp : G.length + 1 = _), by simp; omega, by omega, by omega, rfl⟩
              · refine rn rfl (round_ext ?_)
                refine rn rfl ?_
                refine round_keep (s.length - (i + 1)) [7, 6, 5, 4, 3, 0] [1, 2, 3, 4, 5] (by omega) rfl ⟨_, k4, i + 1, _, _, ⟨G, F.named⟩, wrap64 (by omega) (by omega), by omega, rfl, rfl, rfl, ⟨by show G.length ≤ _; omega, by show F.named.length ≤ _; omega, hF.names⟩, by omega, by omega, rfl⟩
            · refine rn rfl (round_ext ?_)
              refine rn rfl ?_
              refine round_keep (s.length - (i + 1)) [7, 6, 5, 4, 3, 0] [1, 2, 3, 4, 5] (by omega) rfl ⟨_, k4, i + 1, _, _, ⟨G, F.named⟩, wrap64 (by omega) (by omega), by omega, rfl, rfl, rfl, ⟨by show G.length ≤ _; omega, by show F.named.length ≤ _; omega, hF.names⟩, by omega, by omega, rfl⟩
          · refine rt1 19 rfl ?_
            refine goal_cutR (fun σ' => ∃ (b : Bool) (k4 : Int), k3 ≤ k4 ∧ k4 ≤ k3 + 1 ∧ σ' = ⟨[(146, .one (.bool b)), (9, .one (.int .i64 v)), (8, .one (.op 6 0 0)), (7, .one (.int .i64 i)), (6, .one (.int .i64 pl)), (5, .one (.op 3 0 0)), (4, .one (.op 2 0 0)), (3, .one (.op 1 0 0)), (0, .one (.op 0 0 0))], [oR bs k4, some ⟨1, [eG s], false, false, true⟩, some ⟨2, [[.fs [], .fs []]], false, false, true⟩, some ⟨2, [[.os 4 0 F.places.length F.places.length, .os 5 0 F.named.length F.named.length]], false, false, true⟩, ownI F.places, ownP F.named, some ⟨4, [eQ p], false, false, true⟩], []⟩) ?_ ?_
            · refine rn rfl ?_
              refine goal_guard rfl rfl rfl (fun d1 => ?_) (fun d1 => ?_) <;> (try simp only [gt_iff_lt, ge_iff_le, bne_iff_ne, ne_eq, bne_eq_false_iff_eq, beq_iff_eq, beq_eq_false_iff_ne, Bool.not_eq_true', Bool.not_eq_false', decide_eq_true_eq, decide_eq_false_iff_not, List.length_map] at d1)
              · refine rn rfl ?_
                refine goal_step (step_callE [0] rfl rfl rfl rfl rfl rfl (rfl) (pick_ct bs k3 2 hb (by omega) (by omega) (by omega))) ?_
                rintro σ2 ⟨r, o', ⟨⟨z, rfl, _, _⟩, rfl⟩, hσ⟩
                obtain rfl := Option.some.inj hσ
                clear hσ
                refine rn rfl ?_
                exact cut_nrm [146, 9, 8, 7, 6, 5, 4, 3, 0] [1, 2, 3, 4, 5, 6] rfl ⟨_, k3 + 1, by omega, by omega, rfl⟩
              · refine rn rfl ?_
                exact cut_nrm [146, 9, 8, 7, 6, 5, 4, 3, 0] [1, 2, 3, 4, 5, 6] rfl ⟨false, k3, by omega, by omega, rfl⟩
            rintro _ ⟨b4, k4, hk7, hk8, rfl⟩
            refine rn rfl ?_
            refine goal_cond rfl (fun c4 => ?_) (fun c4 => ?_) <;> (try simp only [gt_iff_lt, ge_iff_le, bne_iff_ne, ne_eq, bne_eq_false_iff_eq, beq_iff_eq, beq_eq_false_iff_ne, Bool.not_eq_true', Bool.not_eq_false', decide_eq_true_eq, decide_eq_false_iff_not, List.length_map] at c4)
            · refine rn rfl ?_
              refine goal_drawL [3] [10] 11 rfl ?_
              refine drnL [0, 1, 2, 5] (by kernel_rfl) (by kernel_rfl) rfl rfl ?_
              refine AHL_oneDid 3 rfl (by kernel_rfl) rfl rfl (dA_step rfl) (mdOk rfl) ?_
              refine AHL_one (i := 4) (by kernel_rfl) rfl (step_callE [0] rfl rfl rfl rfl rfl rfl (rfl) (of_ct bs k4 [[109], [110], [111]] hb (by omega) (by omega) (by decide) (by decide))) (by simp) ?_
              rintro σ2 ⟨r, o', ⟨⟨nm, hnm, rfl⟩, rfl⟩, hσ⟩
              obtain rfl := Option.some.inj hσ
              clear hσ
              refine AHL_one (i := 6) (by kernel_rfl) rfl (step_callE [0] rfl rfl rfl rfl rfl rfl (rfl) (aNumber_ct bs (k4 + 1) hb (by omega) (by omega))) (by simp) ?_
              rintro σ2 ⟨r, o', ⟨⟨w, _, _, rfl⟩, rfl⟩, hσ⟩
              obtain rfl := Option.some.inj hσ
              clear hσ
              refine drnL [7] (by kernel_rfl) (by kernel_rfl) rfl rfl ?_
              refine AHL_one (i := 8) (by kernel_rfl) rfl (step_callE [] rfl rfl rfl rfl rfl rfl (cons_eq (congrArg (fun x => T.one (C.fs x)) (takeAll eP F.named _ rfl)) rfl) (putPair_ct F.named ⟨nm, w⟩ (by omega))) (by simp) ?_
              rintro σ2 ⟨r, o', ⟨rfl, rfl⟩, hσ⟩
              obtain rfl := Option.some.inj hσ
              clear hσ
              refine drnL [9] (by kernel_rfl) (by kernel_rfl) rfl rfl ?_
              refine AHL_lateDid 10 rfl (by kernel_rfl) rfl rfl (dA_step rfl) ?_
              refine AH_end (by kernel_rfl) ?_
              refine rn rfl ?_
              have hnl : nm.length ≤ 7 := by
                simp only [List.mem_cons, List.not_mem_nil, or_false] at hnm
                rcases hnm with h | h | h <;> (rw [h]; decide)
              refine rn rfl ?_
              have hpl : (spPair F.named ⟨nm, w⟩).length ≤ F.named.length + 1 := by rw [spPair_eq]; exact putP_length _ _ _
              refine round_keep (s.length - (i + 1)) [7, 6, 5, 4, 3, 0] [1, 2, 3, 4, 8] (by omega) rfl ⟨_, k4 + 1 + 1, i + 1, _, _, ⟨F.places, spPair F.named ⟨nm, w⟩⟩, wrap64 (by omega) (by omega), by omega, rfl, rfl, rfl, ⟨by show F.places.length ≤ _; omega, by show (spPair F.named ⟨nm, w⟩).length ≤ _; omega, ?_⟩, by omega, by omega, rfl⟩
              intro r hr
              rw [spPair_eq] at hr
              rcases putP_mem hr with h | ⟨q, hq, h⟩
              · rw [h]; exact hnl
              · rw [h]; exact hF.names q hq
            · refine rn rfl ?_
              refine round_keep (s.length - (i + 1)) [7, 6, 5, 4, 3, 0] [1, 2, 3, 4, 5] (by omega) rfl ⟨_, k4, i + 1, _, _, F, wrap64 (by omega) (by omega), by omega, rfl, rfl, rfl, ⟨by omega, by omega, hF.names⟩, by omega, by omega, rfl⟩
    · refine rn rfl (round_ext ?_)
      refine rn rfl (fin_is [] rfl ⟨F, k1, ⟨by omega, by omega, hF.names⟩, by omega, by omega, ?_, rfl⟩)
      exact asFl F
  · refine rn rfl (round_ext ?_)
    refine rn rfl (fin_is [] rfl ⟨F, k1, ⟨by omega, by omega, hF.names⟩, by omega, by omega, ?_, rfl⟩)
    exact asFl F

/-- Given by its place. -/
def byPl (pl : List Int) (i : Nat) (p : Param) : Bool := placedQ p && decide (i < pl.length)

def giveQ (s : Sig) (pl : List Int) (qs : List Pair) (i : Nat) (p : Param) : Slot :=
  if p.kind = 4 then ⟨false, [], qs.filter fun q => takesQ s q.name == (i : Int)⟩
  else if namedQ p && !byPl pl i p then (match qs.find? (nameIs p.name) with
    | some q => ⟨true, [q.value], []⟩
    | none => zL)
  else place1 (placesQ s) pl i p

def wrongQ (s : Sig) (pl : List Int) (q : Pair) : Option Problem :=
  if takesQ s q.name < 0 then some ⟨1, q.name⟩ else
  match s[(takesQ s q.name).toNat]? with
  | some p => if p.kind = 4 then none else if byPl pl (takesQ s q.name).toNat p then some ⟨2, q.name⟩ else none
  | none => none

def closedQ (s : Sig) (pl : List Int) (qs : List Pair) : Bnds × List Problem := (s.mapIdx (giveQ s pl qs), manyQ s pl ++ qs.filterMap (wrongQ s pl))

theorem giveQ_nil {s : Sig} (pl : List Int) (i : Nat) (p : Param) : giveQ s pl [] i p = place1 (placesQ s) pl i p := by
  unfold giveQ
  by_cases h4 : p.kind = 4
  · rw [if_pos h4]
    have : placedQ p = false := by
      cases h : placedQ p with
      | false => rfl
      | true => rw [placed_kind] at h; omega
    unfold place1
    simp [this, h4, zL]
  · rw [if_neg h4]
    split
    · rename_i h
      simp only [Bool.and_eq_true, Bool.not_eq_true'] at h
      have hk := named_kind.1 h.1
      unfold place1
      unfold byPl at h
      rw [h.2]
      have : (p.kind == 2) = false := by simp; omega
      simp [this]
    · rfl

theorem closed_nil (s : Sig) (pl : List Int) : closedQ s pl [] = (phase1 s pl, manyQ s pl) := by
  simp only [closedQ, phase1, List.filterMap_nil, List.append_nil]
  congr 1
  apply List.ext_getElem?
  intro i
  rw [List.getElem?_mapIdx, List.getElem?_mapIdx]
  cases s[i]? with
  | none => rfl
  | some p => simp only [Option.map_some, giveQ_nil]

theorem takes_named {s : Sig} (hs : OkS s) {i : Nat} {p : Param} (hp : s[i]? = some p) (hn : namedQ p = true) : takesQ s p.name = (i : Int) := by
  have hq : ∀ j q, s[j]? = some q → q.name = p.name → j = i := fun j q hj hqn => by
    have hnd := hs.nodup
    rw [List.nodup_iff_pairwise_ne, List.pairwise_iff_getElem] at hnd
    have hi := lt_of_some hp
    have hjl := lt_of_some hj
    rw [List.getElem?_eq_getElem hi] at hp
    rw [List.getElem?_eq_getElem hjl] at hj
    simp only [Option.some.injEq] at hp hj
    rcases Nat.lt_trichotomy j i with h | h | h
    · exact absurd (by rw [List.getElem_map, List.getElem_map, hp, hj, hqn]) (hnd j i (by simpa using hjl) (by simpa using hi) h)
    · exact h
    · exact absurd (by rw [List.getElem_map, List.getElem_map, hp, hj, hqn]) (hnd i j (by simpa using hi) (by simpa using hjl) h)
  have hany : s.any (qIs p.name) = true := by rw [List.any_eq_true]; exact ⟨p, List.mem_of_getElem? hp, by simp [qIs]⟩
  obtain ⟨q, hf, hqi, hqn, hlt⟩ := idxI_find (idxI_ge (i := 0).2 hany)
  have hqn' : q.name = p.name := by simpa [qIs] using hqn
  have hix := hq _ q hqi hqn'
  have hpq : q = p := by rw [hix, hp] at hqi; exact (Option.some.inj hqi).symm
  have h0 := idxI_ge (i := 0).2 hany
  unfold takesQ
  rw [hf]
  simp only [hpq, hn, if_true]
  omega

theorem find_snoc {qs : List Pair} {q : Pair} {n : Str} : (qs ++ [q]).find? (nameIs n) = (match qs.find? (nameIs n) with
    | some x => some x
    | none => if q.name = n then some q else none) := by
  rw [List.find?_append]
  cases qs.find? (nameIs n) with
  | some x => rfl
  | none =>
    simp only [Option.none_or, List.find?_cons, List.find?_nil, nameIs]
    by_cases h : q.name = n
    · simp [h]
    · have : (q.name == n) = false := by simpa using h
      simp [h, this]

theorem find_none {qs : List Pair} {n : Str} (h : n ∉ namesOf qs) : qs.find? (nameIs n) = none := by
  rw [List.find?_eq_none]
  intro x hx hxn
  exact h (by simp only [nameIs, beq_iff_eq] at hxn; rw [← hxn]; exact List.mem_map_of_mem hx)

theorem closed_step {s : Sig} (hs : OkS s) {pl : List Int} {qs : List Pair} {q : Pair} (hq : q.name ∉ namesOf qs) : stepB s (closedQ s pl qs) q = closedQ s pl (qs ++ [q]) := by
  by_cases hneg : takesQ s q.name < 0
  · rw [stepB_neg hneg]
    simp only [closedQ, List.filterMap_append, List.filterMap_cons, List.filterMap_nil, wrongQ, hneg, if_true, List.append_assoc]
    congr 1
    apply List.ext_getElem?
    intro i
    simp only [List.getElem?_mapIdx]
    cases hp : s[i]? with
    | none => rfl
    | some p =>
      simp only [Option.map_some, Option.some.injEq, giveQ]
      split
      · have : (takesQ s q.name == (i : Int)) = false := by simp; omega
        simp [this]
      · split
        · rename_i h4 hn
          simp only [Bool.and_eq_true] at hn
          have ht := takes_named hs hp hn.1
          rw [find_snoc]
          have hne : q.name ≠ p.name := fun h0 => by rw [h0, ht] at hneg; omega
          rw [if_neg hne]
          cases qs.find? (nameIs p.name) <;> rfl
        · rfl
  · obtain ⟨p, hp, hlt, hk⟩ := takesQ_some hneg
    have hat : takesQ s q.name = ((takesQ s q.name).toNat : Nat) := by omega
    generalize hj : (takesQ s q.name).toNat = j at hp hat
    have hx : (closedQ s pl qs).1[j]? = some (giveQ s pl qs j p) := by simp [closedQ, hp]
    have hother : ∀ (i : Nat) (r : Param), s[i]? = some r → i ≠ j → giveQ s pl (qs ++ [q]) i r = giveQ s pl qs i r := fun i r hr hij => by
      simp only [giveQ]
      split
      · have : (takesQ s q.name == (i : Int)) = false := by rw [hat]; simp; omega
        simp [this]
      · split
        · rename_i h4 hn
          simp only [Bool.and_eq_true] at hn
          have ht := takes_named hs hr hn.1
          rw [find_snoc]
          have hne : q.name ≠ r.name := fun h0 => by rw [h0, ht] at hat; omega
          rw [if_neg hne]
          cases qs.find? (nameIs r.name) <;> rfl
        · rfl
    have hset : ∀ y : Slot, giveQ s pl (qs ++ [q]) j p = y → (closedQ s pl qs).1.set j y = (closedQ s pl (qs ++ [q])).1 := fun y hy => by
      apply List.ext_getElem?
      intro i
      simp only [closedQ, List.getElem?_set, List.getElem?_mapIdx, List.length_mapIdx]
      by_cases hij : j = i
      · subst hij; rw [if_pos rfl, if_pos (lt_of_some hp), hp]; simp [hy]
      · rw [if_neg hij]
        cases hr : s[i]? with
        | none => rfl
        | some r => simp [hother i r hr (fun h => hij h.symm)]
    have hwr : ∀ w : Option Problem, wrongQ s pl q = w → (closedQ s pl (qs ++ [q])).2 = (closedQ s pl qs).2 ++ w.toList := fun w hw => by
      simp only [closedQ, List.filterMap_append, List.append_assoc]
      congr 1
      congr 1
      cases w <;> simp [List.filterMap_cons, hw]
    by_cases h4 : p.kind = 4
    · rw [stepB_map hat hp hx h4]
      have hw : wrongQ s pl q = none := by simp [wrongQ, hneg, hj, hp, h4]
      have h1 := hwr none hw
      refine Prod.ext (hset _ ?_) (by rw [h1]; simp)
      simp [giveQ, h4, hat]
    · have hn : namedQ p = true ∧ p.name = q.name := by
        rcases hk with h | h
        · exact h
        · exact absurd h h4
      have hnf : qs.find? (nameIs p.name) = none := by rw [hn.2]; exact find_none hq
      by_cases hb : byPl pl j p = true
      · have hg : (giveQ s pl qs j p).given = true := by
          unfold byPl at hb
          simp only [giveQ, h4, if_false, hn.1, byPl, hb, Bool.not_true, Bool.and_false, Bool.false_eq_true, place1, if_true]
        rw [stepB_twice hat hp hx h4 hg]
        have hw : wrongQ s pl q = some ⟨2, q.name⟩ := by simp [wrongQ, hneg, hj, hp, h4, hb]
        have h1 := hwr _ hw
        refine Prod.ext ?_ (by rw [h1]; rfl)
        have h2 := hset (giveQ s pl qs j p) (by simp only [giveQ, h4, if_false, hn.1, hb, Bool.not_true, Bool.and_false, Bool.false_eq_true])
        rw [set_same hx] at h2
        exact h2
      · have hb' : byPl pl j p = false := by simpa using hb
        have hg : (giveQ s pl qs j p).given = false := by
          simp only [giveQ, h4, if_false, hn.1, hb', Bool.not_false, Bool.and_self, if_true, hnf, zL]
        rw [stepB_set hat hp hx h4 hg]
        have hw : wrongQ s pl q = none := by simp [wrongQ, hneg, hj, hp, h4, hb']
        have h1 := hwr none hw
        refine Prod.ext (hset _ ?_) (by rw [h1]; simp)
        rw [hn.2] at hnf
        simp only [giveQ, h4, if_false, hn.1, hb', Bool.not_false, Bool.and_self, if_true, find_snoc, hnf, hn.2]

theorem closed_fold {s : Sig} (hs : OkS s) {pl : List Int} : ∀ (rs qs : List Pair), (namesOf (qs ++ rs)).Nodup → rs.foldl (stepB s) (closedQ s pl qs) = closedQ s pl (qs ++ rs)
  | [], qs, _ => by simp
  | r :: rs, qs, h => by
    have hr : r.name ∉ namesOf qs := by
      intro h0
      simp only [namesOf, List.map_append, List.map_cons] at h h0
      exact (List.nodup_append.1 h).2.2 _ h0 _ (List.mem_cons_self ..) rfl
    rw [List.foldl_cons, closed_step hs hr, closed_fold hs rs (qs ++ [r]) (by simpa using h)]
    simp

/-- What a call gives. -/
theorem bound_closed {s : Sig} (hs : OkS s) {f : Flat} (hf : (namesOf f.named).Nodup) : boundQ s f = closedQ s f.places f.named := by
  rw [boundQ, ← closed_nil, closed_fold hs f.named [] (by simpa using hf)]
  simp

def atP (f : Flat) (q : Param) : Bool := q.kind == 1 && f.named.any (nameIs q.name)

def atQ (s : Sig) (f : Flat) : Int := idxI (atP f) s 0

def giveP (f : Flat) (q : Param) : Param := if namedQ q then (match f.named.find? (nameIs q.name) with
  | some r => ⟨q.name, q.kind, true, r.value⟩
  | none => q) else q

def kindP (b : Bool) (q : Param) : Param := if q.kind == 1 && b then ⟨q.name, 3, q.hasD, q.dflt⟩ else q

def skipP (at' : Int) (f : Flat) (i : Nat) (q : Param) : Bool := (placedQ q && decide (i < f.places.length)) || (q.kind == 2 && decide (0 ≤ at'))

def partParam (at' : Int) (f : Flat) (i : Nat) (q : Param) : Option Param :=
  if skipP at' f i q then none else some (giveP f (kindP (decide (0 ≤ at') && decide (at' ≤ i)) q))

def psL (at' : Int) (f : Flat) (s : Sig) : Sig := s.zipIdx.filterMap fun x => partParam at' f x.2 x.1

theorem psL_succ {at' : Int} {f : Flat} {s : Sig} {i : Nat} {q : Param} (hq : s[i]? = some q) : psL at' f (s.take (i + 1)) = psL at' f (s.take i) ++ (partParam at' f i q).toList := by
  have hl : (s.take i).length = i := by have := lt_of_some hq; simp; omega
  unfold psL
  rw [← take_snoc hq, List.zipIdx_append, List.filterMap_append, hl]
  simp [List.filterMap_cons]
  cases partParam at' f i q <;> rfl

theorem partParam_name {at' : Int} {f : Flat} {i : Nat} {q r : Param} (h : partParam at' f i q = some r) : r.name = q.name := by
  unfold partParam at h
  split at h
  · cases h
  · simp only [Option.some.injEq] at h
    rw [← h]
    unfold giveP kindP
    split <;> split <;> (try split) <;> rfl

theorem pair_at {f : Flat} {n : Str} (h : 0 ≤ pairIx f.named n) : ∃ r, f.named.find? (nameIs n) = some r ∧ f.named[(pairIx f.named n).toNat]? = some r ∧ pairIx f.named n < f.named.length := by
  obtain ⟨r, h1, h2, _, h3⟩ := idxI_find h
  exact ⟨r, h1, h2, h3⟩

theorem idxI_le {α : Type} {pred : α → Bool} : ∀ {xs : List α} {k i : Nat} {x : α}, xs[i]? = some x → pred x = true → 0 ≤ idxI pred xs k ∧ idxI pred xs k ≤ ((k + i : Nat) : Int)
  | y :: xs, k, 0, x, hx, hp => by
    simp at hx; subst hx
    simp [idxI, hp]
  | y :: xs, k, i + 1, x, hx, hp => by
    simp only [List.getElem?_cons_succ] at hx
    have := idxI_le (k := k + 1) hx hp
    unfold idxI
    split
    · omega
    · omega

theorem part_np {s : Sig} {f : Flat} (h : partQ s f = true) {i : Nat} {x : Param} (hx : s[i]? = some x) (hp : placedQ x = true) (hi : i < f.places.length) (hn : namedQ x = true) : f.named.any (nameIs x.name) = false := by
  simp only [partQ, Bool.and_eq_true, decide_eq_true_eq] at h
  obtain ⟨h1, h2⟩ := h
  obtain ⟨hs, hf⟩ := fitQ_iff.1 h1
  have hnd : (namesOf f.named).Nodup := by
    have := okFlat_iff.2 hf
    simp [okFlat] at this; exact this.1.1.1.2
  rw [bound_closed hs hnd] at h2
  simp only [closedQ, List.append_eq_nil_iff, List.filterMap_eq_nil_iff] at h2
  cases ha : f.named.any (nameIs x.name) with
  | false => rfl
  | true =>
    rw [List.any_eq_true] at ha
    obtain ⟨q, hq, hqn⟩ := ha
    simp only [nameIs, beq_iff_eq] at hqn
    have hw := h2.2 q hq
    have ht := takes_named hs hx hn
    rw [← hqn] at ht
    have hk := placed_kind.1 hp
    have hb : byPl f.places i x = true := by simp [byPl, hp, hi]
    unfold wrongQ at hw
    rw [ht] at hw
    simp only [Int.toNat_natCast, hx] at hw
    rw [if_neg (by omega), if_neg (by omega), if_pos hb] at hw
    cases hw

theorem np_at {s : Sig} {f : Flat} (h : partQ s f = true) {i : Nat} {x : Param} (hx : s[i]? = some x) (hp : placedQ x = true) (hi : i < f.places.length) : atP f x = false := by
  unfold atP
  cases hk : x.kind == 1 with
  | false => rfl
  | true =>
    rw [part_np h hx hp hi (by simp at hk; simp [namedQ, hk])]; rfl

def psQ (s : Sig) (f : Flat) : Sig := psL (atQ s f) f s

theorem acc_iff {s : Sig} {f : Flat} (hs : OkS s) (hf : OkF f) : accQ s f = true ↔
    (placesQ s < f.places.length → s.any (kIs 2) = true) ∧ (∀ q ∈ f.named, wrongQ s f.places q = none) ∧ missingQ s (s.mapIdx (giveQ s f.places f.named)) = [] := by
  have hb := bound_closed hs hf.nodup
  unfold accQ bindQ
  rw [hb]
  simp only [closedQ, decide_eq_true_eq, List.append_eq_nil_iff, List.filterMap_eq_nil_iff, and_assoc]
  have hm : manyQ s f.places = [] ↔ (placesQ s < f.places.length → s.any (kIs 2) = true) := by
    unfold manyQ
    split
    · rename_i h
      simp only [Bool.and_eq_true, decide_eq_true_eq, Bool.not_eq_true'] at h
      constructor
      · intro h0; cases h0
      · intro h0; rw [h0 h.1] at h; cases h.2
    · rename_i h
      simp only [true_iff]
      intro h0
      cases ha : s.any (kIs 2) with
      | true => rfl
      | false => exact absurd (by simp [h0, ha]) h
  rw [hm]

theorem give_given {s : Sig} {pl : List Int} {qs : List Pair} {i : Nat} {p : Param} (h : singleQ p = true) :
    (giveQ s pl qs i p).given = (byPl pl i p || (namedQ p && qs.any (nameIs p.name))) := by
  rw [single_kind] at h
  have hf : (qs.find? (nameIs p.name)).isSome = qs.any (nameIs p.name) := by
    cases ha : qs.any (nameIs p.name) with
    | true =>
      rw [List.find?_isSome]
      exact List.any_eq_true.1 ha
    | false =>
      cases hq : qs.find? (nameIs p.name) with
      | none => rfl
      | some q =>
        have h1 := List.mem_of_find?_eq_some hq
        have h2 := List.find?_some hq
        have : qs.any (nameIs p.name) = true := List.any_eq_true.2 ⟨q, h1, h2⟩
        rw [this] at ha; cases ha
  unfold giveQ
  rw [if_neg (by omega)]
  cases hb : byPl pl i p with
  | true =>
    simp only [Bool.not_true, Bool.and_false, Bool.true_or]
    unfold byPl at hb
    simp [place1, hb]
  | false =>
    cases hn : namedQ p with
    | true =>
      simp only [Bool.not_false, Bool.and_self, if_true, Bool.false_or, Bool.true_and]
      rw [← hf]
      cases qs.find? (nameIs p.name) <;> rfl
    | false =>
      simp only [Bool.false_and, Bool.false_or]
      unfold byPl at hb
      have h2 : (p.kind == 2) = false := by simp; omega
      simp [place1, hb, h2, zL]

/-- What is lacking, parameter by parameter. -/
theorem lack_iff {s : Sig} {pl : List Int} {qs : List Pair} : missingQ s (s.mapIdx (giveQ s pl qs)) = [] ↔
    ∀ (i : Nat) (p : Param), s[i]? = some p → singleQ p = true → p.hasD = true ∨ byPl pl i p = true ∨ (namedQ p = true ∧ qs.any (nameIs p.name) = true) := by
  unfold missingQ
  rw [List.filterMap_eq_nil_iff]
  constructor
  · intro h i p hp hsg
    have hz : (p, giveQ s pl qs i p) ∈ s.zip (s.mapIdx (giveQ s pl qs)) := List.mem_of_getElem? (i := i) (by
      rw [List.getElem?_zip_eq_some]; exact ⟨hp, by simp [List.getElem?_mapIdx, hp]⟩)
    have h1 := h _ hz
    unfold lackQ at h1
    simp only [give_given hsg, hsg, Bool.true_and] at h1
    split at h1
    · cases h1
    · rename_i h2
      cases hd : p.hasD with
      | true => exact .inl rfl
      | false =>
        right
        rw [hd] at h2
        simp only [Bool.not_false, Bool.true_and, Bool.not_eq_true', Bool.not_eq_false] at h2
        simpa using h2
  · intro h z hz
    obtain ⟨i, hi⟩ := List.getElem?_of_mem hz
    rw [List.getElem?_zip_eq_some] at hi
    obtain ⟨h1, h2⟩ := hi
    rw [List.getElem?_mapIdx, h1] at h2
    simp only [Option.map_some, Option.some.injEq] at h2
    unfold lackQ
    split
    · rename_i h3
      simp only [Bool.and_eq_true, Bool.not_eq_true'] at h3
      have h4 := h i z.1 h1 h3.1.1
      rw [← h2, give_given h3.1.1] at h3
      rcases h4 with h4 | h4 | ⟨h4, h5⟩
      · rw [h4] at h3; cases h3.1.2
      · rw [h4] at h3; cases h3.2
      · rw [h4, h5] at h3; simp at h3
    · rfl

/-- What is wrong with a name. -/
theorem wrong_iff {s : Sig} {pl : List Int} {q : Pair} : wrongQ s pl q = none ↔
    0 ≤ takesQ s q.name ∧ ∀ p, s[(takesQ s q.name).toNat]? = some p → p.kind ≠ 4 → byPl pl (takesQ s q.name).toNat p = false := by
  unfold wrongQ
  constructor
  · intro h
    split at h
    · cases h
    · rename_i h1
      refine ⟨by omega, fun p hp hk => ?_⟩
      rw [hp] at h
      simp only at h
      rw [if_neg hk] at h
      cases hb : byPl pl (takesQ s q.name).toNat p with
      | false => rfl
      | true => rw [if_pos hb] at h; cases h
  · rintro ⟨h1, h2⟩
    rw [if_neg (by omega)]
    cases hp : s[(takesQ s q.name).toNat]? with
    | none => rfl
    | some p =>
      simp only
      by_cases hk : p.kind = 4
      · rw [if_pos hk]
      · rw [if_neg hk, if_neg (by rw [h2 p hp hk]; simp)]

theorem place1_small (np : Nat) (pl : List Int) (i : Nat) (p : Param) (h : pl.length ≤ 8) : (place1 np pl i p).list.length ≤ 8 ∧ (place1 np pl i p).pairs.length ≤ 8 := by
  unfold place1
  split
  · simp
  · split
    · simp; omega
    · simp [zL]

theorem bind_small (s : Sig) (f : Flat) : (BindQ s f).1.length ≤ 8 ∧ ∀ x ∈ (BindQ s f).1, x.list.length ≤ 8 ∧ x.pairs.length ≤ 8 := by
  unfold BindQ
  split
  · rename_i h
    simp only [Bool.and_eq_true] at h
    obtain ⟨hs, hf⟩ := fitQ_iff.1 h.1
    have h1 := hf.places
    have h2 := hf.named
    rw [bound_closed hs hf.nodup]
    refine ⟨by simp only [closedQ, List.length_mapIdx]; exact hs.len, fun x hx => ?_⟩
    simp only [closedQ, List.mem_mapIdx] at hx
    obtain ⟨i, hi, rfl⟩ := hx
    unfold giveQ
    split
    · have := List.length_filter_le (fun q : Pair => takesQ s q.name == (i : Int)) f.named
      simp; omega
    · split
      · split <;> simp [zL]
      · exact place1_small _ _ _ _ h1
  · simp

theorem name_inj {s : Sig} (hs : OkS s) {i j : Nat} {p q : Param} (hp : s[i]? = some p) (hq : s[j]? = some q) (h : p.name = q.name) : i = j := by
  refine (List.getElem?_inj (l := s.map Param.name) (by have := lt_of_some hp; simpa using this) hs.nodup).1 ?_
  rw [List.getElem?_map, List.getElem?_map, hp, hq]
  simp [h]

theorem any_names {qs : List Pair} {n : Str} : qs.any (nameIs n) = true ↔ n ∈ namesOf qs := by
  simp [namesOf, nameIs]

/-- Where a name goes. -/
def goesQ (s : Sig) (n : Str) : Prop := (∃ (i : Nat) (p : Param), s[i]? = some p ∧ namedQ p = true ∧ p.name = n) ∨ ∃ p ∈ s, p.kind = 4

theorem takes_goes {s : Sig} (hs : OkS s) {n : Str} : 0 ≤ takesQ s n ↔ goesQ s n := by
  constructor
  · intro h
    obtain ⟨p, hp, _, hk⟩ := takesQ_some (show ¬ takesQ s n < 0 by omega)
    rcases hk with ⟨h1, h2⟩ | h1
    · exact .inl ⟨_, p, hp, h1, h2⟩
    · exact .inr ⟨p, List.mem_of_getElem? hp, h1⟩
  · intro h
    by_cases hA : ∃ (i : Nat) (p : Param), s[i]? = some p ∧ namedQ p = true ∧ p.name = n
    · obtain ⟨i, p, hp, hn, rfl⟩ := hA
      rw [takes_named hs hp hn]; omega
    · rcases h with h | ⟨p, hp, hk⟩
      · exact absurd h hA
      · have h4 : takesQ s n = idxI (kIs 4) s 0 := by
          cases hf : s.find? (qIs n) with
          | none => simp [takesQ, hf]
          | some q =>
            cases hn : namedQ q with
            | false => simp [takesQ, hf, hn]
            | true =>
              have h1 := List.mem_of_find?_eq_some hf
              have h2 := List.find?_some hf
              obtain ⟨i, hi⟩ := List.getElem?_of_mem h1
              exact absurd ⟨i, q, hi, hn, by simpa [qIs] using h2⟩ hA
        rw [h4]
        exact idxI_ge.2 (List.any_eq_true.2 ⟨p, hp, by simpa [kIs] using hk⟩)

theorem wrong_iff2 {s : Sig} (hs : OkS s) {pl : List Int} {q : Pair} : wrongQ s pl q = none ↔
    goesQ s q.name ∧ ∀ (i : Nat) (p : Param), s[i]? = some p → namedQ p = true → p.name = q.name → byPl pl i p = false := by
  rw [wrong_iff, takes_goes hs]
  constructor
  · rintro ⟨h1, h2⟩
    refine ⟨h1, fun i p hp hn he => ?_⟩
    have ht := takes_named hs hp hn
    rw [he] at ht
    have := h2 p (by rw [ht]; simpa using hp) (by have := named_kind.1 hn; omega)
    rw [ht] at this
    simpa using this
  · rintro ⟨h1, h2⟩
    refine ⟨h1, fun p hp hk => ?_⟩
    obtain ⟨p', hp', _, hk'⟩ := takesQ_some (show ¬ takesQ s q.name < 0 by have := (takes_goes hs).2 h1; omega)
    rw [hp] at hp'
    cases hp'
    rcases hk' with ⟨h3, h4⟩ | h3
    · exact h2 _ p hp h3 h4
    · exact absurd h3 hk

theorem find_isSome {f : Flat} {n : Str} : (f.named.find? (nameIs n)).isSome = f.named.any (nameIs n) := by
  cases ha : f.named.any (nameIs n) with
  | true => rw [List.find?_isSome]; exact List.any_eq_true.1 ha
  | false =>
    cases hq : f.named.find? (nameIs n) with
    | none => rfl
    | some q =>
      have : f.named.any (nameIs n) = true := List.any_eq_true.2 ⟨q, List.mem_of_find?_eq_some hq, List.find?_some hq⟩
      rw [this] at ha; cases ha

theorem kindP_facts (b : Bool) (q : Param) : (kindP b q).name = q.name ∧ (kindP b q).kind = (if q.kind = 1 ∧ b = true then 3 else q.kind) ∧ (kindP b q).hasD = q.hasD ∧ namedQ (kindP b q) = namedQ q := by
  unfold kindP namedQ
  by_cases h1 : q.kind = 1
  · cases b <;> simp [h1]
  · simp [h1]

theorem giveP_facts (f : Flat) (q : Param) : (giveP f q).name = q.name ∧ (giveP f q).kind = q.kind ∧ (giveP f q).hasD = (q.hasD || (namedQ q && f.named.any (nameIs q.name))) := by
  unfold giveP
  rw [← find_isSome]
  cases hn : namedQ q with
  | false => simp
  | true =>
    simp only [if_true]
    cases f.named.find? (nameIs q.name) <;> simp

/-- What becomes of a parameter. -/
structure KeptQ (k : Int) (f : Flat) (i : Nat) (p p' : Param) : Prop where
  name : p'.name = p.name
  kind : p'.kind = if p.kind = 1 ∧ 0 ≤ k ∧ k ≤ i then 3 else p.kind
  hasD : p'.hasD = (p.hasD || (namedQ p && f.named.any (nameIs p.name)))
  place : ¬ (placedQ p = true ∧ i < f.places.length)
  rest : ¬ (p.kind = 2 ∧ 0 ≤ k)

theorem partParam_facts {k : Int} {f : Flat} {i : Nat} {p p' : Param} (h : partParam k f i p = some p') : KeptQ k f i p p' := by
  have hn := partParam_name h
  unfold partParam at h
  split at h
  · cases h
  · rename_i hs
    simp only [Option.some.injEq] at h
    obtain ⟨a1, a2, a3, a4⟩ := kindP_facts (decide (0 ≤ k) && decide (k ≤ i)) p
    obtain ⟨b1, b2, b3⟩ := giveP_facts f (kindP (decide (0 ≤ k) && decide (k ≤ i)) p)
    rw [h] at b1 b2 b3
    refine ⟨hn, ?_, ?_, ?_, ?_⟩
    · rw [b2, a2]; simp
    · rw [b3, a3, a4, a1]
    · rintro ⟨h1, h2⟩; exact hs (by simp [skipP, h1, h2])
    · rintro ⟨h1, h2⟩; exact hs (by simp [skipP, h1, h2])

theorem partParam_keep {k : Int} {f : Flat} {i : Nat} {p : Param} (h1 : ¬ (placedQ p = true ∧ i < f.places.length)) (h2 : ¬ (p.kind = 2 ∧ 0 ≤ k)) : ∃ p', partParam k f i p = some p' := by
  unfold partParam
  rw [if_neg]
  · exact ⟨_, rfl⟩
  · unfold skipP
    simp only [Bool.or_eq_true, Bool.and_eq_true, decide_eq_true_eq, beq_iff_eq]
    rintro (h | h)
    · exact h1 h
    · exact h2 h

theorem psL_split {k : Int} {f : Flat} {s : Sig} (i : Nat) : ∃ r, psL k f s = psL k f (s.take i) ++ r := by
  refine ⟨((s.drop i).zipIdx (0 + (s.take i).length)).filterMap (fun x => partParam k f x.2 x.1), ?_⟩
  conv => lhs; rw [← List.take_append_drop i s]
  unfold psL
  rw [List.zipIdx_append, List.filterMap_append]

/-- The facts of a partial call's signature. -/
structure PsFacts (s : Sig) (pf : Flat) : Prop where
  sig : OkS s
  flat : OkF pf
  out : OkS (psQ s pf)
  part : partQ s pf = true

theorem PsFacts.first {s : Sig} {pf : Flat} (h : PsFacts s pf) (h0 : 0 ≤ atQ s pf) : ∃ (n : Nat) (y : Param), atQ s pf = n ∧ s[n]? = some y ∧ y.kind = 1 ∧ pf.named.any (nameIs y.name) = true ∧ pf.places.length ≤ n := by
  obtain ⟨y, _, hy, hyp, hlt⟩ := idxI_find h0
  have hk := hyp
  simp only [atP, Bool.and_eq_true, beq_iff_eq] at hk
  refine ⟨(atQ s pf).toNat, y, by omega, hy, hk.1, hk.2, ?_⟩
  refine Classical.byContradiction fun hc => ?_
  have := np_at h.part hy (placed_kind.2 (.inr hk.1)) (by unfold atQ at hc; omega)
  rw [hyp] at this; cases this

theorem PsFacts.from {s : Sig} {pf : Flat} (h : PsFacts s pf) {i : Nat} {p : Param} (hp : s[i]? = some p) (hk : p.kind = 1) (hn : pf.named.any (nameIs p.name) = true) : 0 ≤ atQ s pf ∧ atQ s pf ≤ i := by
  have := idxI_le (k := 0) (pred := atP pf) hp (by simp [atP, hk, hn])
  unfold atQ; omega

theorem PsFacts.kinds {s : Sig} {pf : Flat} (h : PsFacts s pf) {i : Nat} {p : Param} (hp : s[i]? = some p) (h0 : 0 ≤ atQ s pf) (h1 : atQ s pf ≤ i) (hk : placedQ p = true) : p.kind = 1 := by
  obtain ⟨n, y, hn, hy, hyk, _, _⟩ := h.first h0
  have := h.sig.sorted (i - n) n y p hy (by rw [show n + (i - n) = i by omega]; exact hp)
  rw [placed_kind] at hk; omega

theorem KeptQ.placed {s : Sig} {pf : Flat} (h : PsFacts s pf) {i : Nat} {p p' : Param} (hp : s[i]? = some p) (hk : KeptQ (atQ s pf) pf i p p') : placedQ p' = true ↔ placedQ p = true ∧ ¬ (0 ≤ atQ s pf ∧ atQ s pf ≤ i) := by
  have h1 := hk.kind
  constructor
  · intro h2
    rw [placed_kind] at h2
    split at h1
    · omega
    · rename_i h3
      have hpp : placedQ p = true := placed_kind.2 (by omega)
      refine ⟨hpp, fun h4 => h3 ⟨h.kinds hp h4.1 h4.2 hpp, h4⟩⟩
  · rintro ⟨h2, h3⟩
    rw [placed_kind] at h2 ⊢
    rw [if_neg (fun h4 => h3 h4.2)] at h1
    omega

theorem KeptQ.named {k : Int} {pf : Flat} {i : Nat} {p p' : Param} (hk : KeptQ k pf i p p') : namedQ p' = namedQ p := by
  have h1 := hk.kind
  have : namedQ p' = true ↔ namedQ p = true := by
    rw [named_kind, named_kind]
    split at h1 <;> omega
  cases h : namedQ p with
  | true => exact this.2 h
  | false =>
    cases h' : namedQ p' with
    | false => rfl
    | true => rw [this.1 h'] at h; cases h

theorem KeptQ.single {k : Int} {pf : Flat} {i : Nat} {p p' : Param} (hk : KeptQ k pf i p p') : singleQ p' = true ↔ singleQ p = true := by
  have h1 := hk.kind
  rw [single_kind, single_kind]
  split at h1 <;> omega

theorem PsFacts.len {s : Sig} {pf : Flat} (h : PsFacts s pf) : ∀ (i : Nat), i ≤ placesQ s → (psL (atQ s pf) pf (s.take i)).length = i - pf.places.length
  | 0, _ => by simp [psL]
  | i + 1, hi => by
    have hP := placesQ_le s
    obtain ⟨p, hp⟩ := at_some (xs := s) (i := i) (by omega)
    have hpl := (h.sig.placed_iff hp).2 (by omega)
    rw [psL_succ hp, List.length_append, PsFacts.len h i (by omega)]
    by_cases hia : i < pf.places.length
    · have : partParam (atQ s pf) pf i p = none := by simp [partParam, skipP, hpl, hia]
      rw [this]; simp; omega
    · obtain ⟨p', hp'⟩ := partParam_keep (k := atQ s pf) (f := pf) (i := i) (p := p) (by omega) (by rw [placed_kind] at hpl; omega)
      rw [hp']; simp; omega

/-- Where a parameter goes. -/
theorem PsFacts.to {s : Sig} {pf : Flat} (h : PsFacts s pf) {i : Nat} {p : Param} (hp : s[i]? = some p) (h1 : ¬ (placedQ p = true ∧ i < pf.places.length)) (h2 : ¬ (p.kind = 2 ∧ 0 ≤ atQ s pf)) :
    ∃ (j : Nat) (p' : Param), (psQ s pf)[j]? = some p' ∧ KeptQ (atQ s pf) pf i p p' ∧ (placedQ p' = true → j + pf.places.length = i) := by
  obtain ⟨p', hp'⟩ := partParam_keep (f := pf) h1 h2
  have hk := partParam_facts hp'
  obtain ⟨r, hr⟩ := psL_split (k := atQ s pf) (f := pf) (s := s) (i + 1)
  rw [psL_succ hp, hp'] at hr
  refine ⟨(psL (atQ s pf) pf (s.take i)).length, p', ?_, hk, fun hpl => ?_⟩
  · unfold psQ
    rw [hr, List.append_assoc, List.getElem?_append_right (by omega)]
    simp
  · have hpp := ((hk.placed h hp).1 hpl).1
    have hi := (h.sig.placed_iff hp).1 hpp
    rw [h.len i (by omega)]
    have := hk.place
    have : ¬ i < pf.places.length := fun h0 => this ⟨hpp, h0⟩
    omega

/-- Where a parameter comes from. -/
theorem PsFacts.of {s : Sig} {pf : Flat} (h : PsFacts s pf) {j : Nat} {p' : Param} (hp : (psQ s pf)[j]? = some p') :
    ∃ (i : Nat) (p : Param), s[i]? = some p ∧ KeptQ (atQ s pf) pf i p p' ∧ (placedQ p' = true → j + pf.places.length = i) := by
  have hm := List.mem_of_getElem? hp
  unfold psQ psL at hm
  rw [List.mem_filterMap] at hm
  obtain ⟨⟨p, i⟩, hq, hr⟩ := hm
  rw [List.mem_zipIdx_iff_getElem?] at hq
  have hk := partParam_facts hr
  obtain ⟨j', p2, hj', hk', hpos⟩ := h.to hq hk.place hk.rest
  have hjj := name_inj h.out hp hj' (by rw [hk.name, hk'.name])
  subst hjj
  rw [hp] at hj'
  cases hj'
  exact ⟨i, p, hq, hk, hpos⟩

section

variable {s : Sig} {pf f : Flat}

end

def sameL (x y : Slot) : Bool := x.given == y.given && (decide (x.list = y.list) && decide (isortL ltN x.pairs = isortL ltN y.pairs))

def sameB (a b : Bnds) : Bool := decide (a.length = b.length) && (a.zip b).all (fun z => sameL z.1 z.2)

theorem sameB_iff {a b : Bnds} : sameB a b = true ↔ a.length = b.length ∧ ∀ (i : Nat) (x y : Slot), a[i]? = some x → b[i]? = some y → sameL x y = true := by
  unfold sameB
  rw [Bool.and_eq_true, decide_eq_true_eq, List.all_eq_true]
  refine and_congr_right fun _ => ?_
  constructor
  · intro h i x y hx hy
    exact h (x, y) (List.mem_of_getElem? (i := i) (List.getElem?_zip_eq_some.2 ⟨hx, hy⟩))
  · intro h z hz
    obtain ⟨i, hi⟩ := List.getElem?_of_mem hz
    rw [List.getElem?_zip_eq_some] at hi
    exact h i _ _ hi.1 hi.2

theorem sameL_self (x : Slot) : sameL x x = true := by simp [sameL]

theorem sameB_self (b : Bnds) : sameB b b = true := sameB_iff.2 ⟨rfl, fun i x y hx hy => by rw [hx] at hy; cases hy; exact sameL_self x⟩

structure SmallL (x : Slot) : Prop where
  list : x.list.length ≤ 1048576
  pairs : x.pairs.length ≤ 12

theorem sameC_ct (x y : Slot) (hx : SmallL x) (hy : SmallL y) : ACalls pk 110 [.agg (eL x), .agg (eL y)] [] (fun r o => r = .one (.bool (sameL x y)) ∧ o = []) := by
  have h1 := hx.list
  have h2 := hx.pairs
  have h3 := hy.pairs
  have g1 := isortL_length ltN x.pairs
  refine acalls_of_body Tryz.func110 rfl (by kernel_rfl) rfl ?_
  refine rn rfl ?_
  refine goal_draw' [0, 1] 22 rfl ?_
  refine drn [0, 1, 2, 3, 4, 5] (by kernel_rfl) (by kernel_rfl) rfl rfl ?_
  refine AH_guard (i := 6) rfl rfl rfl (fun h4 => ?_) (fun h4 => ?_) <;> (try simp only [gt_iff_lt, ge_iff_le, bne_iff_ne, ne_eq, bne_eq_false_iff_eq, beq_iff_eq, beq_eq_false_iff_ne, Bool.not_eq_true', Bool.not_eq_false', decide_eq_true_eq, decide_eq_false_iff_not, List.length_map] at h4)
  · refine drn [6, 7, 8, 9] (by kernel_rfl) (by kernel_rfl) rfl rfl ?_
    refine AH_one (i := 10) (by kernel_rfl) (step_call [] rfl rfl rfl rfl rfl rfl (libEqualI_ct x.list y.list (by omega))) (by simp) ?_
    rintro σ2 ⟨r, o', ⟨rfl, rfl⟩, hσ⟩
    obtain rfl := Option.some.inj hσ
    clear hσ
    refine drn [11, 12] (by kernel_rfl) (by kernel_rfl) rfl rfl ?_
    refine AH_guard (i := 13) rfl rfl rfl (fun h5 => ?_) (fun h5 => ?_) <;> (try simp only [gt_iff_lt, ge_iff_le, bne_iff_ne, ne_eq, bne_eq_false_iff_eq, beq_iff_eq, beq_eq_false_iff_ne, Bool.not_eq_true', Bool.not_eq_false', decide_eq_true_eq, decide_eq_false_iff_not, List.length_map] at h5)
    · refine drn [13, 14, 16, 17] (by kernel_rfl) (by kernel_rfl) rfl rfl ?_
      refine AH_one (i := 15) (by kernel_rfl) (step_call [] rfl rfl rfl rfl rfl rfl (byNameD_ct x.pairs (by omega))) (by simp) ?_
      rintro σ2 ⟨r, o', ⟨rfl, rfl⟩, hσ⟩
      obtain rfl := Option.some.inj hσ
      clear hσ
      refine AH_one (i := 18) (by kernel_rfl) (step_call [] rfl rfl rfl rfl rfl rfl (byNameD_ct y.pairs (by omega))) (by simp) ?_
      rintro σ2 ⟨r, o', ⟨rfl, rfl⟩, hσ⟩
      obtain rfl := Option.some.inj hσ
      clear hσ
      refine AH_one (i := 19) (by kernel_rfl) (step_call [] rfl rfl rfl rfl rfl rfl (libEqualP_ct (isortL ltN x.pairs) (isortL ltN y.pairs) (by omega))) (by simp) ?_
      rintro σ2 ⟨r, o', ⟨rfl, rfl⟩, hσ⟩
      obtain rfl := Option.some.inj hσ
      clear hσ
      refine drn [20, 21] (by kernel_rfl) (by kernel_rfl) rfl rfl ?_
      refine AH_end (by kernel_rfl) ?_
      refine rn rfl ?_
      refine rn rfl (fin_is [] rfl ⟨?_, rfl⟩)
      simp [sameL, h4, h5]
    · refine drn [13, 14, 15, 16, 17, 18, 19, 20, 21] (by kernel_rfl) (by kernel_rfl) rfl rfl ?_
      refine AH_end (by kernel_rfl) ?_
      refine rn rfl ?_
      refine rn rfl (fin_is [] rfl ⟨?_, rfl⟩)
      simp [sameL, h5]
  · refine drn [6, 7, 8, 9, 10, 11, 12, 13, 14, 15, 16, 17, 18, 19, 20, 21] (by kernel_rfl) (by kernel_rfl) rfl rfl ?_
    refine AH_end (by kernel_rfl) ?_
    refine rn rfl ?_
    refine rn rfl (fin_is [] rfl ⟨?_, rfl⟩)
    simp [sameL, h4]

theorem equalFunc_ct (a b : Bnds) (f : FuncId) (ha : a.length ≤ 1048576) (h : ∀ x ∈ a, ∀ y ∈ b, ACalls pk f [.agg (eL x), .agg (eL y)] [] (fun r o => r = .one (.bool (sameL x y)) ∧ o = [])) :
    ACalls pk 109 [.one (.fs (a.map eL)), .one (.fs (b.map eL)), .one (.fn f [])] [] (fun r o => r = .one (.bool (sameB a b)) ∧ o = []) := by
  refine acalls_of_body Tryz.func109 rfl (by kernel_rfl) rfl ?_
  refine rn rfl ?_
  refine goal_cond rfl (fun h0 => ?_) (fun h0 => ?_) <;> simp only [List.length_map, bne_iff_ne, ne_eq, bne_eq_false_iff_eq] at h0
  · refine rn rfl (fin_is [] rfl ⟨?_, rfl⟩)
    have : a.length ≠ b.length := by omega
    simp [sameB, this]
  · have hlen : a.length = b.length := by omega
    refine rn rfl ?_
    refine goal_loop_keep (fun m σ => ∃ (q L : Int) (i : Nat), q = i ∧ L = a.length ∧ i ≤ a.length ∧ m = a.length - i ∧ (∀ (j : Nat) (x y : Slot), a[j]? = some x → b[j]? = some y → j < i → sameL x y = true) ∧
        σ = ⟨[(17, .one (.int .i64 q)), (16, .one (.int .i64 L)), (15, .one (.fs (a.map eL))), (2, .one (.fn f [])), (1, .one (.fs (b.map eL)))], [], []⟩) a.length [17, 16, 15, 2, 1] [] rfl
      ⟨_, _, 0, rfl, by simp, by omega, by omega, fun j x y _ _ hj => by omega, rfl⟩ ?_
    rintro m σ ⟨q, L, i, rfl, rfl, hi, rfl, hall, rfl⟩
    refine rn rfl ?_
    refine goal_cond rfl (fun h1 => ?_) (fun h1 => ?_) <;> (try simp only [gt_iff_lt, ge_iff_le, bne_iff_ne, ne_eq, bne_eq_false_iff_eq, beq_iff_eq, beq_eq_false_iff_ne, Bool.not_eq_true', Bool.not_eq_false', decide_eq_true_eq, decide_eq_false_iff_not, List.length_map] at h1)
    · obtain ⟨x, hx⟩ := at_some (xs := a) (i := i) (by omega)
      obtain ⟨y, hy⟩ := at_some (xs := b) (i := i) (by omega)
      refine rn rfl ?_
      refine goal_did rfl rfl (dA_index (eL x) rfl rfl rfl rfl rfl rfl rfl (by omega) (by (try simp); omega) (map_at (by simpa using hx)) rfl) ?_
      refine rn rfl ?_
      refine goal_did rfl rfl (dA_index (eL y) rfl rfl rfl rfl rfl rfl rfl (by omega) (by (try simp); omega) (map_at (by simpa using hy)) rfl) ?_
      refine rn rfl ?_
      refine goal_step (step_call [] rfl rfl rfl rfl rfl rfl (h x (List.mem_of_getElem? hx) y (List.mem_of_getElem? hy))) ?_
      rintro σ2 ⟨r, o', ⟨rfl, rfl⟩, hσ⟩
      obtain rfl := Option.some.inj hσ
      clear hσ
      refine rn rfl ?_
      refine goal_cond rfl (fun h2 => ?_) (fun h2 => ?_) <;> simp only [Bool.not_eq_true', Bool.not_eq_false'] at h2
      · refine rn rfl (round_ret (fin_is [] rfl ⟨?_, rfl⟩))
        cases hs : sameB a b with
        | false => rfl
        | true => rw [(sameB_iff.1 hs).2 i x y hx hy] at h2; cases h2
      · refine rn rfl ?_
        refine round_keep (a.length - (i + 1)) [17, 16, 15, 2, 1] [] (by omega) rfl ⟨_, _, i + 1, wrap64 (by omega) (by omega), rfl, by omega, rfl, fun j x' y' hx' hy' hj => ?_, rfl⟩
        by_cases hji : j = i
        · subst hji
          rw [hx] at hx'; rw [hy] at hy'
          cases hx'; cases hy'
          exact h2
        · exact hall j x' y' hx' hy' (by omega)
    · refine rn rfl (round_ext ?_)
      refine rn rfl (fin_is [] rfl ⟨?_, rfl⟩)
      rw [sameB_iff.2 ⟨hlen, fun j x y hx hy => hall j x y hx hy (by have := lt_of_some hx; omega)⟩]

theorem isameB_ct (a b : Bnds) (ha : a.length ≤ 1048576) (h1 : ∀ x ∈ a, SmallL x) (h2 : ∀ x ∈ b, SmallL x) : ACalls pk 56 [.agg (eBi a), .agg (eBi b)] [] (fun r o => r = .one (.bool (sameB a b)) ∧ o = []) := by
  refine acalls_of_body Tryz.func56 rfl (by kernel_rfl) rfl ?_
  refine rn rfl ?_
  refine goal_step (step_call [] rfl rfl rfl rfl rfl rfl (equalFunc_ct a b _ ha (fun x hx y hy => sameC_ct x y (h1 x hx) (h2 y hy)))) ?_
  rintro σ2 ⟨r, o', ⟨rfl, rfl⟩, hσ⟩
  obtain rfl := Option.some.inj hσ
  clear hσ
  refine rn rfl ?_
  exact rn rfl (fin_is [] rfl ⟨rfl, rfl⟩)

theorem bound_small {s : Sig} {f : Flat} (hs : OkS s) (hf : OkF f) : (boundQ s f).1.length ≤ 8 ∧ ∀ x ∈ (boundQ s f).1, x.list.length ≤ 8 ∧ x.pairs.length ≤ 8 := by
  have h1 := hf.places
  have h2 := hf.named
  rw [bound_closed hs hf.nodup]
  refine ⟨by simp only [closedQ, List.length_mapIdx]; exact hs.len, fun x hx => ?_⟩
  simp only [closedQ, List.mem_mapIdx] at hx
  obtain ⟨i, hi, rfl⟩ := hx
  unfold giveQ
  split
  · have := List.length_filter_le (fun q : Pair => takesQ s q.name == (i : Int)) f.named
    simp; omega
  · split
    · split <;> simp [zL]
    · exact place1_small _ _ _ _ h1

theorem small_of {x : Slot} (h : x.list.length ≤ 8 ∧ x.pairs.length ≤ 8) : SmallL x := ⟨by omega, by omega⟩

theorem OkS.okName {s : Sig} (h : OkS s) {p : Param} (hp : p ∈ s) : okName p.name = true := by
  have := h.params p hp
  simp only [okQ, Bool.and_eq_true] at this
  exact this.1.1.1.1

theorem bind_ok {s : Sig} {f : Flat} (hs : OkS s) (hf : OkF f) : (BindQ s f).2 = accQ s f := by
  unfold BindQ
  rw [fitQ_iff.2 ⟨hs, hf⟩]
  simp only [Bool.true_and]
  split
  · rename_i h; exact h.symm
  · rename_i h; simpa using h

def hd0 (xs : List Int) : Int := xs.headD 0

def stU (st : Flat × Bool) (px : Param × Slot) : Flat × Bool :=
  if px.1.kind = 2 then (⟨st.1.places ++ px.2.list, st.1.named⟩, st.2)
  else if px.1.kind = 4 then (⟨st.1.places, st.1.named ++ px.2.pairs⟩, st.2)
  else if px.2.given = false then (st.1, st.2 && !placedQ px.1)
  else if placedQ px.1 && st.2 then (⟨st.1.places ++ [hd0 px.2.list], st.1.named⟩, st.2)
  else (⟨st.1.places, st.1.named ++ [⟨px.1.name, hd0 px.2.list⟩]⟩, st.2)

def unbQ (s : Sig) (b : Bnds) : Flat := ((s.zip b).foldl stU (zF, true)).1

structure OkB (s : Sig) (b : Bnds) : Prop where
  len : b.length = s.length
  few : s.length ≤ 8
  kinds : ∀ p ∈ s, 0 ≤ p.kind ∧ p.kind ≤ 4
  one : ∀ (i : Nat) (p : Param) (x : Slot), s[i]? = some p → b[i]? = some x → singleQ p = true → x.given = true → ∃ v, x.list = [v]
  size : ∀ x ∈ b, x.list.length ≤ 1048576 ∧ x.pairs.length ≤ 1048576

theorem stU_len {M : Nat} (hM : 1 ≤ M) (st : Flat × Bool) (p : Param) (x : Slot) (h : x.list.length ≤ M ∧ x.pairs.length ≤ M) : (stU st (p, x)).1.places.length ≤ st.1.places.length + M ∧ (stU st (p, x)).1.named.length ≤ st.1.named.length + M := by
  unfold stU
  simp only
  split
  · simp; omega
  · split
    · simp; omega
    · split
      · simp
      · split <;> simp <;> omega

theorem unb_lenM {M : Nat} (hM : 1 ≤ M) (b : Bnds) (hb : ∀ x ∈ b, x.list.length ≤ M ∧ x.pairs.length ≤ M) : ∀ (zs : List (Param × Slot)) (st : Flat × Bool), (∀ z ∈ zs, z.2 ∈ b) → (zs.foldl stU st).1.places.length ≤ st.1.places.length + M * zs.length ∧ (zs.foldl stU st).1.named.length ≤ st.1.named.length + M * zs.length
  | [], st, _ => by simp
  | z :: zs, st, h => by
    have h1 := unb_lenM hM b hb zs (stU st z) (fun y hy => h y (by simp [hy]))
    have h2 := stU_len hM st z.1 z.2 (hb _ (h z (by simp)))
    rw [List.foldl_cons]
    simp only [List.length_cons]
    have e : stU st z = stU st (z.1, z.2) := rfl
    rw [← e] at h2
    rw [Nat.mul_succ]
    omega

theorem unb_len (b : Bnds) (hb : ∀ x ∈ b, x.list.length ≤ 1048576 ∧ x.pairs.length ≤ 1048576) (zs : List (Param × Slot)) (st : Flat × Bool) (h : ∀ z ∈ zs, z.2 ∈ b) :
    (zs.foldl stU st).1.places.length ≤ st.1.places.length + 1048576 * zs.length ∧ (zs.foldl stU st).1.named.length ≤ st.1.named.length + 1048576 * zs.length := unb_lenM (by omega) b hb zs st h

def cntL (x : Slot) : Nat := x.list.length + x.pairs.length

def cntB (b : Bnds) : Nat := (b.map cntL).sum

theorem cntB_bound {M : Nat} : ∀ {b : Bnds}, (∀ x ∈ b, cntL x ≤ M) → cntB b ≤ M * b.length
  | [], _ => by simp [cntB]
  | x :: b, h => by
    have h1 := cntB_bound (b := b) (fun y hy => h y (by simp [hy]))
    have h2 := h x (by simp)
    simp only [cntB, List.map_cons, List.sum_cons, List.length_cons, Nat.mul_succ] at h1 ⊢
    omega

theorem unb_cntZ : ∀ (zs : List (Param × Slot)) (st : Flat × Bool), (∀ z ∈ zs, (0 ≤ z.1.kind ∧ z.1.kind ≤ 4) ∧ (singleQ z.1 = true → z.2.given = true → 1 ≤ z.2.list.length)) →
    (zs.foldl stU st).1.places.length + (zs.foldl stU st).1.named.length ≤ st.1.places.length + st.1.named.length + cntB (zs.map Prod.snd)
  | [], st, _ => by simp
  | z :: zs, st, h => by
    have h1 := unb_cntZ zs (stU st z) (fun y hy => h y (by simp [hy]))
    obtain ⟨hk, ho⟩ := h z (by simp)
    rw [List.foldl_cons]
    have h2 : (stU st z).1.places.length + (stU st z).1.named.length ≤ st.1.places.length + st.1.named.length + cntL z.2 := by
      unfold stU cntL
      split
      · simp; omega
      · rename_i h2
        split
        · simp; omega
        · rename_i h4
          split
          · dsimp only; omega
          · rename_i hg
            have h3 := ho (by rw [single_kind]; omega) (by simpa using hg)
            split <;> simp <;> omega
    simp only [cntB, List.map_cons, List.sum_cons] at h1 ⊢
    omega

theorem unb_cnt {s : Sig} {b : Bnds} (h : OkB s b) : (unbQ s b).places.length + (unbQ s b).named.length ≤ cntB b := by
  have h1 := unb_cntZ (s.zip b) (zF, true) (fun z hz => ⟨h.kinds _ (List.of_mem_zip hz).1, fun hs hg => by
    obtain ⟨i, hi⟩ := List.getElem?_of_mem hz
    rw [List.getElem?_zip_eq_some] at hi
    obtain ⟨v, hv⟩ := h.one i _ _ hi.1 hi.2 hs hg
    rw [hv]; simp⟩)
  rw [List.map_snd_zip (by rw [h.len]; exact Nat.le_refl _)] at h1
  unfold unbQ
  simpa [zF] using h1

theorem kind_split {p : Param} (h : 0 ≤ p.kind ∧ p.kind ≤ 4) : placedQ p = true ∨ p.kind = 2 ∨ p.kind = 3 ∨ p.kind = 4 := by
  rw [placed_kind]; omega

theorem iunbind_ct (s : Sig) (b : Bnds) (h : OkB s b) : ACalls pk 44 [.agg (eG s), .agg (eBi b)] [] (fun r o => r = rF (unbQ s b) ∧ o = oF (unbQ s b)) := by
  have hlen := h.len
  have hfew := h.few
  have hzl : (s.zip b).length = s.length := by simp [hlen]
  refine acalls_of_body Tryz.func44 rfl (by kernel_rfl) rfl ?_
  refine rn rfl ?_
  refine goal_weakCod (Weak.adoptO 3 0 1) ?_
  refine goal_weakCod (Weak.adoptO 3 1 2) ?_
  refine goal_loop_keep (fun m σ => ∃ (q L : Int) (i l1 l2 : Nat) (ob : Bool) (F : Flat), q = i ∧ L = s.length ∧ i ≤ s.length ∧ m = s.length - i ∧ l1 = F.places.length ∧ l2 = F.named.length ∧ (F, ob) = ((s.zip b).take i).foldl stU (zF, true) ∧
      σ = ⟨[(13, .one (.int .i64 q)), (12, .one (.int .i64 L)), (11, .one (.fs (s.map eQ))), (6, .one (.bool ob)), (5, .one (.op 2 0 0)), (4, .one (.op 1 0 0)), (3, .one (.op 0 0 0))],
        [some ⟨1, [eBi b], false, false, true⟩, some ⟨2, [[.fs [], .fs []]], false, false, true⟩, some ⟨2, [[.os 3 0 l1 l1, .os 4 0 l2 l2]], false, false, true⟩, ownI F.places, ownP F.named], []⟩) s.length [13, 12, 11, 6, 5, 4, 3] [1, 2, 3, 4, 5] rfl
    ⟨_, _, 0, 0, 0, _, zF, rfl, ?_, by omega, by omega, rfl, rfl, rfl, rfl⟩ ?_
  · simp
  rintro m σ ⟨q, L, i, l1, l2, ob, F, rfl, rfl, hi, rfl, rfl, rfl, hF, rfl⟩
  have hln := unb_len b h.size ((s.zip b).take i) (zF, true) (fun z hz => by
    have := List.mem_of_mem_take hz
    exact (List.of_mem_zip this).2)
  rw [← hF] at hln
  simp only [List.length_take, hzl, zF, List.length_nil] at hln
  refine rn rfl ?_
  refine goal_cond rfl (fun hc => ?_) (fun hc => ?_) <;> (try simp only [gt_iff_lt, ge_iff_le, bne_iff_ne, ne_eq, bne_eq_false_iff_eq, beq_iff_eq, beq_eq_false_iff_ne, Bool.not_eq_true', Bool.not_eq_false', decide_eq_true_eq, decide_eq_false_iff_not, List.length_map] at hc)
  · obtain ⟨p, hp⟩ := at_some (xs := s) (i := i) (by omega)
    obtain ⟨x, hx⟩ := at_some (xs := b) (i := i) (by omega)
    have hsz := h.size x (List.mem_of_getElem? hx)
    have hz : (s.zip b)[i]? = some (p, x) := by rw [List.getElem?_zip_eq_some]; exact ⟨hp, hx⟩
    have hst : ((s.zip b).take (i + 1)).foldl stU (zF, true) = stU (F, ob) (p, x) := by rw [foldl_take_succ _ _ hz, ← hF]
    have hone := h.one i p x hp hx
    have hk := h.kinds p (List.mem_of_getElem? hp)
    refine rn rfl ?_
    refine goal_did rfl rfl (dA_index (eQ p) rfl rfl rfl rfl rfl rfl rfl (by omega) (by (try simp); omega) (map_at (by simpa using hp)) rfl) ?_
    refine rn rfl ?_
    refine goal_did rfl rfl (dA_index (eL x) rfl rfl rfl rfl rfl rfl rfl (by omega) (by (try simp); omega) (map_at (by simpa using hx)) rfl) ?_
    refine rn rfl ?_
    cases hpl : placedQ p with
    | true =>
      have hk2 : p.kind ≠ 2 ∧ p.kind ≠ 4 := by rw [placed_kind] at hpl; omega
      refine goal_step (step_call [] rfl rfl rfl rfl rfl rfl (iplaced_ct p)) ?_
      rintro σ2 ⟨r, o', ⟨rfl, rfl⟩, hσ⟩
      obtain rfl := Option.some.inj hσ
      clear hσ
      refine rn rfl ?_
      refine goal_guard rfl rfl rfl (fun _ => ?_) (fun h0 => by rw [hpl] at h0; cases h0)
      refine rn rfl ?_
      refine goal_guard rfl rfl rfl (fun ho => ?_) (fun ho => ?_) <;> (try simp only [gt_iff_lt, ge_iff_le, bne_iff_ne, ne_eq, bne_eq_false_iff_eq, beq_iff_eq, beq_eq_false_iff_ne, Bool.not_eq_true', Bool.not_eq_false', decide_eq_true_eq, decide_eq_false_iff_not, List.length_map] at ho)
      · subst ho
        refine rn rfl ?_
        refine goal_cond rfl (fun hg => ?_) (fun hg => ?_) <;> (try simp only [gt_iff_lt, ge_iff_le, bne_iff_ne, ne_eq, bne_eq_false_iff_eq, beq_iff_eq, beq_eq_false_iff_ne, Bool.not_eq_true', Bool.not_eq_false', decide_eq_true_eq, decide_eq_false_iff_not, List.length_map] at hg)
        · obtain ⟨v, hv⟩ := hone (by simp [singleQ, hpl]) hg
          refine rn rfl ?_
          refine goal_cond rfl (fun _ => ?_) (fun h0 => by rw [hg] at h0; cases h0)
          refine rn rfl ?_
          refine goal_did rfl rfl (dA_append (old := (F.places).map eI) (rows := (x.list : List Int).map eI) (((F.places) ++ (x.list : List Int)).map eI) (F.places.length + x.list.length) true (Dst.own rfl rfl rfl rfl rfl (by first | (simp; done) | (simp; omega)) (whole (by first | (simp; done) | (simp; omega)))) (Src.fs rfl) rfl rfl rfl rfl rfl rfl rfl rfl (rows_len eI_len _) (rows_len eI_len _) (by (try simp only [List.length_map, List.length_append, List.length_cons, List.length_nil, List.length_take, List.length_drop]); show _ * 8 ≤ _; omega) (by first | (simp; done) | (simp; omega)) (by simp) (by first | (simp; done) | (simp; omega)) (fun _ => noOwnR_map _ eI_noOwn _)) ?_
          refine rn rfl ?_
          refine round_keep (s.length - (i + 1)) [13, 12, 11, 6, 5, 4, 3] [0, 1, 2, 7, 4] (by omega) rfl ⟨_, _, i + 1, F.places.length + x.list.length, F.named.length, true, ⟨F.places ++ x.list, F.named⟩, wrap64 (by omega) (by omega), rfl, by omega, rfl, by simp, by simp, by rw [hst]; simp [stU, hk2.1, hk2.2, hpl, hg, hv, hd0], rfl⟩
        · refine rn rfl ?_
          refine goal_cond rfl (fun h0 => by simp at h0; omega) (fun _ => ?_)
          refine rn rfl ?_
          refine goal_step (step_call [] rfl rfl rfl rfl rfl rfl (iplaced_ct p)) ?_
          rintro σ2 ⟨r, o', ⟨rfl, rfl⟩, hσ⟩
          obtain rfl := Option.some.inj hσ
          clear hσ
          refine rn rfl ?_
          refine goal_guard rfl rfl rfl (fun _ => ?_) (fun h0 => by rw [hpl] at h0; cases h0)
          refine rn rfl ?_
          refine goal_cond rfl (fun _ => ?_) (fun h0 => by simp [hg] at h0)
          refine rn rfl ?_
          refine round_keep (s.length - (i + 1)) [13, 12, 11, 6, 5, 4, 3] [0, 1, 2, 3, 4] (by omega) rfl ⟨_, _, i + 1, F.places.length, F.named.length, false, F, wrap64 (by omega) (by omega), rfl, by omega, rfl, by simp, by simp, by rw [hst]; simp [stU, hk2.1, hk2.2, hpl, hg], rfl⟩
      · subst ho
        refine rn rfl ?_
        refine goal_cond rfl (fun h0 => by simp at h0; omega) (fun _ => ?_)
        refine rn rfl ?_
        refine goal_step (step_call [] rfl rfl rfl rfl rfl rfl (iplaced_ct p)) ?_
        rintro σ2 ⟨r, o', ⟨rfl, rfl⟩, hσ⟩
        obtain rfl := Option.some.inj hσ
        clear hσ
        refine rn rfl ?_
        refine goal_guard rfl rfl rfl (fun _ => ?_) (fun h0 => by rw [hpl] at h0; cases h0)
        refine rn rfl ?_
        refine goal_cond rfl (fun hg => ?_) (fun hg => ?_) <;> (try simp only [gt_iff_lt, ge_iff_le, bne_iff_ne, ne_eq, bne_eq_false_iff_eq, beq_iff_eq, beq_eq_false_iff_ne, Bool.not_eq_true', Bool.not_eq_false', decide_eq_true_eq, decide_eq_false_iff_not, List.length_map] at hg)
        · refine rn rfl ?_
          refine round_keep (s.length - (i + 1)) [13, 12, 11, 6, 5, 4, 3] [0, 1, 2, 3, 4] (by omega) rfl ⟨_, _, i + 1, F.places.length, F.named.length, false, F, wrap64 (by omega) (by omega), rfl, by omega, rfl, by simp, by simp, by rw [hst]; simp [stU, hk2.1, hk2.2, hpl, hg], rfl⟩
        · refine rn rfl ?_
          refine goal_step (step_call [] rfl rfl rfl rfl rfl rfl (isingle_ct p)) ?_
          rintro σ2 ⟨r, o', ⟨rfl, rfl⟩, hσ⟩
          obtain rfl := Option.some.inj hσ
          clear hσ
          refine rn rfl ?_
          refine goal_guard rfl rfl rfl (fun _ => ?_) (fun h0 => by simp [singleQ, hpl] at h0)
          refine rn rfl ?_
          refine goal_cond rfl (fun _ => ?_) (fun h0 => by rw [hg] at h0; cases h0)
          obtain ⟨v, hv⟩ := hone (by simp [singleQ, hpl]) hg
          refine rn rfl ?_
          refine goal_drawL [2, 5, 6] [12] 13 rfl ?_
          refine drnL [0, 1, 2, 3, 4, 5] (by kernel_rfl) (by kernel_rfl) rfl rfl ?_
          refine AHL_did 6 rfl (by kernel_rfl) (by kernel_rfl) (by kernel_rfl) (by kernel_rfl) rfl rfl (dA_index (eI v) rfl rfl rfl rfl rfl rfl rfl (by omega) (by simp [hv]) (by simp [hv]) rfl) ?_
          refine drnL [7, 8] (by kernel_rfl) (by kernel_rfl) rfl rfl ?_
          refine AHL_oneDid 9 rfl (by kernel_rfl) rfl rfl (dA_step rfl) (mdOk rfl) ?_
          refine AHL_oneDid 10 rfl (by kernel_rfl) rfl rfl (dA_append (old := (F.named).map eP) (rows := ([⟨p.name, v⟩] : List Pair).map eP) (((F.named) ++ ([⟨p.name, v⟩] : List Pair)).map eP) (F.named.length + 1) true (Dst.own rfl rfl rfl rfl rfl (by first | (simp; done) | (simp; omega)) (whole (by first | (simp; done) | (simp; omega)))) (Src.os rfl rfl (Nat.le_refl 1) rfl) rfl rfl rfl rfl rfl rfl rfl rfl (rows_len eP_len _) (rows_len eP_len _) (by (try simp only [List.length_map, List.length_append, List.length_cons, List.length_nil, List.length_take, List.length_drop]); show _ * 24 ≤ _; omega) (by first | (simp; done) | (simp; omega)) (by simp) (by first | (simp; done) | (simp; omega)) (fun _ => noOwnR_map _ eP_noOwn _)) (mdOk rfl) ?_
          refine drnL [11] (by kernel_rfl) (by kernel_rfl) rfl rfl ?_
          refine AHL_lateDid 12 rfl (by kernel_rfl) rfl rfl (dA_step rfl) ?_
          refine AH_end (by kernel_rfl) ?_
          refine rn rfl ?_
          refine round_keep (s.length - (i + 1)) [13, 12, 11, 6, 5, 4, 3] [0, 1, 2, 3, 8] (by omega) rfl ⟨_, _, i + 1, F.places.length, F.named.length + 1, false, ⟨F.places, F.named ++ [⟨p.name, v⟩]⟩, wrap64 (by omega) (by omega), rfl, by omega, rfl, by simp, by simp, by rw [hst]; simp [stU, hk2.1, hk2.2, hpl, hg, hv, hd0], rfl⟩
    | false =>
      refine goal_step (step_call [] rfl rfl rfl rfl rfl rfl (iplaced_ct p)) ?_
      rintro σ2 ⟨r, o', ⟨rfl, rfl⟩, hσ⟩
      obtain rfl := Option.some.inj hσ
      clear hσ
      refine rn rfl ?_
      refine goal_guard rfl rfl rfl (fun h0 => by rw [hpl] at h0; cases h0) (fun _ => ?_)
      refine rn rfl ?_
      refine goal_cond rfl (fun h2 => ?_) (fun h2 => ?_) <;> (try simp only [gt_iff_lt, ge_iff_le, bne_iff_ne, ne_eq, bne_eq_false_iff_eq, beq_iff_eq, beq_eq_false_iff_ne, Bool.not_eq_true', Bool.not_eq_false', decide_eq_true_eq, decide_eq_false_iff_not, List.length_map] at h2)
      · refine rn rfl ?_
        refine goal_did rfl rfl (dA_append (old := (F.places).map eI) (rows := (x.list : List Int).map eI) (((F.places) ++ (x.list : List Int)).map eI) (F.places.length + x.list.length) true (Dst.own rfl rfl rfl rfl rfl (by first | (simp; done) | (simp; omega)) (whole (by first | (simp; done) | (simp; omega)))) (Src.fs rfl) rfl rfl rfl rfl rfl rfl rfl rfl (rows_len eI_len _) (rows_len eI_len _) (by (try simp only [List.length_map, List.length_append, List.length_cons, List.length_nil, List.length_take, List.length_drop]); show _ * 8 ≤ _; omega) (by first | (simp; done) | (simp; omega)) (by simp) (by first | (simp; done) | (simp; omega)) (fun _ => noOwnR_map _ eI_noOwn _)) ?_
        refine rn rfl ?_
        refine round_keep (s.length - (i + 1)) [13, 12, 11, 6, 5, 4, 3] [0, 1, 2, 7, 4] (by omega) rfl ⟨_, _, i + 1, F.places.length + x.list.length, F.named.length, ob, ⟨F.places ++ x.list, F.named⟩, wrap64 (by omega) (by omega), rfl, by omega, rfl, by simp, by simp, by rw [hst]; simp [stU, h2], rfl⟩
      · refine rn rfl ?_
        refine goal_step (step_call [] rfl rfl rfl rfl rfl rfl (iplaced_ct p)) ?_
        rintro σ2 ⟨r, o', ⟨rfl, rfl⟩, hσ⟩
        obtain rfl := Option.some.inj hσ
        clear hσ
        refine rn rfl ?_
        refine goal_guard rfl rfl rfl (fun h0 => by rw [hpl] at h0; cases h0) (fun _ => ?_)
        refine rn rfl ?_
        refine goal_step (step_call [] rfl rfl rfl rfl rfl rfl (isingle_ct p)) ?_
        rintro σ2 ⟨r, o', ⟨rfl, rfl⟩, hσ⟩
        obtain rfl := Option.some.inj hσ
        clear hσ
        refine rn rfl ?_
        refine goal_guard rfl rfl rfl (fun h3 => ?_) (fun h3 => ?_) <;> (try simp only [gt_iff_lt, ge_iff_le, bne_iff_ne, ne_eq, bne_eq_false_iff_eq, beq_iff_eq, beq_eq_false_iff_ne, Bool.not_eq_true', Bool.not_eq_false', decide_eq_true_eq, decide_eq_false_iff_not, List.length_map] at h3)
        · have h4 : p.kind ≠ 4 := by rw [single_kind] at h3; omega
          refine rn rfl ?_
          refine goal_cond rfl (fun hg => ?_) (fun hg => ?_) <;> (try simp only [gt_iff_lt, ge_iff_le, bne_iff_ne, ne_eq, bne_eq_false_iff_eq, beq_iff_eq, beq_eq_false_iff_ne, Bool.not_eq_true', Bool.not_eq_false', decide_eq_true_eq, decide_eq_false_iff_not, List.length_map] at hg)
          · obtain ⟨v, hv⟩ := hone h3 hg
            refine rn rfl ?_
            refine goal_drawL [2, 5, 6] [12] 13 rfl ?_
            refine drnL [0, 1, 2, 3, 4, 5] (by kernel_rfl) (by kernel_rfl) rfl rfl ?_
            refine AHL_did 6 rfl (by kernel_rfl) (by kernel_rfl) (by kernel_rfl) (by kernel_rfl) rfl rfl (dA_index (eI v) rfl rfl rfl rfl rfl rfl rfl (by omega) (by simp [hv]) (by simp [hv]) rfl) ?_
            refine drnL [7, 8] (by kernel_rfl) (by kernel_rfl) rfl rfl ?_
            refine AHL_oneDid 9 rfl (by kernel_rfl) rfl rfl (dA_step rfl) (mdOk rfl) ?_
            refine AHL_oneDid 10 rfl (by kernel_rfl) rfl rfl (dA_append (old := (F.named).map eP) (rows := ([⟨p.name, v⟩] : List Pair).map eP) (((F.named) ++ ([⟨p.name, v⟩] : List Pair)).map eP) (F.named.length + 1) true (Dst.own rfl rfl rfl rfl rfl (by first | (simp; done) | (simp; omega)) (whole (by first | (simp; done) | (simp; omega)))) (Src.os rfl rfl (Nat.le_refl 1) rfl) rfl rfl rfl rfl rfl rfl rfl rfl (rows_len eP_len _) (rows_len eP_len _) (by (try simp only [List.length_map, List.length_append, List.length_cons, List.length_nil, List.length_take, List.length_drop]); show _ * 24 ≤ _; omega) (by first | (simp; done) | (simp; omega)) (by simp) (by first | (simp; done) | (simp; omega)) (fun _ => noOwnR_map _ eP_noOwn _)) (mdOk rfl) ?_
            refine drnL [11] (by kernel_rfl) (by kernel_rfl) rfl rfl ?_
            refine AHL_lateDid 12 rfl (by kernel_rfl) rfl rfl (dA_step rfl) ?_
            refine AH_end (by kernel_rfl) ?_
            refine rn rfl ?_
            refine round_keep (s.length - (i + 1)) [13, 12, 11, 6, 5, 4, 3] [0, 1, 2, 3, 8] (by omega) rfl ⟨_, _, i + 1, F.places.length, F.named.length + 1, ob, ⟨F.places, F.named ++ [⟨p.name, v⟩]⟩, wrap64 (by omega) (by omega), rfl, by omega, rfl, by simp, by simp, by rw [hst]; simp [stU, h2, h4, hpl, hg, hv, hd0], rfl⟩
          · refine rn rfl ?_
            refine goal_cond rfl (fun h0 => by simp at h0; omega) (fun _ => ?_)
            refine rn rfl ?_
            refine round_keep (s.length - (i + 1)) [13, 12, 11, 6, 5, 4, 3] [0, 1, 2, 3, 4] (by omega) rfl ⟨_, _, i + 1, F.places.length, F.named.length, ob, F, wrap64 (by omega) (by omega), rfl, by omega, rfl, by simp, by simp, by rw [hst]; simp [stU, h2, h4, hpl, hg], rfl⟩
        · have h4 : p.kind = 4 := by
            rcases kind_split hk with h0 | h0 | h0 | h0
            · rw [hpl] at h0; cases h0
            · exact absurd h0 h2
            · simp [singleQ, h0] at h3
            · exact h0
          refine rn rfl ?_
          refine goal_cond rfl (fun _ => ?_) (fun h0 => by simp at h0; omega)
          refine rn rfl ?_
          refine goal_did rfl rfl (dA_append (old := (F.named).map eP) (rows := (x.pairs : List Pair).map eP) (((F.named) ++ (x.pairs : List Pair)).map eP) (F.named.length + x.pairs.length) true (Dst.own rfl rfl rfl rfl rfl (by first | (simp; done) | (simp; omega)) (whole (by first | (simp; done) | (simp; omega)))) (Src.fs rfl) rfl rfl rfl rfl rfl rfl rfl rfl (rows_len eP_len _) (rows_len eP_len _) (by (try simp only [List.length_map, List.length_append, List.length_cons, List.length_nil, List.length_take, List.length_drop]); show _ * 24 ≤ _; omega) (by first | (simp; done) | (simp; omega)) (by simp) (by first | (simp; done) | (simp; omega)) (fun _ => noOwnR_map _ eP_noOwn _)) ?_
          refine rn rfl ?_
          refine round_keep (s.length - (i + 1)) [13, 12, 11, 6, 5, 4, 3] [0, 1, 2, 3, 7] (by omega) rfl ⟨_, _, i + 1, F.places.length, F.named.length + x.pairs.length, ob, ⟨F.places, F.named ++ x.pairs⟩, wrap64 (by omega) (by omega), rfl, by omega, rfl, by simp, by simp, by rw [hst]; simp [stU, h4], rfl⟩
  · refine rn rfl (round_ext ?_)
    have hfin : unbQ s b = F := by
      unfold unbQ
      rw [List.take_of_length_le (by omega)] at hF
      rw [← hF]
    rw [hfin]
    refine rn rfl ?_
    refine goal_step (step_callE [] rfl rfl rfl rfl rfl rfl (cons_eq (asFl F) rfl) (copyOf_ct F (by omega) (by omega))) ?_
    rintro σ2 ⟨r, o', ⟨rfl, rfl⟩, hσ⟩
    obtain rfl := Option.some.inj hσ
    clear hσ
    refine rn rfl ?_
    exact rn rfl (fin_is [5, 6] rfl ⟨rfl, rfl⟩)

section

variable {X : Pk} {N np : Nat} {K : KP} {σ : State}

end

theorem SmallS.lens {s : Sig} (h : SmallS s) : LenS s := ⟨by have := h.len; omega, fun p hp => by have := h.names p hp; omega⟩

def SS (xs : List Str) : Prop := xs.Pairwise (fun a b => ltS a b = true)

theorem SS.nodup {xs : List Str} (h : SS xs) : xs.Nodup := List.Pairwise.imp (fun hab he => by rw [he, ltS_irrefl] at hab; cases hab) h

theorem SS.ext {a b : List Str} (ha : SS a) (hb : SS b) (h : ∀ x, x ∈ a ↔ x ∈ b) : a = b := by
  refine List.Perm.eq_of_pairwise (le := fun x y => ltS x y = true) ?_ ha hb ((List.perm_ext_iff_of_nodup ha.nodup hb.nodup).2 h)
  intro x y _ _ h1 h2
  rw [ltS_asymm h1] at h2; cases h2

theorem MidF.wide {f : Flat} {a b : Nat} (h : MidF f a b) (ha : a ≤ 24) (hb : b ≤ 9) : MidF f 24 9 := ⟨Nat.le_trans h.places ha, Nat.le_trans h.named hb, h.names⟩

theorem MidF.lens {f : Flat} (h : MidF f 24 9) : LenF f := ⟨by have := h.places; omega, by have := h.named; omega, fun p hp => by have := h.names p hp; omega⟩

theorem putPairDD_ct (ps : List Pair) (p : Pair) (h : ps.length ≤ 1000) : ACalls pk 89 [.one (.fs (ps.map eP)), .agg (eP p)] [] (fun r o => r = .one (.fs ((spPair ps p).map eP)) ∧ o = []) :=
  (putPair_ct ps p h).told [] (by rintro r o ⟨rfl, rfl⟩; exact ⟨_, _, rfl, congrArg (fun x => T.one (C.fs x)) (takeAll eP _ _ rfl), rfl⟩)

theorem signatureCall_ct (bs : Str) (k : Int) (hb : bs.length ≤ 2000) (hk : 0 ≤ k) (hk' : k ≤ 1073600000) :
    ACalls pk 41 [.one (.op 0 0 0)] [oR bs k] (fun r o => ∃ s f k', SmallS s ∧ MidF f 24 9 ∧ k ≤ k' ∧ k' ≤ k + 400 ∧ r = .tup [.agg (eG s), .agg (eF f)] ∧ o = [oR bs k']) := by
  refine acalls_of_body Tryz.func41 rfl (by kernel_rfl) rfl ?_
  refine rn rfl ?_
  refine goal_step (step_callE [0] rfl rfl rfl rfl rfl rfl rfl (someSignature_ct bs k hb hk (by omega))) ?_
  rintro σ2 ⟨r, o', ⟨s, k1, hs, hk1, hk2, rfl, rfl⟩, hσ⟩
  obtain rfl := Option.some.inj hσ
  clear hσ
  have hsl := hs.len
  have hsn : ∀ p ∈ s, p.name.length ≤ 9223372036854775807 := fun p hp => by have := hs.names p hp; omega
  refine rn rfl ?_
  refine goal_step (step_callE [0] rfl rfl rfl rfl rfl rfl (rfl) (pick_ct bs k1 5 hb (by omega) (by omega) (by omega))) ?_
  rintro σ2 ⟨r, o', ⟨⟨z, rfl, _, _⟩, rfl⟩, hσ⟩
  obtain rfl := Option.some.inj hσ
  clear hσ
  refine rn rfl ?_
  refine goal_cond rfl (fun h1 => ?_) (fun h1 => ?_) <;> (try simp only [gt_iff_lt, ge_iff_le, bne_iff_ne, ne_eq, bne_eq_false_iff_eq, beq_iff_eq, beq_eq_false_iff_ne, Bool.not_eq_true', Bool.not_eq_false', decide_eq_true_eq, decide_eq_false_iff_not, List.length_map] at h1)
  · refine rn rfl ?_
    refine goal_draw' [3] 5 rfl ?_
    refine drn [0, 1] (by kernel_rfl) (by kernel_rfl) rfl rfl ?_
    refine AH_one (i := 2) (by kernel_rfl) (step_callE [0] rfl rfl rfl rfl rfl rfl (rfl) (someFlat_ct bs (k1 + 1) hb (by omega) (by omega))) (by simp) ?_
    rintro σ2 ⟨r, o', ⟨f, k2, hf, hk3, hk4, rfl, rfl⟩, hσ⟩
    obtain rfl := Option.some.inj hσ
    clear hσ
    refine AH_oneDid 3 rfl (by kernel_rfl) rfl (dA_step rfl) (mdOk rfl) ?_
    refine AH_oneDid 4 rfl (by kernel_rfl) rfl (dA_step rfl) (mdOk rfl) ?_
    refine AH_end (by kernel_rfl) ?_
    refine rn rfl ?_
    exact rn rfl (fin_is [] rfl ⟨s, f, k2, hs, ⟨Nat.le_trans hf.places (by omega), Nat.le_trans hf.named (by omega), hf.names⟩, by omega, by omega, rfl, rfl⟩)
  refine rt 5 rfl ?_
  refine goal_cutR (fun σ' => σ' = ⟨[(4, .one (.op 3 0 0)), (3, .one (.op 2 0 0)), (2, .one (.op 1 0 0)), (0, .one (.op 0 0 0))], [oR bs (k1 + 1), some ⟨1, [[.fs []]], false, false, true⟩, some ⟨2, [[.fs [], .fs []]], false, false, true⟩, some ⟨1, [eG s], false, false, true⟩], []⟩) ?_ ?_
  · refine rn rfl ?_
    refine goal_cond rfl (fun h2 => ?_) (fun h2 => ?_) <;> (try simp only [gt_iff_lt, ge_iff_le, bne_iff_ne, ne_eq, bne_eq_false_iff_eq, beq_iff_eq, beq_eq_false_iff_ne, Bool.not_eq_true', Bool.not_eq_false', decide_eq_true_eq, decide_eq_false_iff_not, List.length_map] at h2)
    · refine rn rfl ?_
      refine goal_step (step_call [] rfl rfl rfl rfl rfl rfl (svalidSig_ct s (by omega) hsn)) ?_
      rintro σ2 ⟨r, o', ⟨rfl, rfl⟩, hσ⟩
      obtain rfl := Option.some.inj hσ
      clear hσ
      refine rn rfl ?_
      refine goal_cond rfl (fun h3 => ?_) (fun h3 => ?_) <;> (try simp only [gt_iff_lt, ge_iff_le, bne_iff_ne, ne_eq, bne_eq_false_iff_eq, beq_iff_eq, beq_eq_false_iff_ne, Bool.not_eq_true', Bool.not_eq_false', decide_eq_true_eq, decide_eq_false_iff_not, List.length_map] at h3)
      · have hok := okSig_iff.1 h3
        refine rn rfl ?_
        refine goal_step (step_callE [0] rfl rfl rfl rfl rfl rfl rfl (callFor_ct bs (k1 + 1) s hok hb (by omega) (by omega))) ?_
        rintro σ2 ⟨r, o', ⟨f, k3, hf, hk5, hk6, rfl, rfl⟩, hσ⟩
        obtain rfl := Option.some.inj hσ
        clear hσ
        have hf2 := hf.named
        refine rn rfl ?_
        refine goal_drawL [3, 4] [9] 10 rfl ?_
        refine drnL [0, 1, 2, 4] (by kernel_rfl) (by kernel_rfl) rfl rfl ?_
        refine AHL_one (i := 3) (by kernel_rfl) rfl (step_callE [0] rfl rfl rfl rfl rfl rfl (rfl) (aName_ct bs k3 hb (by omega) (by omega))) (by simp) ?_
        rintro σ2 ⟨r, o', ⟨⟨nm, hnm, rfl⟩, rfl⟩, hσ⟩
        obtain rfl := Option.some.inj hσ
        clear hσ
        refine AHL_one (i := 5) (by kernel_rfl) rfl (step_callE [0] rfl rfl rfl rfl rfl rfl (rfl) (aNumber_ct bs (k3 + 1) hb (by omega) (by omega))) (by simp) ?_
        rintro σ2 ⟨r, o', ⟨⟨w, _, _, rfl⟩, rfl⟩, hσ⟩
        obtain rfl := Option.some.inj hσ
        clear hσ
        refine drnL [6] (by kernel_rfl) (by kernel_rfl) rfl rfl ?_
        refine AHL_one (i := 7) (by kernel_rfl) rfl (step_call [] rfl rfl rfl rfl rfl rfl (putPairDD_ct f.named ⟨nm, w⟩ (by omega))) (by simp) ?_
        rintro σ2 ⟨r, o', ⟨rfl, rfl⟩, hσ⟩
        obtain rfl := Option.some.inj hσ
        clear hσ
        refine drnL [8] (by kernel_rfl) (by kernel_rfl) rfl rfl ?_
        refine AHL_lateDid 9 rfl (by kernel_rfl) rfl rfl (dA_step rfl) ?_
        refine AH_end (by kernel_rfl) ?_
        refine rn rfl ?_
        refine rn rfl ?_
        refine goal_draw' [3, 4] 4 rfl ?_
        refine drn [0, 1] (by kernel_rfl) (by kernel_rfl) rfl rfl ?_
        refine AH_oneDid 2 rfl (by kernel_rfl) rfl (dA_step rfl) (mdOk rfl) ?_
        refine AH_oneDid 3 rfl (by kernel_rfl) rfl (dA_step rfl) (mdOk rfl) ?_
        refine AH_end (by kernel_rfl) ?_
        refine rn rfl ?_
        have hpl : (spPair f.named ⟨nm, w⟩).length ≤ f.named.length + 1 := by rw [spPair_eq]; exact putP_length _ _ _
        refine rn rfl (cut_ret ?_)
        refine fin_is [] rfl ⟨s, ⟨f.places, spPair f.named ⟨nm, w⟩⟩, k3 + 1 + 1, hs, ⟨hf.places, Nat.le_trans hpl (by omega), fun r hr => ?_⟩, by omega, by omega, rfl, rfl⟩
        rw [spPair_eq] at hr
        rcases putP_mem hr with h | ⟨q, hq, h⟩
        · rw [h]; exact hnm
        · rw [h]; exact hf.names q hq
      · refine rn rfl ?_
        exact cut_nrm [4, 3, 2, 0] [1, 2, 3] rfl rfl
    · refine rn rfl ?_
      exact cut_nrm [4, 3, 2, 0] [1, 2, 3] rfl rfl
  rintro _ rfl
  refine rn rfl ?_
  refine goal_step (step_call [] rfl rfl rfl rfl rfl rfl (svalidSig_ct s (by omega) hsn)) ?_
  rintro σ2 ⟨r, o', ⟨rfl, rfl⟩, hσ⟩
  obtain rfl := Option.some.inj hσ
  clear hσ
  refine rn rfl ?_
  refine goal_cond rfl (fun h3 => ?_) (fun h3 => ?_) <;> (try simp only [gt_iff_lt, ge_iff_le, bne_iff_ne, ne_eq, bne_eq_false_iff_eq, beq_iff_eq, beq_eq_false_iff_ne, Bool.not_eq_true', Bool.not_eq_false', decide_eq_true_eq, decide_eq_false_iff_not, List.length_map] at h3)
  · have hok := okSig_iff.1 h3
    refine rn rfl ?_
    refine goal_draw' [3] 6 rfl ?_
    refine drn [0, 1, 2] (by kernel_rfl) (by kernel_rfl) rfl rfl ?_
    refine AH_one (i := 3) (by kernel_rfl) (step_callE [0] rfl rfl rfl rfl rfl rfl (rfl) (callFor_ct bs (k1 + 1) s hok hb (by omega) (by omega))) (by simp) ?_
    rintro σ2 ⟨r, o', ⟨f, k3, hf, hk5, hk6, rfl, rfl⟩, hσ⟩
    obtain rfl := Option.some.inj hσ
    clear hσ
    refine AH_oneDid 4 rfl (by kernel_rfl) rfl (dA_step rfl) (mdOk rfl) ?_
    refine AH_oneDid 5 rfl (by kernel_rfl) rfl (dA_step rfl) (mdOk rfl) ?_
    refine AH_end (by kernel_rfl) ?_
    refine rn rfl ?_
    exact rn rfl (fin_is [] rfl ⟨s, f, k3, hs, hf.wide (by omega) (by omega), by omega, by omega, rfl, rfl⟩)
  · refine rn rfl ?_
    refine goal_draw' [3] 5 rfl ?_
    refine drn [0, 1] (by kernel_rfl) (by kernel_rfl) rfl rfl ?_
    refine AH_one (i := 2) (by kernel_rfl) (step_callE [0] rfl rfl rfl rfl rfl rfl (rfl) (goodFlat_ct bs (k1 + 1) hb (by omega) (by omega))) (by simp) ?_
    rintro σ2 ⟨r, o', ⟨f, k3, hf, hk5, hk6, rfl, rfl⟩, hσ⟩
    obtain rfl := Option.some.inj hσ
    clear hσ
    refine AH_oneDid 3 rfl (by kernel_rfl) rfl (dA_step rfl) (mdOk rfl) ?_
    refine AH_oneDid 4 rfl (by kernel_rfl) rfl (dA_step rfl) (mdOk rfl) ?_
    refine AH_end (by kernel_rfl) ?_
    refine rn rfl ?_
    refine rn rfl (fin_is [] rfl ⟨s, f, k3, hs, ⟨Nat.le_trans hf.places (by omega), Nat.le_trans hf.named (by omega), hf.names⟩, by omega, by omega, ?_, rfl⟩)
    rw [takeAll eI _ _ rfl, takeAll eP _ _ rfl]; rfl

def fill1 (p : Param) (x : Slot) : Slot := if singleQ p && !x.given then ⟨true, [p.dflt], []⟩ else x

def fillQ (s : Sig) (b : Bnds) : Bnds := List.zipWith fill1 s b

theorem fillQ_len {s : Sig} {b : Bnds} (h : b.length = s.length) : (fillQ s b).length = s.length := by simp [fillQ, h]

theorem fillQ_at {s : Sig} {b : Bnds} {i : Nat} {p : Param} {x : Slot} (hp : s[i]? = some p) (hx : b[i]? = some x) : (fillQ s b)[i]? = some (fill1 p x) := by
  simp [fillQ, List.getElem?_zipWith, hp, hx]

def rowsAt (A : List Slot) (k : Nat) : List (List C) := A.map eL ++ nilRows k

theorem rowsAt_nil {A : List Slot} {k i : Nat} (h : i = A.length) : (rowsAt A (k + 1))[i]? = some nilRow := by
  subst h
  simp [rowsAt, nilRows, List.replicate_succ]

theorem rowsAt_set {A : List Slot} {k i : Nat} (x : Slot) (h : i = A.length) : (rowsAt A (k + 1)).set i (eL x) = rowsAt (A ++ [x]) k := by
  subst h
  have h1 : ∀ (l r : List (List C)) (z : List C), (l ++ nilRow :: r).set l.length z = l ++ z :: r := by intro l r z; simp
  have h2 := h1 (A.map eL) (nilRows k) (eL x)
  rw [List.length_map] at h2
  unfold rowsAt
  have h3 : nilRows (k + 1) = nilRow :: nilRows k := by simp [nilRows, List.replicate_succ]
  rw [h3, h2]; simp

theorem rowsAt_last {A : List Slot} {k i : Nat} (x : Slot) (h : i = A.length) : (rowsAt (A ++ [x]) k)[i]? = some (eL x) := by
  subst h
  simp [rowsAt]

theorem rowsAt_reset {A : List Slot} {k i : Nat} (x y : Slot) (h : i = A.length) : (rowsAt (A ++ [x]) k).set i (eL y) = rowsAt (A ++ [y]) k := by
  subst h
  have h1 : ∀ (l r : List (List C)) (w z : List C), (l ++ w :: r).set l.length z = l ++ z :: r := by intro l r w z; simp
  have h2 := h1 (A.map eL) (nilRows k) (eL x) (eL y)
  rw [List.length_map] at h2
  unfold rowsAt
  simp only [List.map_append, List.map_cons, List.map_nil, List.append_assoc, List.cons_append, List.nil_append]
  exact h2

theorem rowsAt_noOwn (A : List Slot) (k : Nat) : noOwnR (rowsAt A k) = true := by
  rw [noOwnR_mem]
  intro r hr
  unfold rowsAt nilRows at hr
  rcases List.mem_append.1 hr with h | h
  · obtain ⟨x, _, rfl⟩ := List.mem_map.1 h
    exact eL_noOwn x
  · rw [(List.mem_replicate.1 h).2]; rfl

def oRowsC (rows : List (List C)) : Option AObj := some ⟨3, rows, true, false, false⟩

theorem clonI_d (xs : List Int) (hl : xs.length ≤ 16777216) : ACalls pk 104 [.one (.fs (xs.map eI))] [] (fun r o => r = .one (.fs (xs.map eI)) ∧ o = []) :=
  (clonInt_ct xs hl).told [] (by rintro r o ⟨rfl, rfl⟩; exact ⟨_, _, rfl, congrArg (fun x => T.one (C.fs x)) (takeAll eI _ _ rfl), rfl⟩)

theorem clonP_d (xs : List Pair) (hl : xs.length ≤ 16777216) : ACalls pk 105 [.one (.fs (xs.map eP))] [] (fun r o => r = .one (.fs (xs.map eP)) ∧ o = []) :=
  (clonPair_ct xs hl).told [] (by rintro r o ⟨rfl, rfl⟩; exact ⟨_, _, rfl, congrArg (fun x => T.one (C.fs x)) (takeAll eP _ _ rfl), rfl⟩)

theorem ifill_ct (s : Sig) (b : Bnds) (hlen : b.length = s.length) (few : s.length ≤ 8) (hsz : ∀ x ∈ b, x.list.length ≤ 16777216 ∧ x.pairs.length ≤ 16777216) :
    ACalls pk 50 [.agg (eG s), .agg (eBi b)] [] (fun r o => r = .agg (eBi (fillQ s b)) ∧ o = []) := by
  have hfl := fillQ_len hlen
  refine acalls_of_body Tryz.func50 rfl (by kernel_rfl) rfl ?_
  refine rn rfl ?_
  refine goal_did rfl rfl (dA_make b.length (nilRows b.length) rfl rfl rfl (by simp) (by simp) rfl rfl rfl rfl rfl (by show 56 * b.length ≤ _; omega) (by omega) rfl) ?_
  refine rn rfl ?_
  refine rn rfl ?_
  refine goal_loop_keep (fun m σ => ∃ (q L : Int) (i : Nat), q = i ∧ L = b.length ∧ i ≤ b.length ∧ m = b.length - i ∧
      σ = ⟨[(17, .one (.int .i64 q)), (16, .one (.int .i64 L)), (15, .one (.fs (b.map eL))), (5, .one (.op 3 0 0)), (4, .one (.op 1 0 0)), (2, .one (.op 0 0 0))],
        [some ⟨1, [eG s], false, false, true⟩, some ⟨1, [[.fs []]], false, false, true⟩, oRowsC (rowsAt ((fillQ s b).take i) (b.length - i)), some ⟨1, [[.os 2 0 b.length b.length]], false, false, true⟩], []⟩) b.length [17, 16, 15, 5, 4, 2] [0, 2, 3, 4] rfl
    ⟨_, _, 0, rfl, by simp, by omega, by omega, rfl⟩ ?_
  rintro m σ ⟨q, L, i, rfl, rfl, hi, rfl, rfl⟩
  refine rn rfl ?_
  refine goal_cond rfl (fun h => ?_) (fun h => ?_) <;> (try simp only [gt_iff_lt, ge_iff_le, bne_iff_ne, ne_eq, bne_eq_false_iff_eq, beq_iff_eq, beq_eq_false_iff_ne, Bool.not_eq_true', Bool.not_eq_false', decide_eq_true_eq, decide_eq_false_iff_not, List.length_map] at h)
  · obtain ⟨x, hx⟩ := at_some (xs := b) (i := i) (by omega)
    obtain ⟨p, hp⟩ := at_some (xs := s) (i := i) (by omega)
    obtain ⟨l1, l2⟩ := hsz x (List.mem_of_getElem? hx)
    have hfa := fillQ_at hp hx
    have hA : i = ((fillQ s b).take i).length := by rw [List.length_take, hfl]; omega
    have hk : b.length - i = b.length - (i + 1) + 1 := by omega
    have hnx := take_snoc hfa
    rw [hk]
    generalize (fillQ s b).take i = A at *
    refine rn rfl ?_
    refine goal_did rfl rfl (dA_index (eL x) rfl rfl rfl rfl rfl rfl rfl (by omega) (by (try simp); omega) (map_at (by simpa using hx)) rfl) ?_
    refine rn rfl ?_
    refine goal_draw' [3, 4] 14 rfl ?_
    refine drn [0, 1, 2, 3, 4, 5, 6, 8, 9] (by kernel_rfl) (by kernel_rfl) rfl rfl ?_
    refine AH_one (i := 7) (by kernel_rfl) (step_call [] rfl rfl rfl rfl rfl rfl (clonI_d x.list (by omega))) (by simp) ?_
    rintro σ2 ⟨r, o', ⟨rfl, rfl⟩, hσ⟩
    obtain rfl := Option.some.inj hσ
    clear hσ
    refine AH_one (i := 10) (by kernel_rfl) (step_call [] rfl rfl rfl rfl rfl rfl (clonP_d x.pairs (by omega))) (by simp) ?_
    rintro σ2 ⟨r, o', ⟨rfl, rfl⟩, hσ⟩
    obtain rfl := Option.some.inj hσ
    clear hσ
    refine drn [11] (by kernel_rfl) (by kernel_rfl) rfl rfl ?_
    refine AH_did 12 rfl (by kernel_rfl) (by kernel_rfl) (by kernel_rfl) rfl rfl (dA_indexOwn rfl rfl rfl rfl rfl rfl rfl rfl rfl (by omega) (by (try simp); omega)) ?_
    refine AH_oneDid 13 rfl (by kernel_rfl) rfl (dA_storeEl nilRow (rowsAt (A ++ [x]) (b.length - (i + 1))) true rfl rfl rfl rfl rfl (by rw [show 0 + (i : Int).toNat = i by simp]; exact rowsAt_nil hA) rfl rfl (by simp [nilRow]) (by rw [show 0 + (i : Int).toNat = i by simp]; exact (rowsAt_set x hA).symm) (fun _ => rowsAt_noOwn _ _)) (mdOk rfl) ?_
    refine AH_end (by kernel_rfl) ?_
    refine rn rfl ?_
    refine rn rfl ?_
    refine goal_did rfl rfl (dA_index (eQ p) rfl rfl rfl rfl rfl rfl rfl (by omega) (by (try simp); omega) (map_at (by simpa using hp)) rfl) ?_
    refine rn rfl ?_
    refine goal_step (step_call [] rfl rfl rfl rfl rfl rfl (isingle_ct p)) ?_
    rintro σ2 ⟨r, o', ⟨rfl, rfl⟩, hσ⟩
    obtain rfl := Option.some.inj hσ
    clear hσ
    refine rn rfl ?_
    refine goal_guard rfl rfl rfl (fun h1 => ?_) (fun h1 => ?_) <;> (try simp only [gt_iff_lt, ge_iff_le, bne_iff_ne, ne_eq, bne_eq_false_iff_eq, beq_iff_eq, beq_eq_false_iff_ne, Bool.not_eq_true', Bool.not_eq_false', decide_eq_true_eq, decide_eq_false_iff_not, List.length_map] at h1)
    · refine rn rfl ?_
      refine goal_cond rfl (fun h2 => ?_) (fun h2 => ?_) <;> (try simp only [gt_iff_lt, ge_iff_le, bne_iff_ne, ne_eq, bne_eq_false_iff_eq, beq_iff_eq, beq_eq_false_iff_ne, Bool.not_eq_true', Bool.not_eq_false', decide_eq_true_eq, decide_eq_false_iff_not, List.length_map] at h2)
      · have hf1 : fill1 p x = ⟨true, [p.dflt], []⟩ := by simp [fill1, h1, h2]
        rw [hf1] at hnx
        refine rn rfl ?_
        refine goal_data 53 [6] (y := .agg (eL ⟨true, [p.dflt], []⟩)) rfl rfl rfl ?_
        refine goal_did rfl rfl (dA_indexOwn rfl rfl rfl rfl rfl rfl rfl rfl rfl (by omega) (by (try simp); omega)) ?_
        refine goal_did rfl rfl (dA_storeEl (eL x) (rowsAt (A ++ [⟨true, [p.dflt], []⟩]) (b.length - (i + 1))) true rfl rfl rfl rfl rfl (by rw [show 0 + (i : Int).toNat = i by simp]; exact rowsAt_last x hA) rfl rfl (by simp [eL]) (by rw [show 0 + (i : Int).toNat = i by simp]; exact (rowsAt_reset x _ hA).symm) (fun _ => rowsAt_noOwn _ _)) ?_
        refine rn rfl ?_
        rw [hnx]
        refine round_keep (b.length - (i + 1)) [17, 16, 15, 5, 4, 2] [0, 1, 2, 3] (by omega) rfl ⟨_, _, i + 1, wrap64 (by omega) (by omega), rfl, by omega, rfl, rfl⟩
      · have hf1 : fill1 p x = x := by simp [fill1, h2]
        rw [hf1] at hnx
        refine rn rfl ?_
        rw [hnx]
        refine round_keep (b.length - (i + 1)) [17, 16, 15, 5, 4, 2] [0, 1, 2, 3] (by omega) rfl ⟨_, _, i + 1, wrap64 (by omega) (by omega), rfl, by omega, rfl, rfl⟩
    · have hf1 : fill1 p x = x := by simp [fill1, h1]
      rw [hf1] at hnx
      refine rn rfl ?_
      rw [hnx]
      refine round_keep (b.length - (i + 1)) [17, 16, 15, 5, 4, 2] [0, 1, 2, 3] (by omega) rfl ⟨_, _, i + 1, wrap64 (by omega) (by omega), rfl, by omega, rfl, rfl⟩
  · refine rn rfl (round_ext ?_)
    have hfin : rowsAt ((fillQ s b).take i) (b.length - i) = (fillQ s b).map eL := by
      rw [show b.length - i = 0 by omega, List.take_of_length_le (by rw [hfl]; omega)]
      simp [rowsAt, nilRows]
    rw [hfin]
    refine rn rfl (fin_is [] rfl ⟨?_, rfl⟩)
    rw [takeAll eL _ _ (by rw [hfl, hlen])]; rfl

def SEff (s : Sig) (f g : Flat) : Bool := (BindQ s f).2 && (BindQ s g).2 && sameB (fillQ s (BindQ s f).1) (fillQ s (BindQ s g).1)

theorem bindQ_ok {s : Sig} {f : Flat} (h : (BindQ s f).2 = true) : OkS s ∧ OkF f ∧ accQ s f = true ∧ BindQ s f = ((boundQ s f).1, true) := by
  unfold BindQ at h ⊢
  split at h
  · rename_i h1
    have h2 := h1
    simp only [Bool.and_eq_true] at h2
    obtain ⟨hs, hf⟩ := fitQ_iff.1 h2.1
    exact ⟨hs, hf, h2.2, by rw [if_pos h1]⟩
  · cases h

theorem fill1_small {p : Param} {x : Slot} (h : x.list.length ≤ 8 ∧ x.pairs.length ≤ 8) : SmallL (fill1 p x) := by
  unfold fill1
  split
  · exact ⟨by simp, by simp⟩
  · exact small_of h

theorem fillQ_small {s : Sig} {b : Bnds} (h : ∀ x ∈ b, x.list.length ≤ 8 ∧ x.pairs.length ≤ 8) : ∀ x ∈ fillQ s b, SmallL x := by
  intro x hx
  unfold fillQ at hx
  obtain ⟨i, hi⟩ := List.getElem?_of_mem hx
  rw [List.getElem?_zipWith] at hi
  cases hp : s[i]? with
  | none => rw [hp] at hi; simp at hi
  | some p =>
    cases hy : b[i]? with
    | none => rw [hp, hy] at hi; simp at hi
    | some y =>
      rw [hp, hy] at hi
      simp only [Option.some.injEq] at hi
      rw [← hi]
      exact fill1_small (h y (List.mem_of_getElem? hy))

theorem isameEffect_ct (s : Sig) (f g : Flat) (hs : LenS s) (hf : LenF f) (hg : LenF g) : ACalls pk 14 [.agg (eG s), .agg (eF f), .agg (eF g)] [] (fun r o => r = .one (.bool (SEff s f g)) ∧ o = []) := by
  have hA := iBindD_ct s f hs hf
  have hB := iBindD_ct s g hs hg
  refine acalls_of_body Tryz.func14 rfl (by kernel_rfl) rfl ?_
  refine rn rfl ?_
  refine goal_step (step_call [] rfl rfl rfl rfl rfl rfl (hA)) ?_
  rintro σ2 ⟨r, o', ⟨rfl, rfl⟩, hσ⟩
  obtain rfl := Option.some.inj hσ
  clear hσ
  refine rn rfl ?_
  refine rn rfl ?_
  refine goal_step (step_call [] rfl rfl rfl rfl rfl rfl (hB)) ?_
  rintro σ2 ⟨r, o', ⟨rfl, rfl⟩, hσ⟩
  obtain rfl := Option.some.inj hσ
  clear hσ
  refine rn rfl ?_
  refine goal_draw' [0, 3, 4] 14 rfl ?_
  refine drn [0, 1] (by kernel_rfl) (by kernel_rfl) rfl rfl ?_
  refine AH_guard (i := 2) rfl rfl rfl (fun h1 => ?_) (fun h1 => ?_) <;> (try simp only [gt_iff_lt, ge_iff_le, bne_iff_ne, ne_eq, bne_eq_false_iff_eq, beq_iff_eq, beq_eq_false_iff_ne, Bool.not_eq_true', Bool.not_eq_false', decide_eq_true_eq, decide_eq_false_iff_not, List.length_map] at h1)
  · refine drn [2, 3, 4] (by kernel_rfl) (by kernel_rfl) rfl rfl ?_
    refine AH_guard (i := 5) rfl rfl rfl (fun h2 => ?_) (fun h2 => ?_) <;> (try simp only [gt_iff_lt, ge_iff_le, bne_iff_ne, ne_eq, bne_eq_false_iff_eq, beq_iff_eq, beq_eq_false_iff_ne, Bool.not_eq_true', Bool.not_eq_false', decide_eq_true_eq, decide_eq_false_iff_not, List.length_map] at h2)
    · have e1 : (BindQ s f).2 = true := h1
      have e2 : (BindQ s g).2 = true := h2
      obtain ⟨s1, f1, _, eqf⟩ := bindQ_ok e1
      obtain ⟨_, g1, _, eqg⟩ := bindQ_ok e2
      obtain ⟨a1, a2⟩ := bound_small s1 f1
      obtain ⟨b1, b2⟩ := bound_small s1 g1
      have hl1 := boundQ_len s f
      have hl2 := boundQ_len s g
      have hsl := s1.len
      have hz : SEff s f g = sameB (fillQ s (boundQ s f).1) (fillQ s (boundQ s g).1) := by unfold SEff; rw [eqf, eqg]; simp
      have hF1 := ifill_ct s (boundQ s f).1 hl1 hsl (fun x hx => ⟨by have := (a2 x hx).1; omega, by have := (a2 x hx).2; omega⟩)
      have hF2 := ifill_ct s (boundQ s g).1 hl2 hsl (fun x hx => ⟨by have := (b2 x hx).1; omega, by have := (b2 x hx).2; omega⟩)
      have hSm := isameB_ct (fillQ s (boundQ s f).1) (fillQ s (boundQ s g).1) (by rw [fillQ_len hl1]; omega) (fillQ_small a2) (fillQ_small b2)
      rw [hz, eqf, eqg]
      refine drn [5, 6, 8, 9] (by kernel_rfl) (by kernel_rfl) rfl rfl ?_
      refine AH_one (i := 7) (by kernel_rfl) (step_call [] rfl rfl rfl rfl rfl rfl (hF1)) (by simp) ?_
      rintro σ2 ⟨r, o', ⟨rfl, rfl⟩, hσ⟩
      obtain rfl := Option.some.inj hσ
      clear hσ
      refine AH_one (i := 10) (by kernel_rfl) (step_call [] rfl rfl rfl rfl rfl rfl (hF2)) (by simp) ?_
      rintro σ2 ⟨r, o', ⟨rfl, rfl⟩, hσ⟩
      obtain rfl := Option.some.inj hσ
      clear hσ
      refine AH_one (i := 11) (by kernel_rfl) (step_call [] rfl rfl rfl rfl rfl rfl (hSm)) (by simp) ?_
      rintro σ2 ⟨r, o', ⟨rfl, rfl⟩, hσ⟩
      obtain rfl := Option.some.inj hσ
      clear hσ
      refine drn [12, 13] (by kernel_rfl) (by kernel_rfl) rfl rfl ?_
      refine AH_end (by kernel_rfl) ?_
      refine rn rfl ?_
      exact rn rfl (fin_is [] rfl ⟨rfl, rfl⟩)
    · refine drn [5, 6, 7, 8, 9, 10, 11, 12, 13] (by kernel_rfl) (by kernel_rfl) rfl rfl ?_
      refine AH_end (by kernel_rfl) ?_
      refine rn rfl ?_
      refine rn rfl (fin_is [] rfl ⟨?_, rfl⟩)
      simp [SEff, h2]
  · refine drn [2, 3, 4, 5, 6, 7, 8, 9, 10, 11, 12, 13] (by kernel_rfl) (by kernel_rfl) rfl rfl ?_
    refine AH_end (by kernel_rfl) ?_
    refine rn rfl ?_
    refine rn rfl (fin_is [] rfl ⟨?_, rfl⟩)
    simp [SEff, h1]

theorem iunbindD_ct (s : Sig) (b : Bnds) (h : OkB s b) : ACalls pk 44 [.agg (eG s), .agg (eBi b)] [] (fun r o => r = .agg (eF (unbQ s b)) ∧ o = []) :=
  (iunbind_ct s b h).told [] (by rintro r o ⟨rfl, rfl⟩; exact ⟨_, _, rfl, asFl _, rfl⟩)

theorem sunbound_ct (s : Sig) (b : Bnds) (h : OkB s b) : ACalls pk 46 [.agg (eG s), .agg (eBi b)] [] (fun r o => r = .agg (eF (unbQ s b)) ∧ o = []) := by
  have hlen := h.len
  have hfew := h.few
  have hzl : (s.zip b).length = s.length := by simp [hlen]
  refine acalls_of_body Tryz.func46 rfl (by kernel_rfl) rfl ?_
  refine rn rfl ?_
  refine goal_loop_keep (fun m σ => ∃ (q : Int) (i l1 l2 : Nat) (ob : Bool) (F : Flat), q = i ∧ i ≤ s.length ∧ m = s.length - i ∧ l1 = F.places.length ∧ l2 = F.named.length ∧ (F, ob) = ((s.zip b).take i).foldl stU (zF, true) ∧
      σ = ⟨[(7, .one (.int .i64 q)), (6, .one (.bool ob)), (5, .one (.op 3 0 0)), (4, .one (.op 2 0 0)), (3, .one (.op 1 0 0)), (2, .one (.op 0 0 0))],
        [some ⟨1, [eG s], false, false, true⟩, some ⟨1, [eBi b], false, false, true⟩, some ⟨2, [[.fs [], .fs []]], false, false, true⟩, some ⟨2, [[.os 4 0 l1 l1, .os 5 0 l2 l2]], false, false, true⟩, ownI F.places, ownP F.named], []⟩) s.length [7, 6, 5, 4, 3, 2] [0, 1, 2, 5, 3, 4] rfl
    ⟨_, 0, 0, 0, _, zF, rfl, by omega, by omega, rfl, rfl, rfl, rfl⟩ ?_
  rintro m σ ⟨q, i, l1, l2, ob, F, rfl, hi, rfl, rfl, rfl, hF, rfl⟩
  have hln := unb_len b h.size ((s.zip b).take i) (zF, true) (fun z hz => by
    have := List.mem_of_mem_take hz
    exact (List.of_mem_zip this).2)
  rw [← hF] at hln
  simp only [List.length_take, hzl, zF, List.length_nil] at hln
  refine rn rfl ?_
  refine goal_cond rfl (fun hc => ?_) (fun hc => ?_) <;> (try simp only [gt_iff_lt, ge_iff_le, bne_iff_ne, ne_eq, bne_eq_false_iff_eq, beq_iff_eq, beq_eq_false_iff_ne, Bool.not_eq_true', Bool.not_eq_false', decide_eq_true_eq, decide_eq_false_iff_not, List.length_map] at hc)
  · obtain ⟨p, hp⟩ := at_some (xs := s) (i := i) (by omega)
    obtain ⟨x, hx⟩ := at_some (xs := b) (i := i) (by omega)
    have hsz := h.size x (List.mem_of_getElem? hx)
    have hz : (s.zip b)[i]? = some (p, x) := by rw [List.getElem?_zip_eq_some]; exact ⟨hp, hx⟩
    have hst : ((s.zip b).take (i + 1)).foldl stU (zF, true) = stU (F, ob) (p, x) := by rw [foldl_take_succ _ _ hz, ← hF]
    have hone := h.one i p x hp hx
    have hk := h.kinds p (List.mem_of_getElem? hp)
    refine rn rfl ?_
    refine goal_did rfl rfl (dA_index (eQ p) rfl rfl rfl rfl rfl rfl rfl (by omega) (by (try simp); omega) (map_at (by simpa using hp)) rfl) ?_
    refine rn rfl ?_
    refine goal_did rfl rfl (dA_index (eL x) rfl rfl rfl rfl rfl rfl rfl (by omega) (by (try simp); omega) (map_at (by simpa using hx)) rfl) ?_
    refine rn rfl ?_
    refine goal_cond rfl (fun h2 => ?_) (fun h2 => ?_) <;> (try simp only [gt_iff_lt, ge_iff_le, bne_iff_ne, ne_eq, bne_eq_false_iff_eq, beq_iff_eq, beq_eq_false_iff_ne, Bool.not_eq_true', Bool.not_eq_false', decide_eq_true_eq, decide_eq_false_iff_not, List.length_map] at h2)
    · refine rn rfl ?_
      refine goal_did rfl rfl (dA_append (old := (F.places).map eI) (rows := (x.list : List Int).map eI) (((F.places) ++ (x.list : List Int)).map eI) (F.places.length + x.list.length) true (Dst.own rfl rfl rfl rfl rfl (by first | (simp; done) | (simp; omega)) (whole (by first | (simp; done) | (simp; omega)))) (Src.fs rfl) rfl rfl rfl rfl rfl rfl rfl rfl (rows_len eI_len _) (rows_len eI_len _) (by (try simp only [List.length_map, List.length_append, List.length_cons, List.length_nil, List.length_take, List.length_drop]); show _ * 8 ≤ _; omega) (by first | (simp; done) | (simp; omega)) (by simp) (by first | (simp; done) | (simp; omega)) (fun _ => noOwnR_map _ eI_noOwn _)) ?_
      refine rn rfl ?_
      refine round_keep (s.length - (i + 1)) [7, 6, 5, 4, 3, 2] [0, 1, 2, 3, 8, 5] (by omega) rfl ⟨_, i + 1, F.places.length + x.list.length, F.named.length, ob, ⟨F.places ++ x.list, F.named⟩, wrap64 (by omega) (by omega), by omega, rfl, by simp, by simp, by rw [hst]; simp [stU, h2], rfl⟩
    · refine rn rfl ?_
      refine goal_cond rfl (fun h4 => ?_) (fun h4 => ?_) <;> (try simp only [gt_iff_lt, ge_iff_le, bne_iff_ne, ne_eq, bne_eq_false_iff_eq, beq_iff_eq, beq_eq_false_iff_ne, Bool.not_eq_true', Bool.not_eq_false', decide_eq_true_eq, decide_eq_false_iff_not, List.length_map] at h4)
      · refine rn rfl ?_
        refine goal_did rfl rfl (dA_append (old := (F.named).map eP) (rows := (x.pairs : List Pair).map eP) (((F.named) ++ (x.pairs : List Pair)).map eP) (F.named.length + x.pairs.length) true (Dst.own rfl rfl rfl rfl rfl (by first | (simp; done) | (simp; omega)) (whole (by first | (simp; done) | (simp; omega)))) (Src.fs rfl) rfl rfl rfl rfl rfl rfl rfl rfl (rows_len eP_len _) (rows_len eP_len _) (by (try simp only [List.length_map, List.length_append, List.length_cons, List.length_nil, List.length_take, List.length_drop]); show _ * 24 ≤ _; omega) (by first | (simp; done) | (simp; omega)) (by simp) (by first | (simp; done) | (simp; omega)) (fun _ => noOwnR_map _ eP_noOwn _)) ?_
        refine rn rfl ?_
        refine round_keep (s.length - (i + 1)) [7, 6, 5, 4, 3, 2] [0, 1, 2, 3, 4, 8] (by omega) rfl ⟨_, i + 1, F.places.length, F.named.length + x.pairs.length, ob, ⟨F.places, F.named ++ x.pairs⟩, wrap64 (by omega) (by omega), by omega, rfl, by simp, by simp, by rw [hst]; simp [stU, h4], rfl⟩
      · have hsg : singleQ p = true := by rw [single_kind]; omega
        refine rn rfl ?_
        refine goal_cond rfl (fun hg => ?_) (fun hg => ?_) <;> (try simp only [gt_iff_lt, ge_iff_le, bne_iff_ne, ne_eq, bne_eq_false_iff_eq, beq_iff_eq, beq_eq_false_iff_ne, Bool.not_eq_true', Bool.not_eq_false', decide_eq_true_eq, decide_eq_false_iff_not, List.length_map] at hg)
        · refine rn rfl ?_
          refine goal_guard rfl rfl rfl (fun ho => ?_) (fun ho => ?_) <;> (try simp only [gt_iff_lt, ge_iff_le, bne_iff_ne, ne_eq, bne_eq_false_iff_eq, beq_iff_eq, beq_eq_false_iff_ne, Bool.not_eq_true', Bool.not_eq_false', decide_eq_true_eq, decide_eq_false_iff_not, List.length_map] at ho)
          · refine rn rfl ?_
            refine goal_step (step_call [] rfl rfl rfl rfl rfl rfl (splaced_ct p)) ?_
            rintro σ2 ⟨r, o', ⟨rfl, rfl⟩, hσ⟩
            obtain rfl := Option.some.inj hσ
            clear hσ
            refine rn rfl ?_
            refine round_keep (s.length - (i + 1)) [7, 6, 5, 4, 3, 2] [0, 1, 2, 3, 4, 5] (by omega) rfl ⟨_, i + 1, F.places.length, F.named.length, !placedQ p, F, wrap64 (by omega) (by omega), by omega, rfl, by simp, by simp, by rw [hst]; simp [stU, h2, h4, hg, ho], rfl⟩
          · refine rn rfl ?_
            refine round_keep (s.length - (i + 1)) [7, 6, 5, 4, 3, 2] [0, 1, 2, 3, 4, 5] (by omega) rfl ⟨_, i + 1, F.places.length, F.named.length, false, F, wrap64 (by omega) (by omega), by omega, rfl, by simp, by simp, by rw [hst]; simp [stU, h2, h4, hg, ho], rfl⟩
        · obtain ⟨v, hv⟩ := hone hsg (by simpa using hg)
          have hg' : x.given = true := by simpa using hg
          refine rn rfl ?_
          refine goal_step (step_call [] rfl rfl rfl rfl rfl rfl (splaced_ct p)) ?_
          rintro σ2 ⟨r, o', ⟨rfl, rfl⟩, hσ⟩
          obtain rfl := Option.some.inj hσ
          clear hσ
          refine rn rfl ?_
          refine goal_guard rfl rfl rfl (fun hpl => ?_) (fun hpl => ?_) <;> (try simp only [gt_iff_lt, ge_iff_le, bne_iff_ne, ne_eq, bne_eq_false_iff_eq, beq_iff_eq, beq_eq_false_iff_ne, Bool.not_eq_true', Bool.not_eq_false', decide_eq_true_eq, decide_eq_false_iff_not, List.length_map] at hpl)
          · refine rn rfl ?_
            refine goal_cond rfl (fun ho => ?_) (fun ho => ?_) <;> (try simp only [gt_iff_lt, ge_iff_le, bne_iff_ne, ne_eq, bne_eq_false_iff_eq, beq_iff_eq, beq_eq_false_iff_ne, Bool.not_eq_true', Bool.not_eq_false', decide_eq_true_eq, decide_eq_false_iff_not, List.length_map] at ho)
            · refine rn rfl ?_
              refine goal_drawL [3, 7] [9] 10 rfl ?_
              refine drnL [0, 1, 2, 3] (by kernel_rfl) (by kernel_rfl) rfl rfl ?_
              refine AHL_did 4 rfl (by kernel_rfl) (by kernel_rfl) (by kernel_rfl) (by kernel_rfl) rfl rfl (dA_index (eI v) rfl rfl rfl rfl rfl rfl rfl (by omega) (by simp [hv]) (by simp [hv]) rfl) ?_
              refine drnL [5] (by kernel_rfl) (by kernel_rfl) rfl rfl ?_
              refine AHL_oneDid 6 rfl (by kernel_rfl) rfl rfl (dA_step rfl) (mdOk rfl) ?_
              refine AHL_oneDid 7 rfl (by kernel_rfl) rfl rfl (dA_append (old := (F.places).map eI) (rows := ([v] : List Int).map eI) (((F.places) ++ ([v] : List Int)).map eI) (F.places.length + 1) true (Dst.own rfl rfl rfl rfl rfl (by first | (simp; done) | (simp; omega)) (whole (by first | (simp; done) | (simp; omega)))) (Src.os rfl rfl (Nat.le_refl 1) rfl) rfl rfl rfl rfl rfl rfl rfl rfl (rows_len eI_len _) (rows_len eI_len _) (by (try simp only [List.length_map, List.length_append, List.length_cons, List.length_nil, List.length_take, List.length_drop]); show _ * 8 ≤ _; omega) (by first | (simp; done) | (simp; omega)) (by simp) (by first | (simp; done) | (simp; omega)) (fun _ => noOwnR_map _ eI_noOwn _)) (mdOk rfl) ?_
              refine drnL [8] (by kernel_rfl) (by kernel_rfl) rfl rfl ?_
              refine AHL_lateDid 9 rfl (by kernel_rfl) rfl rfl (dA_step rfl) ?_
              refine AH_end (by kernel_rfl) ?_
              refine rn rfl ?_
              refine round_keep (s.length - (i + 1)) [7, 6, 5, 4, 3, 2] [0, 1, 2, 3, 9, 5] (by omega) rfl ⟨_, i + 1, F.places.length + 1, F.named.length, ob, ⟨F.places ++ [v], F.named⟩, wrap64 (by omega) (by omega), by omega, rfl, by simp, by simp, by rw [hst]; simp [stU, h2, h4, hg', hpl, ho, hv, hd0], rfl⟩
            · refine rn rfl ?_
              refine goal_drawL [3, 6, 7] [12] 13 rfl ?_
              refine drnL [0, 1, 2, 3, 4, 5] (by kernel_rfl) (by kernel_rfl) rfl rfl ?_
              refine AHL_did 6 rfl (by kernel_rfl) (by kernel_rfl) (by kernel_rfl) (by kernel_rfl) rfl rfl (dA_index (eI v) rfl rfl rfl rfl rfl rfl rfl (by omega) (by simp [hv]) (by simp [hv]) rfl) ?_
              refine drnL [7, 8] (by kernel_rfl) (by kernel_rfl) rfl rfl ?_
              refine AHL_oneDid 9 rfl (by kernel_rfl) rfl rfl (dA_step rfl) (mdOk rfl) ?_
              refine AHL_oneDid 10 rfl (by kernel_rfl) rfl rfl (dA_append (old := (F.named).map eP) (rows := ([⟨p.name, v⟩] : List Pair).map eP) (((F.named) ++ ([⟨p.name, v⟩] : List Pair)).map eP) (F.named.length + 1) true (Dst.own rfl rfl rfl rfl rfl (by first | (simp; done) | (simp; omega)) (whole (by first | (simp; done) | (simp; omega)))) (Src.os rfl rfl (Nat.le_refl 1) rfl) rfl rfl rfl rfl rfl rfl rfl rfl (rows_len eP_len _) (rows_len eP_len _) (by (try simp only [List.length_map, List.length_append, List.length_cons, List.length_nil, List.length_take, List.length_drop]); show _ * 24 ≤ _; omega) (by first | (simp; done) | (simp; omega)) (by simp) (by first | (simp; done) | (simp; omega)) (fun _ => noOwnR_map _ eP_noOwn _)) (mdOk rfl) ?_
              refine drnL [11] (by kernel_rfl) (by kernel_rfl) rfl rfl ?_
              refine AHL_lateDid 12 rfl (by kernel_rfl) rfl rfl (dA_step rfl) ?_
              refine AH_end (by kernel_rfl) ?_
              refine rn rfl ?_
              refine round_keep (s.length - (i + 1)) [7, 6, 5, 4, 3, 2] [0, 1, 2, 3, 4, 9] (by omega) rfl ⟨_, i + 1, F.places.length, F.named.length + 1, ob, ⟨F.places, F.named ++ [⟨p.name, v⟩]⟩, wrap64 (by omega) (by omega), by omega, rfl, by simp, by simp, by rw [hst]; simp [stU, h2, h4, hg', hpl, ho, hv, hd0], rfl⟩
          · refine rn rfl ?_
            refine goal_drawL [3, 6, 7] [12] 13 rfl ?_
            refine drnL [0, 1, 2, 3, 4, 5] (by kernel_rfl) (by kernel_rfl) rfl rfl ?_
            refine AHL_did 6 rfl (by kernel_rfl) (by kernel_rfl) (by kernel_rfl) (by kernel_rfl) rfl rfl (dA_index (eI v) rfl rfl rfl rfl rfl rfl rfl (by omega) (by simp [hv]) (by simp [hv]) rfl) ?_
            refine drnL [7, 8] (by kernel_rfl) (by kernel_rfl) rfl rfl ?_
            refine AHL_oneDid 9 rfl (by kernel_rfl) rfl rfl (dA_step rfl) (mdOk rfl) ?_
            refine AHL_oneDid 10 rfl (by kernel_rfl) rfl rfl (dA_append (old := (F.named).map eP) (rows := ([⟨p.name, v⟩] : List Pair).map eP) (((F.named) ++ ([⟨p.name, v⟩] : List Pair)).map eP) (F.named.length + 1) true (Dst.own rfl rfl rfl rfl rfl (by first | (simp; done) | (simp; omega)) (whole (by first | (simp; done) | (simp; omega)))) (Src.os rfl rfl (Nat.le_refl 1) rfl) rfl rfl rfl rfl rfl rfl rfl rfl (rows_len eP_len _) (rows_len eP_len _) (by (try simp only [List.length_map, List.length_append, List.length_cons, List.length_nil, List.length_take, List.length_drop]); show _ * 24 ≤ _; omega) (by first | (simp; done) | (simp; omega)) (by simp) (by first | (simp; done) | (simp; omega)) (fun _ => noOwnR_map _ eP_noOwn _)) (mdOk rfl) ?_
            refine drnL [11] (by kernel_rfl) (by kernel_rfl) rfl rfl ?_
            refine AHL_lateDid 12 rfl (by kernel_rfl) rfl rfl (dA_step rfl) ?_
            refine AH_end (by kernel_rfl) ?_
            refine rn rfl ?_
            refine round_keep (s.length - (i + 1)) [7, 6, 5, 4, 3, 2] [0, 1, 2, 3, 4, 9] (by omega) rfl ⟨_, i + 1, F.places.length, F.named.length + 1, ob, ⟨F.places, F.named ++ [⟨p.name, v⟩]⟩, wrap64 (by omega) (by omega), by omega, rfl, by simp, by simp, by rw [hst]; simp [stU, h2, h4, hg', hpl, hv, hd0], rfl⟩
  · refine rn rfl (round_ext ?_)
    have hfin : unbQ s b = F := by
      unfold unbQ
      rw [List.take_of_length_le (by omega)] at hF
      rw [← hF]
    rw [hfin]
    refine rn rfl (fin_is [] rfl ⟨?_, rfl⟩)
    exact asFl F

theorem give_one {s : Sig} {pl : List Int} {qs : List Pair} {i : Nat} {p : Param} (h : singleQ p = true) : ((giveQ s pl qs i p).given = true → ∃ v, (giveQ s pl qs i p).list = [v]) ∧ ((giveQ s pl qs i p).given = false → (giveQ s pl qs i p).list = []) ∧
    (p.kind = 0 → (giveQ s pl qs i p).given = decide (i < pl.length)) := by
  rw [single_kind] at h
  unfold giveQ
  rw [if_neg (by omega)]
  split
  · rename_i hn
    simp only [Bool.and_eq_true] at hn
    have hk := named_kind.1 hn.1
    split
    · exact ⟨fun _ => ⟨_, rfl⟩, (fun h0 => by cases h0), (fun h0 => by omega)⟩
    · exact ⟨(fun h0 => by cases h0), (fun _ => rfl), (fun h0 => by omega)⟩
  · unfold place1
    by_cases hb : (placedQ p && decide (i < pl.length)) = true
    · rw [if_pos hb]
      simp only [Bool.and_eq_true] at hb
      exact ⟨fun _ => ⟨_, rfl⟩, (fun h0 => by cases h0), fun _ => hb.2.symm⟩
    · rw [if_neg hb]
      have h2 : (p.kind == 2) = false := by simp; omega
      simp only [h2]
      refine ⟨(fun h0 => by cases h0), (fun _ => rfl), fun h0 => ?_⟩
      have hp : placedQ p = true := placed_kind.2 (.inl h0)
      rw [hp] at hb
      show false = _
      simpa using hb

theorem bound_at {s : Sig} {f : Flat} (hs : OkS s) (hf : OkF f) {i : Nat} {p : Param} {x : Slot} (hp : s[i]? = some p) (hx : (boundQ s f).1[i]? = some x) : x = giveQ s f.places f.named i p := by
  rw [bound_closed hs hf.nodup] at hx
  simp only [closedQ, List.getElem?_mapIdx, hp, Option.map_some, Option.some.injEq] at hx
  exact hx.symm

def restB (s : Sig) (b : Bnds) : List Int := if 0 ≤ idxI (kIs 2) s 0 then (match b[(idxI (kIs 2) s 0).toNat]? with
  | some x => x.list
  | none => []) else []

theorem restB_at {s : Sig} {b : Bnds} (hl : b.length = s.length) (h : 0 ≤ idxI (kIs 2) s 0) : ∃ x, b[(idxI (kIs 2) s 0).toNat]? = some x ∧ restB s b = x.list ∧ idxI (kIs 2) s 0 < s.length := by
  obtain ⟨p, _, hp, _, hlt⟩ := idxI_find h
  obtain ⟨x, hx⟩ := at_some (xs := b) (i := (idxI (kIs 2) s 0).toNat) (by omega)
  exact ⟨x, hx, by simp [restB, h, hx], hlt⟩

/-- What a call that is accepted gives to one parameter. -/
structure Given (s : Sig) (f : Flat) (b : Bnds) : Prop where
  sig : OkS s
  flat : OkF f
  acc : accQ s f = true
  eq : b = (boundQ s f).1

section

variable {s : Sig} {f : Flat} {b : Bnds}

theorem Given.len (h : Given s f b) : b.length = s.length := by rw [h.eq, boundQ_len]

theorem Given.at (h : Given s f b) {i : Nat} {p : Param} {x : Slot} (hp : s[i]? = some p) (hx : b[i]? = some x) : x = giveQ s f.places f.named i p := by
  rw [h.eq] at hx
  exact bound_at h.sig h.flat hp hx

theorem Given.get (h : Given s f b) {i : Nat} {p : Param} (hp : s[i]? = some p) : b[i]? = some (giveQ s f.places f.named i p) := by
  obtain ⟨x, hx⟩ := at_some (xs := b) (i := i) (by rw [h.len]; exact lt_of_some hp)
  rw [hx, h.at hp hx]

/-- A parameter that is found by its place alone has got a value only by its place; then all ahead of it have. -/
theorem Given.before (h : Given s f b) {i j : Nat} {p q : Param} (hp : s[i]? = some p) (hq : s[j]? = some q) (hk : p.kind = 0) (hji : j < i) (hg : (giveQ s f.places f.named i p).given = true) : (giveQ s f.places f.named j q).given = true := by
  have h1 := (give_one (s := s) (pl := f.places) (qs := f.named) (i := i) (single_kind.2 (.inl hk))).2.2 hk
  rw [hg] at h1
  have hlt : i < f.places.length := by simpa using h1.symm
  have hP := (h.sig.placed_iff hp).1 (placed_kind.2 (.inl hk))
  have hpl := (h.sig.placed_iff hq).2 (by omega)
  have hs : singleQ q = true := by rw [single_kind]; rw [placed_kind] at hpl; omega
  rw [give_given hs]
  have : byPl f.places j q = true := by simp [byPl, hpl]; omega
  rw [this]; rfl

/-- The walk of 'unbind', prefix by prefix. -/
structure UnbAt (s : Sig) (b : Bnds) (i : Nat) (F : Flat) (op : Bool) (V R : List Int) (X Y : List Pair) : Prop where
  places : F.places = V ++ R
  named : F.named = X ++ Y
  vlen : V.length ≤ min i (placesQ s)
  vals : ∀ (j : Nat) (x : Slot), j < V.length → b[j]? = some x → x.given = true ∧ V[j]? = some (hd0 x.list)
  opn : op = true → V.length = min i (placesQ s)
  shut : op = false → V.length < placesQ s ∧ V.length < i ∧ ∀ x, b[V.length]? = some x → x.given = false
  rest : ∀ (j : Nat) (p : Param) (x : Slot), j < i → s[j]? = some p → b[j]? = some x → p.kind = 2 → R = x.list
  rest0 : (∀ (j : Nat) (p : Param), j < i → s[j]? = some p → p.kind ≠ 2) → R = []
  map : ∀ (j : Nat) (p : Param) (x : Slot), j < i → s[j]? = some p → b[j]? = some x → p.kind = 4 → Y = x.pairs
  map0 : (∀ (j : Nat) (p : Param), j < i → s[j]? = some p → p.kind ≠ 4) → Y = []
  mem : ∀ q : Pair, q ∈ X ↔ ∃ (j : Nat) (p : Param) (x : Slot), j < i ∧ s[j]? = some p ∧ b[j]? = some x ∧ x.given = true ∧ (p.kind = 3 ∨ (p.kind = 1 ∧ V.length < j)) ∧ q = ⟨p.name, hd0 x.list⟩
  nodup : (namesOf X).Nodup

theorem Given.unbAt (h : Given s f b) : ∀ i, i ≤ s.length → ∃ F op V R X Y, ((s.zip b).take i).foldl stU (zF, true) = (F, op) ∧ UnbAt s b i F op V R X Y
  | 0, _ => ⟨zF, true, [], [], [], [], by simp, ⟨rfl, rfl, by simp, fun j x hj => by simp at hj, fun _ => by simp, (fun h0 => by cases h0), fun j p x hj => by omega, fun _ => rfl, fun j p x hj => by omega, fun _ => rfl, fun q => by
      constructor
      · intro h0; simp at h0
      · rintro ⟨j, p, x, hj, _⟩; omega, by simp [namesOf]⟩⟩
  | i + 1, hi => by
    obtain ⟨F, op, V, R, X, Y, hfold, I⟩ := Given.unbAt h i (by omega)
    obtain ⟨p, hp⟩ := at_some (xs := s) (i := i) (by omega)
    have hx := h.get hp
    generalize hxe : giveQ s f.places f.named i p = x at hx
    have hz : (s.zip b)[i]? = some (p, x) := List.getElem?_zip_eq_some.2 ⟨hp, hx⟩
    have hst : ((s.zip b).take (i + 1)).foldl stU (zF, true) = stU (F, op) (p, x) := by rw [foldl_take_succ _ _ hz, hfold]
    rw [hst]
    have hP := h.sig.placed_iff hp
    have hkr := h.sig.kindRange (List.mem_of_getElem? hp)
    have upto : ∀ (j : Nat) (q : Param), j < i + 1 → s[j]? = some q → j < i ∨ (j = i ∧ q = p) := fun j q hj hq => by
      by_cases hji : j = i
      · subst hji; rw [hp] at hq; cases hq; exact .inr ⟨rfl, rfl⟩
      · exact .inl (by omega)
    have xat : ∀ (j : Nat) (y : Slot), j = i → b[j]? = some y → y = x := fun j y hj hy => by subst hj; rw [hx] at hy; cases hy; rfl
    have before : ∀ (j : Nat) (q : Param), j < i → s[j]? = some q → q.kind ≤ p.kind := fun j q hj hq => h.sig.sorted (i - j) j q p hq (by rw [show j + (i - j) = i by omega]; exact hp)
    have notin : ∀ q ∈ X, q.name ≠ p.name := fun q hq he => by
      obtain ⟨j, r, y, hj, hr, _, _, _, rfl⟩ := (I.mem q).1 hq
      have := name_inj h.sig hr hp he
      omega
    have memStay : (x.given = true → ¬ (p.kind = 3 ∨ (p.kind = 1 ∧ V.length < i))) → ∀ (V' : List Int), V.length ≤ V'.length → (∀ j q, j < i → s[j]? = some q → q.kind = 1 → V.length < j → V'.length < j) → ∀ q : Pair, q ∈ X ↔ ∃ (j : Nat) (p : Param) (x : Slot), j < i + 1 ∧ s[j]? = some p ∧ b[j]? = some x ∧ x.given = true ∧ (p.kind = 3 ∨ (p.kind = 1 ∧ V'.length < j)) ∧ q = ⟨p.name, hd0 x.list⟩ := fun hno V' hV hV' q => by
      rw [I.mem q]
      constructor
      · rintro ⟨j, r, y, hj, hr, hy, hg, hk, rfl⟩
        refine ⟨j, r, y, by omega, hr, hy, hg, ?_, rfl⟩
        rcases hk with hk | ⟨hk, hl⟩
        · exact .inl hk
        · exact .inr ⟨hk, hV' j r hj hr hk hl⟩
      · rintro ⟨j, r, y, hj, hr, hy, hg, hk, rfl⟩
        rcases upto j r hj hr with hji | ⟨rfl, rfl⟩
        · refine ⟨j, r, y, hji, hr, hy, hg, ?_, rfl⟩
          rcases hk with hk | ⟨hk, hl⟩
          · exact .inl hk
          · exact .inr ⟨hk, by omega⟩
        · exfalso
          have := xat j y rfl hy
          subst this
          refine hno hg ?_
          rcases hk with hk | ⟨hk, hl⟩
          · exact .inl hk
          · exact .inr ⟨hk, by omega⟩
    by_cases hk2 : p.kind = 2
    · have hR : R = [] := I.rest0 fun j q hj hq hk => by
        have := h.sig.one hq hp (by omega) (by simp [singleQ, placedQ, hk2]); omega
      have hnp : ¬ i < placesQ s := fun h0 => by have := hP.2 h0; rw [placed_kind] at this; omega
      have hs' : stU (F, op) (p, x) = (⟨F.places ++ x.list, F.named⟩, op) := by simp [stU, hk2]
      rw [hs']
      refine ⟨_, op, V, x.list, X, Y, rfl, ⟨by rw [I.places, hR, List.append_nil], I.named, by have := I.vlen; omega, I.vals, fun h0 => by rw [I.opn h0]; omega, fun h0 => ?_, fun j q y hj hq hy hk => ?_, fun h0 => absurd hk2 (h0 i p (by omega) hp), fun j q y hj hq hy hk => ?_, fun h0 => I.map0 fun j q hj hq => h0 j q (by omega) hq, memStay (fun _ h0 => by omega) V (Nat.le_refl _) (fun j q _ _ _ hl => hl), I.nodup⟩⟩
      · obtain ⟨a1, a2, a3⟩ := I.shut h0
        exact ⟨a1, by omega, a3⟩
      · rcases upto j q hj hq with hji | ⟨rfl, rfl⟩
        · have := h.sig.one hq hp (by omega) (by simp [singleQ, placedQ, hk2]); omega
        · rw [xat j y rfl hy]
      · rcases upto j q hj hq with hji | ⟨rfl, rfl⟩
        · exact I.map j q y hji hq hy hk
        · omega
    by_cases hk4 : p.kind = 4
    · have hY : Y = [] := I.map0 fun j q hj hq hk => by
        have := h.sig.one hq hp (by omega) (by simp [singleQ, placedQ, hk4]); omega
      have hnp : ¬ i < placesQ s := fun h0 => by have := hP.2 h0; rw [placed_kind] at this; omega
      have hs' : stU (F, op) (p, x) = (⟨F.places, F.named ++ x.pairs⟩, op) := by simp [stU, hk4]
      rw [hs']
      refine ⟨_, op, V, R, X, x.pairs, rfl, ⟨I.places, by rw [I.named, hY, List.append_nil], by have := I.vlen; omega, I.vals, fun h0 => by rw [I.opn h0]; omega, fun h0 => ?_, fun j q y hj hq hy hk => ?_, fun h0 => I.rest0 fun j q hj hq => h0 j q (by omega) hq, fun j q y hj hq hy hk => ?_, fun h0 => absurd hk4 (h0 i p (by omega) hp), memStay (fun _ h0 => by omega) V (Nat.le_refl _) (fun j q _ _ _ hl => hl), I.nodup⟩⟩
      · obtain ⟨a1, a2, a3⟩ := I.shut h0
        exact ⟨a1, by omega, a3⟩
      · rcases upto j q hj hq with hji | ⟨rfl, rfl⟩
        · exact I.rest j q y hji hq hy hk
        · omega
      · rcases upto j q hj hq with hji | ⟨rfl, rfl⟩
        · have := h.sig.one hq hp (by omega) (by simp [singleQ, placedQ, hk4]); omega
        · rw [xat j y rfl hy]
    have restStay : ∀ (j : Nat) (q : Param) (y : Slot), j < i + 1 → s[j]? = some q → b[j]? = some y → q.kind = 2 → R = y.list := fun j q y hj hq hy hk => by
      rcases upto j q hj hq with hji | ⟨rfl, rfl⟩
      · exact I.rest j q y hji hq hy hk
      · exact absurd hk hk2
    have rest0Stay : (∀ (j : Nat) (q : Param), j < i + 1 → s[j]? = some q → q.kind ≠ 2) → R = [] := fun h0 => I.rest0 fun j q hj hq => h0 j q (by omega) hq
    have mapStay : ∀ (j : Nat) (q : Param) (y : Slot), j < i + 1 → s[j]? = some q → b[j]? = some y → q.kind = 4 → Y = y.pairs := fun j q y hj hq hy hk => by
      rcases upto j q hj hq with hji | ⟨rfl, rfl⟩
      · exact I.map j q y hji hq hy hk
      · exact absurd hk hk4
    have map0Stay : (∀ (j : Nat) (q : Param), j < i + 1 → s[j]? = some q → q.kind ≠ 4) → Y = [] := fun h0 => I.map0 fun j q hj hq => h0 j q (by omega) hq
    have hsg : singleQ p = true := single_kind.2 (by omega)
    cases hg : x.given with
    | false =>
      have hs' : stU (F, op) (p, x) = (F, op && !placedQ p) := by simp [stU, hk2, hk4, hg]
      rw [hs']
      refine ⟨_, _, V, R, X, Y, rfl, ⟨I.places, I.named, by have := I.vlen; omega, I.vals, fun h0 => ?_, fun h0 => ?_, restStay, rest0Stay, mapStay, map0Stay, memStay (fun h0 => by rw [hg] at h0; cases h0) V (Nat.le_refl _) (fun j q _ _ _ hl => hl), I.nodup⟩⟩
      · simp only [Bool.and_eq_true, Bool.not_eq_true'] at h0
        have hnp : ¬ i < placesQ s := fun h1 => by rw [hP.2 h1] at h0; cases h0.2
        rw [I.opn h0.1]; omega
      · cases ho : op with
        | false =>
          obtain ⟨a1, a2, a3⟩ := I.shut ho
          exact ⟨a1, by omega, a3⟩
        | true =>
          rw [ho] at h0
          simp only [Bool.true_and, Bool.not_eq_false'] at h0
          have hip := hP.1 h0
          have hv := I.opn ho
          have hv' : V.length = i := by omega
          refine ⟨by omega, by omega, fun y hy => ?_⟩
          rw [hv'] at hy
          rw [xat i y rfl hy]; exact hg
    | true =>
      by_cases hpo : (placedQ p && op) = true
      · have hs' : stU (F, op) (p, x) = (⟨F.places ++ [hd0 x.list], F.named⟩, op) := by simp [stU, hk2, hk4, hg, hpo]
        rw [hs']
        simp only [Bool.and_eq_true] at hpo
        have hip := hP.1 hpo.1
        have hv := I.opn hpo.2
        have hv' : V.length = i := by omega
        have hR : R = [] := I.rest0 fun j q hj hq hk => by
          have := before j q hj hq
          have h9 := hpo.1
          rw [placed_kind] at h9; omega
        refine ⟨_, op, V ++ [hd0 x.list], R, X, Y, rfl, ⟨by rw [I.places, hR]; simp, I.named, by simp; omega, fun j y hj hy => ?_, fun _ => by simp; omega, fun h0 => (by rw [hpo.2] at h0; cases h0), restStay, rest0Stay, mapStay, map0Stay, ?_, I.nodup⟩⟩
        · simp only [List.length_append, List.length_cons, List.length_nil] at hj
          by_cases hjv : j < V.length
          · obtain ⟨a1, a2⟩ := I.vals j y hjv hy
            exact ⟨a1, by rw [List.getElem?_append_left hjv]; exact a2⟩
          · have hji : j = i := by omega
            have := xat j y hji hy
            subst this
            exact ⟨hg, by rw [List.getElem?_append_right (by omega)]; simp [hji, hv']⟩
        · refine memStay (fun _ h0 => ?_) (V ++ [hd0 x.list]) (by simp) (fun j q hj _ _ hl => by omega)
          have h9 := hpo.1
          rw [placed_kind] at h9
          omega
      · have hs' : stU (F, op) (p, x) = (⟨F.places, F.named ++ [⟨p.name, hd0 x.list⟩]⟩, op) := by simp [stU, hk2, hk4, hg, hpo]
        rw [hs']
        have hY : Y = [] := I.map0 fun j q hj hq hk => by
          have := before j q hj hq; omega
        have hkk : p.kind = 3 ∨ (p.kind = 1 ∧ V.length < i) := by
          by_cases hk3 : p.kind = 3
          · exact .inl hk3
          · have hpl : placedQ p = true := by rw [placed_kind]; rw [single_kind] at hsg; omega
            have ho : op = false := by
              cases ho : op with
              | false => rfl
              | true => rw [hpl, ho] at hpo; exact absurd rfl hpo
            obtain ⟨a1, a2, a3⟩ := I.shut ho
            refine .inr ⟨?_, a2⟩
            refine Classical.byContradiction fun hk1 => ?_
            have hk0 : p.kind = 0 := by rw [placed_kind] at hpl; omega
            obtain ⟨q, hq⟩ := at_some (xs := s) (i := V.length) (by omega)
            have hgq := h.before hp hq hk0 a2 (by rw [hxe]; exact hg)
            have := a3 _ (h.get hq)
            rw [hgq] at this; cases this
        refine ⟨_, op, V, R, X ++ [⟨p.name, hd0 x.list⟩], Y, rfl, ⟨I.places, by rw [I.named, hY]; simp, by have := I.vlen; omega, I.vals, fun h0 => ?_, fun h0 => ?_, restStay, rest0Stay, mapStay, map0Stay, fun q => ?_, ?_⟩⟩
        · have hnp : ¬ i < placesQ s := fun h1 => by rw [hP.2 h1, h0] at hpo; exact hpo rfl
          rw [I.opn h0]; omega
        · obtain ⟨a1, a2, a3⟩ := I.shut h0
          exact ⟨a1, by omega, a3⟩
        · rw [List.mem_append, List.mem_singleton, I.mem q]
          constructor
          · rintro (⟨j, r, y, hj, hr, hy, hgy, hk, rfl⟩ | rfl)
            · exact ⟨j, r, y, by omega, hr, hy, hgy, hk, rfl⟩
            · exact ⟨i, p, x, by omega, hp, hx, hg, hkk, rfl⟩
          · rintro ⟨j, r, y, hj, hr, hy, hgy, hk, rfl⟩
            rcases upto j r hj hr with hji | ⟨rfl, rfl⟩
            · exact .inl ⟨j, r, y, hji, hr, hy, hgy, hk, rfl⟩
            · right; rw [xat j y rfl hy]
        · unfold namesOf
          rw [List.map_append, List.map_cons, List.map_nil]
          refine List.nodup_append.2 ⟨I.nodup, by simp, fun a ha c hc => ?_⟩
          simp only [List.mem_singleton] at hc
          obtain ⟨q, hq, rfl⟩ := List.mem_map.1 ha
          rw [hc]
          exact notin q hq

end

theorem find_uniq {qs : List Pair} {q : Pair} (hnd : (namesOf qs).Nodup) (hq : q ∈ qs) : qs.find? (nameIs q.name) = some q := by
  cases h : qs.find? (nameIs q.name) with
  | none =>
    rw [List.find?_eq_none] at h
    exact absurd (by simp [nameIs]) (h q hq)
  | some r =>
    have h1 := List.mem_of_find?_eq_some h
    have h2 := List.find?_some h
    simp only [nameIs, beq_iff_eq] at h2
    obtain ⟨i, hi⟩ := List.getElem?_of_mem h1
    obtain ⟨j, hj⟩ := List.getElem?_of_mem hq
    have hij : i = j := by
      refine (List.getElem?_inj (l := namesOf qs) (by have := lt_of_some hi; simpa [namesOf] using this) hnd).1 ?_
      unfold namesOf
      rw [List.getElem?_map, List.getElem?_map, hi, hj]
      simp [h2]
    subst hij
    rw [hi] at hj
    exact hj

section

variable {s : Sig} {f g : Flat}

end

theorem sub_length {α : Type} [DecidableEq α] : ∀ (xs ys : List α), xs.Nodup → (∀ x ∈ xs, x ∈ ys) → xs.length ≤ ys.length
  | [], ys, _, _ => by simp
  | x :: xs, ys, hd, hm => by
    rw [List.nodup_cons] at hd
    have h1 := sub_length xs (ys.erase x) hd.2 fun y hy => by
      have hne : y ≠ x := fun h0 => hd.1 (h0 ▸ hy)
      exact (List.mem_erase_of_ne hne).2 (hm y (by simp [hy]))
    have h2 := List.length_erase_of_mem (hm x (by simp))
    have h3 : 0 < ys.length := List.length_pos_of_mem (hm x (by simp))
    simp only [List.length_cons]
    omega

theorem give_rest {s : Sig} {pl : List Int} {qs : List Pair} {i : Nat} {p : Param} (hk : p.kind = 2) : giveQ s pl qs i p = ⟨false, pl.drop (placesQ s), []⟩ := by
  unfold giveQ
  rw [if_neg (by omega)]
  have h1 : namedQ p = false := by simp [namedQ, hk]
  have h2 : placedQ p = false := by simp [placedQ, hk]
  rw [h1]
  simp [place1, h2, hk]

theorem give_single {s : Sig} {pl : List Int} {qs : List Pair} {i : Nat} {p : Param} (h : singleQ p = true) : giveQ s pl qs i p =
    if byPl pl i p then ⟨true, [pl.getD i 0], []⟩ else if namedQ p then (match qs.find? (nameIs p.name) with
      | some q => ⟨true, [q.value], []⟩
      | none => zL) else zL := by
  rw [single_kind] at h
  unfold giveQ
  rw [if_neg (by omega)]
  cases hb : byPl pl i p with
  | true =>
    have hb' := hb
    unfold byPl at hb'
    simp [place1, hb']
  | false =>
    cases hn : namedQ p with
    | true =>
      cases qs.find? (nameIs p.name) <;> simp
    | false =>
      have hb' := hb
      unfold byPl at hb'
      have h2 : (p.kind == 2) = false := by simp; omega
      simp [place1, hb', h2]

theorem give_shape {s : Sig} {pl : List Int} {qs : List Pair} {i : Nat} {p : Param} (h : singleQ p = true) :
    ((giveQ s pl qs i p).given = true → giveQ s pl qs i p = ⟨true, [hd0 (giveQ s pl qs i p).list], []⟩) ∧ ((giveQ s pl qs i p).given = false → giveQ s pl qs i p = zL) := by
  rw [give_single h]
  split
  · simp [hd0]
  · split
    · split
      · simp [hd0]
      · simp [zL]
    · simp [zL]

theorem give_vals {s : Sig} {f : Flat} (hf : OkF f) {i : Nat} {p : Param} : ∀ v ∈ (giveQ s f.places f.named i p).list, okVal v = true := by
  intro v hv
  unfold giveQ at hv
  split at hv
  · simp at hv
  · split at hv
    · split at hv
      · rename_i q hq
        simp only [List.mem_singleton] at hv
        subst hv
        have := hf.pairs q (List.mem_of_find?_eq_some hq)
        simp only [okPair, Bool.and_eq_true] at this
        exact this.2
      · simp [zL] at hv
    · unfold place1 at hv
      split at hv
      · rename_i h1
        simp only [Bool.and_eq_true, decide_eq_true_eq] at h1
        simp only [List.mem_singleton] at hv
        subst hv
        rw [List.getD_eq_getElem?_getD, List.getElem?_eq_getElem h1.2]
        exact hf.vals _ (List.getElem_mem h1.2)
      · split at hv
        · exact hf.vals v (List.mem_of_mem_drop hv)
        · simp [zL] at hv

section

variable {s : Sig} {f : Flat} {b : Bnds}

theorem Given.unb (h : Given s f b) : ∃ op V R X Y, UnbAt s b s.length (unbQ s b) op V R X Y := by
  obtain ⟨F, op, V, R, X, Y, hfold, I⟩ := h.unbAt s.length (Nat.le_refl _)
  refine ⟨op, V, R, X, Y, ?_⟩
  have : unbQ s b = F := by
    unfold unbQ
    rw [List.take_of_length_le (by simp [h.len])] at hfold
    rw [hfold]
  rw [this]; exact I

theorem Given.gap (h : Given s f b) {op : Bool} {V R : List Int} {X Y : List Pair} {F : Flat} (I : UnbAt s b s.length F op V R X Y) (hlt : V.length < placesQ s) :
    f.places.length ≤ V.length ∧ R = [] ∧ ∀ x, b[V.length]? = some x → x.given = false := by
  have hPl := placesQ_le s
  have ho : op = false := by
    cases ho : op with
    | false => rfl
    | true => have := I.opn ho; omega
  obtain ⟨a1, a2, a3⟩ := I.shut ho
  obtain ⟨q, hq⟩ := at_some (xs := s) (i := V.length) (by omega)
  have hpl := (h.sig.placed_iff hq).2 hlt
  have hg := a3 _ (h.get hq)
  rw [give_given (by rw [single_kind]; rw [placed_kind] at hpl; omega)] at hg
  simp only [Bool.or_eq_false_iff] at hg
  have hle : f.places.length ≤ V.length := by
    have := hg.1
    unfold byPl at this
    rw [hpl] at this
    simpa using this
  refine ⟨hle, ?_, a3⟩
  by_cases h2 : ∃ (j : Nat) (p : Param), s[j]? = some p ∧ p.kind = 2
  · obtain ⟨j, p, hp, hk⟩ := h2
    rw [I.rest j p _ (lt_of_some hp) hp (h.get hp) hk, give_rest hk]
    exact List.drop_eq_nil_of_le (by omega)
  · exact I.rest0 fun j p _ hp hk => h2 ⟨j, p, hp, hk⟩

theorem Given.mapOf (h : Given s f b) {op : Bool} {V R : List Int} {X Y : List Pair} {F : Flat} (I : UnbAt s b s.length F op V R X Y) {q : Pair} (hq : q ∈ Y) :
    ∃ (j : Nat) (p : Param), s[j]? = some p ∧ p.kind = 4 ∧ takesQ s q.name = (j : Int) ∧ q ∈ f.named := by
  by_cases h4 : ∃ (j : Nat) (p : Param), s[j]? = some p ∧ p.kind = 4
  · obtain ⟨j, p, hp, hk⟩ := h4
    have hY := I.map j p _ (lt_of_some hp) hp (h.get hp) hk
    unfold giveQ at hY
    rw [if_pos hk] at hY
    simp only at hY
    rw [hY, List.mem_filter] at hq
    exact ⟨j, p, hp, hk, by simpa using hq.2, hq.1⟩
  · have := I.map0 fun j p _ hp hk => h4 ⟨j, p, hp, hk⟩
    rw [this] at hq; cases hq

theorem Given.again (h : Given s f b) : Given s (unbQ s b) b := by
  obtain ⟨op, V, R, X, Y, I⟩ := h.unb
  have hPl := placesQ_le s
  have hsl := h.sig.len
  have hfp := h.flat.places
  have hfn := h.flat.named
  have hV : V.length ≤ placesQ s := by have := I.vlen; omega
  have gap := fun hlt => h.gap I hlt
  have xmem : ∀ q ∈ X, ∃ (j : Nat) (p : Param), s[j]? = some p ∧ namedQ p = true ∧ q.name = p.name ∧ (giveQ s f.places f.named j p).given = true ∧ (p.kind = 3 ∨ (p.kind = 1 ∧ V.length < j)) ∧ q.value = hd0 (giveQ s f.places f.named j p).list := fun q hq => by
    obtain ⟨j, p, x, _, hp, hx, hg, hk, rfl⟩ := (I.mem q).1 hq
    have := h.at hp hx
    subst this
    exact ⟨j, p, hp, named_kind.2 (by omega), rfl, hg, hk, rfl⟩
  have hRsub : ∀ v ∈ R, okVal v = true := fun v hv => by
    by_cases h2 : ∃ (j : Nat) (p : Param), s[j]? = some p ∧ p.kind = 2
    · obtain ⟨j, p, hp, hk⟩ := h2
      rw [I.rest j p _ (lt_of_some hp) hp (h.get hp) hk] at hv
      exact give_vals h.flat v hv
    · rw [I.rest0 fun j p _ hp hk => h2 ⟨j, p, hp, hk⟩] at hv; cases hv
  have hRlen : V.length + R.length ≤ 8 := by
    by_cases h2 : ∃ (j : Nat) (p : Param), s[j]? = some p ∧ p.kind = 2
    · obtain ⟨j, p, hp, hk⟩ := h2
      have hR := I.rest j p _ (lt_of_some hp) hp (h.get hp) hk
      rw [give_rest hk] at hR
      have : R.length = f.places.length - placesQ s := by rw [hR]; simp
      omega
    · rw [I.rest0 fun j p _ hp hk => h2 ⟨j, p, hp, hk⟩]; simp; omega
  have hdis : ∀ q ∈ X, ∀ r ∈ Y, q.name ≠ r.name := fun q hq r hr he => by
    obtain ⟨j, p, hp, hn, hqn, _⟩ := xmem q hq
    obtain ⟨k, p', hp', hk', ht, _⟩ := h.mapOf I hr
    have := takes_named h.sig hp hn
    rw [← hqn, he, ht] at this
    have hjk : k = j := by omega
    subst hjk
    rw [hp] at hp'; cases hp'
    rw [named_kind] at hn; omega
  have hYnd : (namesOf Y).Nodup := by
    by_cases h4 : ∃ (j : Nat) (p : Param), s[j]? = some p ∧ p.kind = 4
    · obtain ⟨j, p, hp, hk⟩ := h4
      have hY := I.map j p _ (lt_of_some hp) hp (h.get hp) hk
      unfold giveQ at hY
      rw [if_pos hk] at hY
      simp only at hY
      rw [hY]
      exact h.flat.nodup.sublist (List.filter_sublist.map _)
    · rw [I.map0 fun j p _ hp hk => h4 ⟨j, p, hp, hk⟩]; simp [namesOf]
  have hnd : (namesOf (X ++ Y)).Nodup := by
    unfold namesOf
    rw [List.map_append]
    refine List.nodup_append.2 ⟨I.nodup, hYnd, fun a ha c hc he => ?_⟩
    obtain ⟨q, hq, rfl⟩ := List.mem_map.1 ha
    obtain ⟨r, hr, rfl⟩ := List.mem_map.1 hc
    exact hdis q hq r hr he
  have xnamed : ∀ q ∈ X, q.name ∈ namesOf f.named := fun q hq => by
    obtain ⟨j, p, hp, hn, hqn, hg, hk, _⟩ := xmem q hq
    rw [give_given (single_kind.2 (by omega))] at hg
    simp only [Bool.or_eq_true, Bool.and_eq_true] at hg
    rcases hg with hg | hg
    · exfalso
      simp only [byPl, Bool.and_eq_true, decide_eq_true_eq] at hg
      have hjP := (h.sig.placed_iff hp).1 hg.1
      rcases hk with hk | ⟨hk, hl⟩
      · have := hg.1; rw [placed_kind] at this; omega
      · have := (gap (by omega)).1; omega
    · rw [hqn]; exact any_names.1 hg.2
  have hU : OkF (unbQ s b) := by
    refine ⟨fun q hq => ?_, by rw [I.named]; exact hnd, fun v hv => ?_, by rw [I.places, List.length_append]; exact hRlen, ?_⟩
    · rw [I.named] at hq
      rcases List.mem_append.1 hq with hq | hq
      · obtain ⟨j, p, hp, hn, hqn, hg, hk, hv⟩ := xmem q hq
        have h1 := h.sig.okName (List.mem_of_getElem? hp)
        have h2 := (give_shape (s := s) (pl := f.places) (qs := f.named) (i := j) (p := p) (single_kind.2 (by omega))).1 hg
        have h3 := give_vals (s := s) h.flat (i := j) (p := p) (hd0 (giveQ s f.places f.named j p).list) (by rw [h2]; simp [hd0])
        simp [okPair, hqn, h1, hv, h3]
      · obtain ⟨_, _, _, _, _, hm⟩ := h.mapOf I hq
        exact h.flat.pairs q hm
    · rw [I.places] at hv
      rcases List.mem_append.1 hv with hv | hv
      · obtain ⟨j, hj⟩ := List.getElem?_of_mem hv
        have hjl := lt_of_some hj
        obtain ⟨p, hp⟩ := at_some (xs := s) (i := j) (by omega)
        obtain ⟨a1, a2⟩ := I.vals j _ hjl (h.get hp)
        have hpl := (h.sig.placed_iff hp).2 (by omega)
        have hsg : singleQ p = true := by rw [single_kind]; rw [placed_kind] at hpl; omega
        have h2 := (give_shape (s := s) (pl := f.places) (qs := f.named) (i := j) (p := p) hsg).1 a1
        rw [hj] at a2
        cases a2
        exact give_vals (s := s) h.flat (i := j) (p := p) _ (by rw [h2]; simp [hd0])
      · exact hRsub v hv
    · rw [I.named]
      have := sub_length (namesOf (X ++ Y)) (namesOf f.named) hnd fun n hn => by
        unfold namesOf at hn
        rw [List.map_append] at hn
        rcases List.mem_append.1 hn with hn | hn
        · obtain ⟨q, hq, rfl⟩ := List.mem_map.1 hn
          exact xnamed q hq
        · obtain ⟨q, hq, rfl⟩ := List.mem_map.1 hn
          obtain ⟨_, _, _, _, _, hm⟩ := h.mapOf I hq
          exact List.mem_map_of_mem hm
      simp only [namesOf, List.length_map] at this
      omega
  have hplU : ∀ (i : Nat) (p : Param), s[i]? = some p → placedQ p = true → (i < (unbQ s b).places.length ↔ i < V.length) := fun i p hp hpl => by
    have hiP := (h.sig.placed_iff hp).1 hpl
    rw [I.places, List.length_append]
    constructor
    · intro hi
      refine Classical.byContradiction fun hc => ?_
      have := (gap (by omega)).2.1
      rw [this] at hi
      simp at hi; omega
    · omega
  have hB : ∀ (i : Nat) (p : Param), s[i]? = some p → giveQ s (unbQ s b).places (unbQ s b).named i p = giveQ s f.places f.named i p := fun i p hp => by
    have hkr := h.sig.kindRange (List.mem_of_getElem? hp)
    by_cases hk4 : p.kind = 4
    · have hY := I.map i p _ (lt_of_some hp) hp (h.get hp) hk4
      have e1 : ∀ qs pl, giveQ s pl qs i p = ⟨false, [], qs.filter fun q => takesQ s q.name == (i : Int)⟩ := fun qs pl => by unfold giveQ; rw [if_pos hk4]
      rw [e1] at hY
      simp only at hY
      rw [e1, e1, I.named, List.filter_append]
      have hX : X.filter (fun q => takesQ s q.name == (i : Int)) = [] := by
        rw [List.filter_eq_nil_iff]
        intro q hq ht
        obtain ⟨j, r, hr, hn, hqn, _⟩ := xmem q hq
        have := takes_named h.sig hr hn
        rw [← hqn] at this
        simp only [beq_iff_eq] at ht
        have hij : i = j := by omega
        subst hij
        rw [hp] at hr; cases hr
        rw [named_kind] at hn; omega
      rw [hX, List.nil_append, hY, List.filter_filter]
      simp
    by_cases hk2 : p.kind = 2
    · have hR := I.rest i p _ (lt_of_some hp) hp (h.get hp) hk2
      rw [give_rest hk2] at hR
      simp only at hR
      rw [give_rest hk2, give_rest hk2, I.places, ← hR]
      congr 1
      by_cases hlt : V.length < placesQ s
      · rw [(gap hlt).2.1, List.append_nil]; exact List.drop_eq_nil_of_le (by omega)
      · rw [show placesQ s = V.length by omega, List.drop_left]
    have hsg : singleQ p = true := single_kind.2 (by omega)
    have hsh := give_shape (s := s) (pl := f.places) (qs := f.named) (i := i) (p := p) hsg
    have hget := h.get hp
    generalize giveQ s f.places f.named i p = g at hsh hget ⊢
    rw [give_single hsg]
    by_cases hb : byPl (unbQ s b).places i p = true
    · rw [if_pos hb]
      simp only [byPl, Bool.and_eq_true, decide_eq_true_eq] at hb
      have hiV := (hplU i p hp hb.1).1 hb.2
      obtain ⟨a1, a2⟩ := I.vals i g hiV hget
      rw [hsh.1 a1]
      have : (unbQ s b).places.getD i 0 = hd0 g.list := by
        rw [List.getD_eq_getElem?_getD, I.places, List.getElem?_append_left hiV, a2]; rfl
      rw [this]
    · rw [if_neg hb]
      have hnV : placedQ p = true → V.length ≤ i := fun hpl => Nat.le_of_not_lt fun h0 => hb (by
        simp only [byPl, Bool.and_eq_true, decide_eq_true_eq]; exact ⟨hpl, (hplU i p hp hpl).2 h0⟩)
      have hgap : placedQ p = true → g.given = true → V.length < i := fun hpl hg => by
        have h1 := hnV hpl
        have hiP := (h.sig.placed_iff hp).1 hpl
        have h2 := (gap (by omega)).2.2
        refine Classical.byContradiction fun hc => ?_
        have : i = V.length := by omega
        have := h2 g (by rw [← this]; exact hget)
        rw [hg] at this; cases this
      cases hg : g.given with
      | true =>
        have hk : p.kind = 3 ∨ (p.kind = 1 ∧ V.length < i) := by
          by_cases hk3 : p.kind = 3
          · exact .inl hk3
          · have hpl : placedQ p = true := by rw [placed_kind]; rw [single_kind] at hsg; omega
            have hVi := hgap hpl hg
            refine .inr ⟨?_, hVi⟩
            refine Classical.byContradiction fun hk1 => ?_
            have hk0 : p.kind = 0 := by rw [placed_kind] at hpl; omega
            have hiP := (h.sig.placed_iff hp).1 hpl
            obtain ⟨q, hq⟩ := at_some (xs := s) (i := V.length) (by omega)
            have hgi : (giveQ s f.places f.named i p).given = true := by rw [← h.at hp hget]; exact hg
            have hgq := h.before hp hq hk0 hVi hgi
            have := (gap (by omega)).2.2 _ (h.get hq)
            rw [hgq] at this; cases this
        have hn : namedQ p = true := named_kind.2 (by omega)
        rw [if_pos hn]
        have hm : (⟨p.name, hd0 g.list⟩ : Pair) ∈ X := (I.mem _).2 ⟨i, p, g, lt_of_some hp, hp, hget, hg, hk, rfl⟩
        have hf := find_uniq (qs := (unbQ s b).named) (q := ⟨p.name, hd0 g.list⟩) hU.nodup (by rw [I.named]; exact List.mem_append_left _ hm)
        simp only at hf
        rw [hf]
        exact (hsh.1 hg).symm
      | false =>
        rw [hsh.2 hg]
        split
        · rename_i hn
          have : (unbQ s b).named.find? (nameIs p.name) = none := by
            rw [List.find?_eq_none]
            intro q hq hqn
            simp only [nameIs, beq_iff_eq] at hqn
            rw [I.named] at hq
            rcases List.mem_append.1 hq with hq | hq
            · obtain ⟨j, r, x, _, hr, hx, hgx, _, rfl⟩ := (I.mem q).1 hq
              have hji := name_inj h.sig hr hp hqn
              subst hji
              rw [hget] at hx; cases hx
              rw [hg] at hgx; cases hgx
            · obtain ⟨j, r, hr, hk, ht, _⟩ := h.mapOf I hq
              have := takes_named h.sig hp hn
              rw [← hqn, ht] at this
              have hji : j = i := by omega
              subst hji
              rw [hp] at hr; cases hr
              exact hk4 hk
          rw [this]
        · rfl
  have hacc : accQ s (unbQ s b) = true := by
    have hf3 := ((acc_iff h.sig h.flat).1 h.acc).2.2
    refine (acc_iff h.sig hU).2 ⟨fun hlt => ?_, fun q hq => ?_, ?_⟩
    · by_cases h2 : ∃ (j : Nat) (p : Param), s[j]? = some p ∧ p.kind = 2
      · obtain ⟨j, p, hp, hk⟩ := h2
        exact List.any_eq_true.2 ⟨p, List.mem_of_getElem? hp, by simp [kIs, hk]⟩
      · have hR := I.rest0 fun j p _ hp hk => h2 ⟨j, p, hp, hk⟩
        rw [I.places, hR] at hlt
        simp at hlt; omega
    · rw [wrong_iff2 h.sig]
      rw [I.named] at hq
      rcases List.mem_append.1 hq with hq | hq
      · obtain ⟨j, p, hp, hn, hqn, hg, hk, hv⟩ := xmem q hq
        refine ⟨.inl ⟨j, p, hp, hn, hqn.symm⟩, fun i r hr hrn hre => ?_⟩
        have hij := name_inj h.sig hr hp (by rw [hre, hqn])
        subst hij
        rw [hp] at hr; cases hr
        unfold byPl
        cases hpl : placedQ p with
        | false => rfl
        | true =>
          simp only [Bool.true_and, decide_eq_false_iff_not]
          rw [hplU i p hp hpl]
          rcases hk with hk | ⟨hk, hl⟩
          · rw [placed_kind] at hpl; omega
          · omega
      · obtain ⟨j, r, hr, hk, ht, _⟩ := h.mapOf I hq
        refine ⟨.inr ⟨r, List.mem_of_getElem? hr, hk⟩, fun i p hp hn he => ?_⟩
        have := takes_named h.sig hp hn
        rw [he, ht] at this
        have hji : j = i := by omega
        subst hji
        rw [hp] at hr; cases hr
        rw [named_kind] at hn; omega
    · have : s.mapIdx (giveQ s (unbQ s b).places (unbQ s b).named) = s.mapIdx (giveQ s f.places f.named) := by
        apply List.ext_getElem?
        intro i
        rw [List.getElem?_mapIdx, List.getElem?_mapIdx]
        cases hp : s[i]? with
        | none => rfl
        | some p => simp only [Option.map_some, hB i p hp]
      rw [this]; exact hf3
  refine ⟨h.sig, hU, hacc, ?_⟩
  rw [bound_closed h.sig hU.nodup]
  apply List.ext_getElem?
  intro i
  simp only [closedQ, List.getElem?_mapIdx]
  cases hp : s[i]? with
  | none =>
    have : s.length ≤ i := by rw [List.getElem?_eq_none_iff] at hp; exact hp
    rw [List.getElem?_eq_none (by rw [h.len]; exact this)]; rfl
  | some p => simp only [Option.map_some, hB i p hp, h.get hp]

end

theorem indexP2_ct (xs : List Pair) (hb : xs.length ≤ 9223372036854775807) (pred : Pair → Bool) (f : FuncId) (cs ds : List C)
    (hcl : ∀ p, ACalls pk f [.agg (eP p), .one (.fp cs), .one (.fp ds)] [] (fun r o => r = .one (.bool (pred p)) ∧ o = [])) :
    ACalls pk 170 [.one (.fs (xs.map eP)), .one (.fn f [.fp cs, .fp ds])] [] (fun r o => r = .one (.int .i64 (idxI pred xs 0)) ∧ o = []) := by
  refine acalls_of_body Tryz.func170 rfl (by kernel_rfl) rfl ?_
  refine rn rfl ?_
  refine goal_loop_keep (fun m σ => ∃ (n L : Int) (i : Nat), n = i ∧ L = xs.length ∧ i ≤ xs.length ∧ m = xs.length - i ∧ idxI pred xs 0 = idxI pred (xs.drop i) i ∧
      σ = ⟨[(8, .one (.int .i64 n)), (7, .one (.int .i64 L)), (1, .one (.fn f [.fp cs, .fp ds])), (0, .one (.fs (xs.map eP)))], [], []⟩) xs.length [8, 7, 1, 0] [] rfl
    ⟨_, _, 0, rfl, by simp, by omega, by omega, by simp, rfl⟩ ?_
  rintro m σ ⟨n, L, i, rfl, rfl, hi, rfl, hidx, rfl⟩
  refine rn rfl ?_
  refine goal_cond rfl (fun h => ?_) (fun h => ?_) <;> (try simp only [gt_iff_lt, ge_iff_le, bne_iff_ne, ne_eq, bne_eq_false_iff_eq, beq_iff_eq, beq_eq_false_iff_ne, Bool.not_eq_true', Bool.not_eq_false', decide_eq_true_eq, decide_eq_false_iff_not, List.length_map] at h)
  · obtain ⟨p, hp⟩ := at_some (xs := xs) (i := i) (by omega)
    refine rn rfl ?_
    refine goal_did rfl rfl (dA_index (eP p) rfl rfl rfl rfl rfl rfl rfl (by omega) (by (try simp); omega) (map_at (by simpa using hp)) rfl) ?_
    refine rn rfl ?_
    refine goal_step (step_call [] rfl rfl rfl rfl rfl rfl (hcl p)) ?_
    rintro σ2 ⟨r, o', ⟨rfl, rfl⟩, hσ⟩
    obtain rfl := Option.some.inj hσ
    clear hσ
    refine rn rfl ?_
    refine goal_cond rfl (fun h2 => ?_) (fun h2 => ?_)
    · refine rn rfl (round_ret (fin_is [] rfl ⟨?_, rfl⟩))
      rw [hidx, drop_at hp]; simp [idxI, h2]
    · refine rn rfl ?_
      refine round_keep (xs.length - (i + 1)) [8, 7, 1, 0] [] (by omega) rfl ⟨_, _, i + 1, wrap64 (by omega) (by omega), rfl, by omega, rfl, ?_, rfl⟩
      rw [hidx, drop_at hp]; simp [idxI, h2]
  · refine rn rfl (round_ext ?_)
    refine rn rfl (fin_is [] rfl ⟨?_, rfl⟩)
    rw [hidx, List.drop_eq_nil_of_le (by omega)]; rfl

theorem containsP2_ct (xs : List Pair) (hb : xs.length ≤ 9223372036854775807) (pred : Pair → Bool) (f : FuncId) (cs ds : List C)
    (hcl : ∀ p, ACalls pk f [.agg (eP p), .one (.fp cs), .one (.fp ds)] [] (fun r o => r = .one (.bool (pred p)) ∧ o = [])) :
    ACalls pk 143 [.one (.fs (xs.map eP)), .one (.fn f [.fp cs, .fp ds])] [] (fun r o => r = .one (.bool (xs.any pred)) ∧ o = []) := by
  refine acalls_of_body Tryz.func143 rfl (by kernel_rfl) rfl ?_
  refine rn rfl ?_
  refine goal_step (step_call [] rfl rfl rfl rfl rfl rfl (indexP2_ct xs hb pred f cs ds hcl)) ?_
  rintro σ2 ⟨r, o', ⟨rfl, rfl⟩, hσ⟩
  obtain rfl := Option.some.inj hσ
  clear hσ
  refine rn rfl ?_
  refine rn rfl (fin_is [] rfl ⟨?_, rfl⟩)
  congr 1; congr 1
  have := idxI_ge (pred := pred) (xs := xs) (i := 0)
  cases h : xs.any pred with
  | true => simp [this.2 h]
  | false => rw [idxI_none.2 h]; rfl

def slotOk (s : Sig) (i : Nat) (p : Param) (x : Slot) : Bool :=
  if p.kind = 2 then !x.given && decide (x.pairs = [])
  else if p.kind = 4 then !x.given && decide (x.list = []) && !x.pairs.any (fun q => takesQ s q.name != (i : Int))
  else if x.given then decide (x.list.length = 1) && decide (x.pairs = [])
  else p.hasD && decide (x.list = []) && decide (x.pairs = [])

def slotAt (s : Sig) (b : Bnds) (i : Nat) : Bool := match s[i]?, b[i]? with
  | some p, some x => slotOk s i p x
  | _, _ => true

def VBi (s : Sig) (b : Bnds) : Bool := okSig s && (decide (b.length = s.length) && ((List.range b.length).all (slotAt s b) && ((BindQ s (unbQ s b)).2 && sameB (BindQ s (unbQ s b)).1 b)))

theorem nil_zero {α : Type} (xs : List α) : (((xs.length : Nat) : Int) == 0) = decide (xs = []) := by
  cases xs with
  | nil => rfl
  | cons x xs =>
    have : ¬ (((x :: xs).length : Nat) : Int) = 0 := by simp only [List.length_cons]; omega
    rw [beq_eq_false_iff_ne.2 this]; simp

theorem slotC_ct (s : Sig) (i : Nat) (q : Pair) (hl : s.length ≤ 1048576) : ACalls pk 144 [.agg (eP q), .one (.fp [.fs (s.map eQ)]), .one (.fp [.int .i64 i])] [] (fun r o => r = .one (.bool (takesQ s q.name != (i : Int))) ∧ o = []) := by
  refine acalls_of_body Tryz.func144 rfl (by kernel_rfl) rfl ?_
  refine rn rfl ?_
  refine goal_draw' [0] 7 rfl ?_
  refine drn [0, 1, 2, 4] (by kernel_rfl) (by kernel_rfl) rfl rfl ?_
  refine AH_one (i := 3) (by kernel_rfl) (step_call [] rfl rfl rfl rfl rfl rfl (itakes_ct s q.name (by omega))) (by simp) ?_
  rintro σ2 ⟨r, o', ⟨rfl, rfl⟩, hσ⟩
  obtain rfl := Option.some.inj hσ
  clear hσ
  refine drn [5, 6] (by kernel_rfl) (by kernel_rfl) rfl rfl ?_
  refine AH_end (by kernel_rfl) ?_
  refine rn rfl ?_
  exact rn rfl (fin_is [] rfl ⟨rfl, rfl⟩)

theorem slotValid_ct (s : Sig) (i : Nat) (p : Param) (x : Slot) (hp : s[i]? = some p) (hl : s.length ≤ 1048576) (hkr : 0 ≤ p.kind ∧ p.kind ≤ 4) (h1 : x.list.length ≤ 1048576) (h2 : x.pairs.length ≤ 1048576) :
    ACalls pk 86 [.agg (eG s), .one (.int .i64 i), .agg (eL x)] [] (fun r o => r = .one (.bool (slotOk s i p x)) ∧ o = []) := by
  have hil := lt_of_some hp
  refine acalls_of_body Tryz.func86 rfl (by kernel_rfl) rfl ?_
  refine rn rfl ?_
  refine goal_did rfl rfl (dA_index (eQ p) rfl rfl rfl rfl rfl rfl rfl (by omega) (by (try simp); omega) (map_at (by simpa using hp)) rfl) ?_
  refine rn rfl ?_
  refine goal_cond rfl (fun hk2 => ?_) (fun hk2 => ?_) <;> (try simp only [gt_iff_lt, ge_iff_le, bne_iff_ne, ne_eq, bne_eq_false_iff_eq, beq_iff_eq, beq_eq_false_iff_ne, Bool.not_eq_true', Bool.not_eq_false', decide_eq_true_eq, decide_eq_false_iff_not, List.length_map] at hk2)
  · refine rn rfl ?_
    refine goal_guard rfl rfl rfl (fun hg => ?_) (fun hg => ?_) <;> (try simp only [gt_iff_lt, ge_iff_le, bne_iff_ne, ne_eq, bne_eq_false_iff_eq, beq_iff_eq, beq_eq_false_iff_ne, Bool.not_eq_true', Bool.not_eq_false', decide_eq_true_eq, decide_eq_false_iff_not, List.length_map] at hg)
    · refine rn rfl ?_
      refine rn rfl (fin_is [] rfl ⟨?_, rfl⟩)
      simp [slotOk, hk2, hg, nil_zero]
    · refine rn rfl (fin_is [] rfl ⟨?_, rfl⟩)
      simp [slotOk, hk2, hg]
  · refine rn rfl ?_
    refine goal_cond rfl (fun hk4 => ?_) (fun hk4 => ?_) <;> (try simp only [gt_iff_lt, ge_iff_le, bne_iff_ne, ne_eq, bne_eq_false_iff_eq, beq_iff_eq, beq_eq_false_iff_ne, Bool.not_eq_true', Bool.not_eq_false', decide_eq_true_eq, decide_eq_false_iff_not, List.length_map] at hk4)
    · refine rn rfl ?_
      refine goal_guard rfl rfl rfl (fun hg => ?_) (fun hg => ?_) <;> (try simp only [gt_iff_lt, ge_iff_le, bne_iff_ne, ne_eq, bne_eq_false_iff_eq, beq_iff_eq, beq_eq_false_iff_ne, Bool.not_eq_true', Bool.not_eq_false', decide_eq_true_eq, decide_eq_false_iff_not, List.length_map] at hg)
      · refine rn rfl ?_
        refine goal_guard rfl rfl rfl (fun hl0 => ?_) (fun hl0 => ?_) <;> (try simp only [gt_iff_lt, ge_iff_le, bne_iff_ne, ne_eq, bne_eq_false_iff_eq, beq_iff_eq, beq_eq_false_iff_ne, Bool.not_eq_true', Bool.not_eq_false', decide_eq_true_eq, decide_eq_false_iff_not, List.length_map] at hl0)
        · have hl1 : x.list = [] := by cases hx : x.list with
            | nil => rfl
            | cons a l => rw [hx] at hl0; simp at hl0; omega
          refine rn rfl ?_
          refine goal_step (step_call [] rfl rfl rfl rfl rfl rfl (containsP2_ct x.pairs (by omega) (fun q => takesQ s q.name != (i : Int)) _ [.fs (s.map eQ)] [.int .i64 i] (fun q => slotC_ct s i q hl))) ?_
          rintro σ2 ⟨r, o', ⟨rfl, rfl⟩, hσ⟩
          obtain rfl := Option.some.inj hσ
          clear hσ
          refine rn rfl ?_
          refine rn rfl (fin_is [] rfl ⟨?_, rfl⟩)
          simp [slotOk, hk2, hk4, hg, hl1]
        · have hl1 : x.list ≠ [] := fun h0 => by rw [h0] at hl0; simp at hl0
          refine rn rfl (fin_is [] rfl ⟨?_, rfl⟩)
          simp [slotOk, hk2, hk4, hg, hl1]
      · refine rn rfl (fin_is [] rfl ⟨?_, rfl⟩)
        simp [slotOk, hk2, hk4, hg]
    · refine rn rfl ?_
      refine goal_cond rfl (fun hg => ?_) (fun hg => ?_) <;> (try simp only [gt_iff_lt, ge_iff_le, bne_iff_ne, ne_eq, bne_eq_false_iff_eq, beq_iff_eq, beq_eq_false_iff_ne, Bool.not_eq_true', Bool.not_eq_false', decide_eq_true_eq, decide_eq_false_iff_not, List.length_map] at hg)
      · refine rn rfl ?_
        refine goal_guard rfl rfl rfl (fun hl0 => ?_) (fun hl0 => ?_) <;> (try simp only [gt_iff_lt, ge_iff_le, bne_iff_ne, ne_eq, bne_eq_false_iff_eq, beq_iff_eq, beq_eq_false_iff_ne, Bool.not_eq_true', Bool.not_eq_false', decide_eq_true_eq, decide_eq_false_iff_not, List.length_map] at hl0)
        · have hl1 : x.list.length = 1   := by omega
          refine rn rfl (fin_is [] rfl ⟨?_, rfl⟩)
          simp [slotOk, hk2, hk4, hg, hl1, nil_zero]
        · have hl1 : x.list.length ≠ 1   := by omega
          refine rn rfl (fin_is [] rfl ⟨?_, rfl⟩)
          simp [slotOk, hk2, hk4, hg, hl1]
      · refine rn rfl ?_
        refine goal_guard rfl rfl rfl (fun hd => ?_) (fun hd => ?_) <;> (try simp only [gt_iff_lt, ge_iff_le, bne_iff_ne, ne_eq, bne_eq_false_iff_eq, beq_iff_eq, beq_eq_false_iff_ne, Bool.not_eq_true', Bool.not_eq_false', decide_eq_true_eq, decide_eq_false_iff_not, List.length_map] at hd)
        · refine rn rfl ?_
          refine goal_guard rfl rfl rfl (fun hl0 => ?_) (fun hl0 => ?_) <;> (try simp only [gt_iff_lt, ge_iff_le, bne_iff_ne, ne_eq, bne_eq_false_iff_eq, beq_iff_eq, beq_eq_false_iff_ne, Bool.not_eq_true', Bool.not_eq_false', decide_eq_true_eq, decide_eq_false_iff_not, List.length_map] at hl0)
          · have hl1 : x.list = [] := by cases hx : x.list with
              | nil => rfl
              | cons a l => rw [hx] at hl0; simp at hl0; omega
            refine rn rfl (fin_is [] rfl ⟨?_, rfl⟩)
            simp [slotOk, hk2, hk4, hg, hd, hl1, nil_zero]
          · have hl1 : x.list ≠ [] := fun h0 => by rw [h0] at hl0; simp at hl0
            refine rn rfl (fin_is [] rfl ⟨?_, rfl⟩)
            simp [slotOk, hk2, hk4, hg, hd, hl1]
        · refine rn rfl (fin_is [] rfl ⟨?_, rfl⟩)
          simp [slotOk, hk2, hk4, hg, hd]

structure SmallB (b : Bnds) : Prop where
  len : b.length ≤ 1048576
  size : ∀ x ∈ b, x.list.length ≤ 1048576 ∧ x.pairs.length ≤ 1048576
  names : ∀ x ∈ b, ∀ q ∈ x.pairs, q.name.length ≤ 9223372036854775807
  tot : cntB b ≤ 1048576

theorem slots_okB {s : Sig} {b : Bnds} (hs : OkS s) (hb : SmallB b) (hlen : b.length = s.length) (hall : ∀ j, j < b.length → slotAt s b j = true) : OkB s b := by
  refine ⟨hlen, hs.len, fun p hp => hs.kindRange hp, fun i p x hp hx hsg hg => ?_, fun x hx => hb.size x hx⟩
  have := hall i (lt_of_some hx)
  unfold slotAt slotOk at this
  rw [hp, hx] at this
  rw [single_kind] at hsg
  simp only at this
  rw [if_neg (by omega), if_neg (by omega), if_pos hg] at this
  simp only [Bool.and_eq_true, decide_eq_true_eq] at this
  exact List.length_eq_one_iff.1 this.1

theorem unb_names {s : Sig} {b : Bnds} (hs : ∀ p ∈ s, p.name.length ≤ 9223372036854775807) (hb : ∀ x ∈ b, ∀ q ∈ x.pairs, q.name.length ≤ 9223372036854775807) : ∀ q ∈ (unbQ s b).named, q.name.length ≤ 9223372036854775807 := by
  have key : ∀ (zs : List (Param × Slot)) (st : Flat × Bool), (∀ z ∈ zs, z.1 ∈ s ∧ z.2 ∈ b) → (∀ q ∈ st.1.named, q.name.length ≤ 9223372036854775807) → ∀ q ∈ (zs.foldl stU st).1.named, q.name.length ≤ 9223372036854775807 := by
    intro zs
    induction zs with
    | nil => intro st _ h; exact h
    | cons z zs ih =>
      intro st hz h
      rw [List.foldl_cons]
      refine ih _ (fun y hy => hz y (by simp [hy])) fun q hq => ?_
      obtain ⟨hz1, hz2⟩ := hz z (by simp)
      unfold stU at hq
      split at hq
      · exact h q hq
      · split at hq
        · simp only [List.mem_append] at hq
          rcases hq with hq | hq
          · exact h q hq
          · exact hb _ hz2 q hq
        · split at hq
          · exact h q hq
          · split at hq
            · exact h q hq
            · simp only [List.mem_append, List.mem_singleton] at hq
              rcases hq with hq | rfl
              · exact h q hq
              · exact hs _ hz1
  exact key (s.zip b) (zF, true) (fun z hz => List.of_mem_zip hz) (by simp [zF])

theorem unb_grow : ∀ (zs : List (Param × Slot)) (st : Flat × Bool), ∃ B, (zs.foldl stU st).1.named = st.1.named ++ B
  | [], st => ⟨[], by simp⟩
  | z :: zs, st => by
    obtain ⟨B, hB⟩ := unb_grow zs (stU st z)
    have : ∃ A, (stU st z).1.named = st.1.named ++ A := by
      unfold stU
      split
      · exact ⟨[], by simp⟩
      · split
        · exact ⟨_, rfl⟩
        · split
          · exact ⟨[], by simp⟩
          · split
            · exact ⟨[], by simp⟩
            · exact ⟨_, rfl⟩
    obtain ⟨A, hA⟩ := this
    exact ⟨A ++ B, by rw [List.foldl_cons, hB, hA, List.append_assoc]⟩

theorem unb_at0 {s : Sig} {b : Bnds} {i : Nat} {p : Param} {x : Slot} (hp : s[i]? = some p) (hx : b[i]? = some x) (hk : p.kind = 4) : ∃ A B, (unbQ s b).named = A ++ x.pairs ++ B := by
  have hz : (s.zip b)[i]? = some (p, x) := List.getElem?_zip_eq_some.2 ⟨hp, hx⟩
  have hsplit : s.zip b = (s.zip b).take i ++ (p, x) :: (s.zip b).drop (i + 1) := by
    conv => lhs; rw [← List.take_append_drop i (s.zip b), drop_at hz]
  unfold unbQ
  rw [hsplit, List.foldl_append, List.foldl_cons]
  obtain ⟨B, hB⟩ := unb_grow ((s.zip b).drop (i + 1)) (stU (((s.zip b).take i).foldl stU (zF, true)) (p, x))
  refine ⟨(((s.zip b).take i).foldl stU (zF, true)).1.named, B, ?_⟩
  rw [hB]
  have h2 : ¬ p.kind = 2 := by omega
  simp [stU, h2, hk]

theorem unb_lenF {s : Sig} {b : Bnds} (hs : LenS s) (hb : SmallB b) (hok : OkB s b) : LenF (unbQ s b) := by
  have h1 := unb_cnt hok
  have h2 := hb.tot
  exact ⟨by omega, by omega, unb_names hs.names hb.names⟩

theorem slot_pairs {s : Sig} {b : Bnds} (hs : OkS s) (hlen : b.length = s.length) (hall : ∀ j, j < b.length → slotAt s b j = true) (hn : (unbQ s b).named.length ≤ 8) : ∀ x ∈ b, x.pairs.length ≤ 12 := by
  intro x hx
  obtain ⟨i, hi⟩ := List.getElem?_of_mem hx
  obtain ⟨p, hp⟩ := at_some (xs := s) (i := i) (by rw [← hlen]; exact lt_of_some hi)
  by_cases hk : p.kind = 4
  · obtain ⟨A, B, hAB⟩ := unb_at0 hp hi hk
    rw [hAB] at hn
    simp only [List.length_append] at hn
    omega
  · have := hall i (lt_of_some hi)
    unfold slotAt slotOk at this
    rw [hp, hi] at this
    simp only at this
    rw [if_neg hk] at this
    have h0 : x.pairs = [] := by
      split at this
      · simp only [Bool.and_eq_true, decide_eq_true_eq] at this; exact this.2
      · split at this
        · simp only [Bool.and_eq_true, decide_eq_true_eq] at this; exact this.2
        · simp only [Bool.and_eq_true, decide_eq_true_eq] at this; exact this.2
    rw [h0]; simp

theorem ivalidBinding_ct (s : Sig) (b : Bnds) (hs : LenS s) (hb : SmallB b) : ACalls pk 39 [.agg (eG s), .agg (eBi b)] [] (fun r o => r = .one (.bool (VBi s b)) ∧ o = []) := by
  have hls := hs
  obtain ⟨s1, s2⟩ := hs
  have hbl := hb.len
  refine acalls_of_body Tryz.func39 rfl (by kernel_rfl) rfl ?_
  refine rn rfl ?_
  refine goal_step (step_call [] rfl rfl rfl rfl rfl rfl (ivalidSig_ct s (by omega) s2)) ?_
  rintro σ2 ⟨r, o', ⟨rfl, rfl⟩, hσ⟩
  obtain rfl := Option.some.inj hσ
  clear hσ
  refine rn rfl ?_
  refine goal_guard rfl rfl rfl (fun h1 => ?_) (fun h1 => ?_) <;> (try simp only [gt_iff_lt, ge_iff_le, bne_iff_ne, ne_eq, bne_eq_false_iff_eq, beq_iff_eq, beq_eq_false_iff_ne, Bool.not_eq_true', Bool.not_eq_false', decide_eq_true_eq, decide_eq_false_iff_not, List.length_map] at h1)
  · refine rn rfl (fin_is [] rfl ⟨?_, rfl⟩)
    simp [VBi, h1]
  have hok := okSig_iff.1 h1
  refine rn rfl ?_
  refine goal_cond rfl (fun h2 => ?_) (fun h2 => ?_) <;> simp only [List.length_map, bne_iff_ne, ne_eq, bne_eq_false_iff_eq] at h2
  · refine rn rfl (fin_is [] rfl ⟨?_, rfl⟩)
    have : b.length ≠ s.length := by omega
    simp [VBi, this]
  have hlen : b.length = s.length := by omega
  refine rn rfl ?_
  refine goal_loop_keep (fun m σ => ∃ (q L : Int) (i : Nat), q = i ∧ L = b.length ∧ i ≤ b.length ∧ m = b.length - i ∧ (∀ j, j < i → slotAt s b j = true) ∧
      σ = ⟨[(24, .one (.int .i64 q)), (23, .one (.int .i64 L)), (22, .one (.fs (b.map eL))), (3, .one (.op 1 0 0)), (2, .one (.op 0 0 0))],
        [some ⟨1, [eG s], false, false, true⟩, some ⟨1, [eBi b], false, false, true⟩], []⟩) b.length [24, 23, 22, 3, 2] [0, 1] rfl
    ⟨_, _, 0, rfl, by simp, by omega, by omega, fun j hj => by omega, rfl⟩ ?_
  rintro m σ ⟨q, L, i, rfl, rfl, hi, rfl, hall, rfl⟩
  refine rn rfl ?_
  refine goal_cond rfl (fun h3 => ?_) (fun h3 => ?_) <;> (try simp only [gt_iff_lt, ge_iff_le, bne_iff_ne, ne_eq, bne_eq_false_iff_eq, beq_iff_eq, beq_eq_false_iff_ne, Bool.not_eq_true', Bool.not_eq_false', decide_eq_true_eq, decide_eq_false_iff_not, List.length_map] at h3)
  · obtain ⟨x, hx⟩ := at_some (xs := b) (i := i) (by omega)
    obtain ⟨p, hp⟩ := at_some (xs := s) (i := i) (by omega)
    obtain ⟨l1, l2⟩ := hb.size x (List.mem_of_getElem? hx)
    refine rn rfl ?_
    refine goal_did rfl rfl (dA_index (eL x) rfl rfl rfl rfl rfl rfl rfl (by omega) (by (try simp); omega) (map_at (by simpa using hx)) rfl) ?_
    refine rn rfl ?_
    refine goal_step (step_call [] rfl rfl rfl rfl rfl rfl (slotValid_ct s i p x hp s1 (hok.kindRange (List.mem_of_getElem? hp)) (by omega) (by omega))) ?_
    rintro σ2 ⟨r, o', ⟨rfl, rfl⟩, hσ⟩
    obtain rfl := Option.some.inj hσ
    clear hσ
    refine rn rfl ?_
    refine goal_cond rfl (fun h4 => ?_) (fun h4 => ?_) <;> simp only [Bool.not_eq_true', Bool.not_eq_false'] at h4
    · refine rn rfl (round_ret (fin_is [] rfl ⟨?_, rfl⟩))
      have h5 : slotAt s b i = false := by unfold slotAt; rw [hp, hx]; exact h4
      have : (List.range b.length).all (slotAt s b) = false := by
        rw [List.all_eq_false]
        exact ⟨i, List.mem_range.2 (by omega), by simp [h5]⟩
      simp [VBi, this]
    · have h5 : slotAt s b i = true := by unfold slotAt; rw [hp, hx]; exact h4
      refine rn rfl ?_
      refine round_keep (b.length - (i + 1)) [24, 23, 22, 3, 2] [0, 1] (by omega) rfl ⟨_, _, i + 1, wrap64 (by omega) (by omega), rfl, by omega, rfl, fun j hj => ?_, rfl⟩
      by_cases hji : j = i
      · subst hji; exact h5
      · exact hall j (by omega)
  · refine rn rfl (round_ext ?_)
    have hall' : ∀ j, j < b.length → slotAt s b j = true := fun j hj => hall j (by omega)
    have hokB := slots_okB hok hb hlen hall'
    have hr : (List.range b.length).all (slotAt s b) = true := by
      rw [List.all_eq_true]; intro j hj; exact hall' j (List.mem_range.1 hj)
    have hV : VBi s b = ((BindQ s (unbQ s b)).2 && sameB (BindQ s (unbQ s b)).1 b) := by unfold VBi; rw [hr, h1, decide_eq_true hlen]; simp only [Bool.true_and]
    have lU := unb_lenF hls hb hokB
    have hU := iunbindD_ct s b hokB
    have hB := iBindD_ct s (unbQ s b) hls lU
    obtain ⟨c1, c2⟩ := bind_small s (unbQ s b)
    have hP : (BindQ s (unbQ s b)).2 = true → ∀ x ∈ b, x.pairs.length ≤ 12 := fun h0 => slot_pairs hok hlen hall' (bindQ_ok h0).2.1.named
    rw [hV]
    generalize unbQ s b = U at *
    generalize (BindQ s U).1 = B at *
    generalize (BindQ s U).2 = ok at *
    refine rt1 9 rfl ?_
    refine goal_cutR (fun σ' => σ' = ⟨[(8, .one (.bool ok)), (7, .one (.op 2 0 0)), (3, .one (.op 1 0 0)), (2, .one (.op 0 0 0))],
      [some ⟨1, [eG s], false, false, true⟩, some ⟨1, [eBi b], false, false, true⟩, some ⟨1, [eBi B], false, false, true⟩], []⟩) ?_ ?_
    · refine goal_draw' [0, 1] 11 rfl ?_
      refine drn [0, 1, 2] (by kernel_rfl) (by kernel_rfl) rfl rfl ?_
      refine AH_two (i := 3) (j := 8) (by kernel_rfl) (step_call [] rfl rfl rfl rfl rfl rfl (hU)) (by simp) (step_did rfl rfl (dA_step rfl)) (mdOk rfl) ?_ ?_
      · rintro σ2 ⟨r, o', ⟨rfl, rfl⟩, hσ⟩
        obtain rfl := Option.some.inj hσ
        clear hσ
        refine AH_two (i := 4) (j := 8) (by kernel_rfl) (step_call [] rfl rfl rfl rfl rfl rfl (hB)) (by simp) (step_did rfl rfl (dA_step rfl)) (mdOk rfl) ?_ ?_
        · rintro σ2 ⟨r, o', ⟨rfl, rfl⟩, hσ⟩
          obtain rfl := Option.some.inj hσ
          clear hσ
          refine drn [5, 6, 7] (by kernel_rfl) (by kernel_rfl) rfl rfl ?_
          refine AH_oneDid 8 rfl (by kernel_rfl) rfl (dA_step rfl) (mdOk rfl) ?_
          refine AH_oneDid 9 rfl (by kernel_rfl) rfl (dA_step rfl) (mdOk rfl) ?_
          refine drn [10] (by kernel_rfl) (by kernel_rfl) rfl rfl ?_
          refine AH_end (by kernel_rfl) ?_
          refine rn rfl ?_
          exact cut_nrm [8, 7, 3, 2] [0, 1, 2] rfl rfl
        · rintro _ rfl
          refine AH_one (i := 4) (by kernel_rfl) (step_call [] rfl rfl rfl rfl rfl rfl (hB)) (by simp) ?_
          rintro σ2 ⟨r, o', ⟨rfl, rfl⟩, hσ⟩
          obtain rfl := Option.some.inj hσ
          clear hσ
          refine drn [5, 6, 7] (by kernel_rfl) (by kernel_rfl) rfl rfl ?_
          refine AH_oneDid 9 rfl (by kernel_rfl) rfl (dA_step rfl) (mdOk rfl) ?_
          refine drn [10] (by kernel_rfl) (by kernel_rfl) rfl rfl ?_
          refine AH_end (by kernel_rfl) ?_
          refine rn rfl ?_
          exact cut_nrm [8, 7, 3, 2] [0, 1, 2] rfl rfl
      · rintro _ rfl
        refine AH_one (i := 3) (by kernel_rfl) (step_call [] rfl rfl rfl rfl rfl rfl (hU)) (by simp) ?_
        rintro σ2 ⟨r, o', ⟨rfl, rfl⟩, hσ⟩
        obtain rfl := Option.some.inj hσ
        clear hσ
        refine AH_one (i := 4) (by kernel_rfl) (step_call [] rfl rfl rfl rfl rfl rfl (hB)) (by simp) ?_
        rintro σ2 ⟨r, o', ⟨rfl, rfl⟩, hσ⟩
        obtain rfl := Option.some.inj hσ
        clear hσ
        refine drn [5, 6, 7] (by kernel_rfl) (by kernel_rfl) rfl rfl ?_
        refine AH_oneDid 9 rfl (by kernel_rfl) rfl (dA_step rfl) (mdOk rfl) ?_
        refine drn [10] (by kernel_rfl) (by kernel_rfl) rfl rfl ?_
        refine AH_end (by kernel_rfl) ?_
        refine rn rfl ?_
        exact cut_nrm [8, 7, 3, 2] [0, 1, 2] rfl rfl
    rintro _ rfl
    refine rn rfl ?_
    refine goal_guard rfl rfl rfl (fun h6 => ?_) (fun h6 => ?_) <;> (try simp only [gt_iff_lt, ge_iff_le, bne_iff_ne, ne_eq, bne_eq_false_iff_eq, beq_iff_eq, beq_eq_false_iff_ne, Bool.not_eq_true', Bool.not_eq_false', decide_eq_true_eq, decide_eq_false_iff_not, List.length_map] at h6)
    · refine rn rfl ?_
      refine goal_step (step_call [] rfl rfl rfl rfl rfl rfl (isameB_ct B b (by omega) (fun x hx => small_of (c2 x hx)) (fun x hx => ⟨by have := (hb.size x hx).1; omega, hP h6 x hx⟩))) ?_
      rintro σ2 ⟨r, o', ⟨rfl, rfl⟩, hσ⟩
      obtain rfl := Option.some.inj hσ
      clear hσ
      refine rn rfl ?_
      refine rn rfl (fin_is [] rfl ⟨?_, rfl⟩)
      simp [h6]
    · refine rn rfl (fin_is [] rfl ⟨?_, rfl⟩)
      simp [h6]

section

variable {s : Sig} {f : Flat} {b : Bnds}

theorem Given.bind (h : Given s f b) : BindQ s f = (b, true) := by
  have hb : (BindQ s f).2 = true := by rw [bind_ok h.sig h.flat]; exact h.acc
  obtain ⟨_, _, _, heq⟩ := bindQ_ok hb
  rw [heq, ← h.eq]

theorem Given.valid (h : Given s f b) : VBi s b = true := by
  have hag := h.again
  have hb := hag.bind
  have hr : (List.range b.length).all (slotAt s b) = true := by
    rw [List.all_eq_true]
    intro i hi
    have hi' := List.mem_range.1 hi
    obtain ⟨p, hp⟩ := at_some (xs := s) (i := i) (by rw [← h.len]; exact hi')
    have hx := h.get hp
    unfold slotAt
    rw [hp, hx]
    simp only
    have hkr := h.sig.kindRange (List.mem_of_getElem? hp)
    unfold slotOk
    by_cases hk2 : p.kind = 2
    · rw [if_pos hk2, give_rest hk2]; simp
    rw [if_neg hk2]
    by_cases hk4 : p.kind = 4
    · rw [if_pos hk4]
      unfold giveQ
      rw [if_pos hk4]
      simp
    rw [if_neg hk4]
    have hsg : singleQ p = true := single_kind.2 (by omega)
    have hsh := give_shape (s := s) (pl := f.places) (qs := f.named) (i := i) (p := p) hsg
    cases hg : (giveQ s f.places f.named i p).given with
    | true => rw [hsh.1 hg]; simp
    | false =>
      have h3 := ((acc_iff h.sig h.flat).1 h.acc).2.2
      have h4 := lack_iff.1 h3 i p hp hsg
      rw [give_given hsg] at hg
      simp only [Bool.or_eq_false_iff, Bool.and_eq_false_iff] at hg
      have hd : p.hasD = true := by
        rcases h4 with h4 | h4 | ⟨h4, h5⟩
        · exact h4
        · rw [hg.1] at h4; cases h4
        · rcases hg.2 with h6 | h6
          · rw [h4] at h6; cases h6
          · rw [h5] at h6; cases h6
      have hg' : (giveQ s f.places f.named i p).given = false := by
        rw [give_given hsg, hg.1]
        rcases hg.2 with h6 | h6 <;> simp [h6]
      rw [hsh.2 hg']
      simp [zL, hd]
  unfold VBi
  rw [hr, hb, okSig_iff.2 h.sig, decide_eq_true h.len, sameB_self]
  rfl

theorem Given.small (h : Given s f b) (hn : ∀ q ∈ f.named, q.name.length ≤ 9223372036854775807) : SmallB b := by
  obtain ⟨c1, c2⟩ := bound_small h.sig h.flat
  rw [← h.eq] at c1 c2
  refine ⟨by omega, fun x hx => ⟨by have := (c2 x hx).1; omega, by have := (c2 x hx).2; omega⟩, fun x hx q hq => ?_, ?_⟩
  rotate_left
  · have := cntB_bound (M := 100) (b := b) (fun x hx => by have := c2 x hx; unfold cntL; omega)
    omega
  obtain ⟨i, hi⟩ := List.getElem?_of_mem hx
  obtain ⟨p, hp⟩ := at_some (xs := s) (i := i) (by rw [← h.len]; exact lt_of_some hi)
  rw [h.at hp hi] at hq
  unfold giveQ at hq
  split at hq
  · exact hn q (List.mem_filter.1 hq).1
  · split at hq
    · split at hq <;> simp [zL] at hq
    · unfold place1 at hq
      split at hq
      · simp at hq
      · split at hq <;> simp [zL] at hq

end

theorem cntB_set : ∀ {b : Bnds} {j : Nat} {x : Slot} (y : Slot), b[j]? = some x → cntB (b.set j y) + cntL x = cntB b + cntL y
  | [], j, x, y, h => by simp at h
  | z :: b, 0, x, y, h => by
    simp at h; subst h
    simp only [List.set_cons_zero, cntB, List.map_cons, List.sum_cons]; omega
  | z :: b, j + 1, x, y, h => by
    have := cntB_set (b := b) (j := j) y (by simpa using h)
    simp only [List.set_cons_succ, cntB, List.map_cons, List.sum_cons] at this ⊢
    omega

theorem cntB_take {b : Bnds} {i : Nat} {x : Slot} (h : b[i]? = some x) : cntB (b.take (i + 1)) = cntB (b.take i) + cntL x := by
  unfold cntB
  rw [← take_snoc h, List.map_append, List.sum_append]
  simp

section

variable {s : Sig}

theorem phase_cnt (hs : OkS s) {pl : List Int} (hm : placesQ s < pl.length → s.any (kIs 2) = true) : cntB (phase1 s pl) = pl.length := by
  have hP := placesQ_le s
  have key : ∀ i, i ≤ s.length → cntB ((phase1 s pl).take i) = min (min i (placesQ s)) pl.length + (if (s.take i).any (kIs 2) then pl.length - placesQ s else 0) := by
    intro i
    induction i with
    | zero => intro _; simp [cntB]
    | succ i ih =>
      intro hi
      obtain ⟨p, hp⟩ := at_some (xs := s) (i := i) (by omega)
      have hx : (phase1 s pl)[i]? = some (place1 (placesQ s) pl i p) := by simp [phase1, hp]
      rw [cntB_take hx, ih (by omega), ← take_snoc hp, List.any_append]
      have hpi := hs.placed_iff hp
      by_cases hk2 : p.kind = 2
      · have hnp : ¬ i < placesQ s := fun h0 => by have := hpi.2 h0; rw [placed_kind] at this; omega
        have hpf : placedQ p = false := by
          cases h : placedQ p with
          | false => rfl
          | true => rw [placed_kind] at h; omega
        have hno : (s.take i).any (kIs 2) = false := by
          rw [List.any_eq_false]
          intro q hq hqk
          obtain ⟨j, hj⟩ := List.getElem?_of_mem hq
          rw [List.getElem?_take] at hj
          split at hj
          · have := hs.one hj hp (by simp [kIs] at hqk; omega) (by simp [singleQ, placedQ, hk2]); omega
          · cases hj
        rw [hno]
        have h1 : place1 (placesQ s) pl i p = ⟨false, pl.drop (placesQ s), []⟩ := by simp [place1, hpf, hk2]
        have h2 : [p].any (kIs 2) = true := by simp [kIs, hk2]
        rw [h1, h2]
        simp only [cntL, List.length_drop, List.length_nil, Bool.or_true, if_true, Bool.false_eq_true, if_false]
        omega
      · have h2 : [p].any (kIs 2) = false := by simp [kIs, hk2]
        rw [h2, Bool.or_false]
        by_cases hb : placedQ p = true ∧ i < pl.length
        · have h1 : place1 (placesQ s) pl i p = ⟨true, [pl.getD i 0], []⟩ := by simp [place1, hb]
          have := hpi.1 hb.1
          rw [h1]
          simp only [cntL, List.length_cons, List.length_nil]
          omega
        · have h1 : place1 (placesQ s) pl i p = zL := by
            have : (placedQ p && decide (i < pl.length)) = false := by
              cases h : placedQ p with
              | false => rfl
              | true => simp; exact Nat.le_of_not_lt fun h0 => hb ⟨h, h0⟩
            simp [place1, this, hk2]
          have hq : ¬ i < placesQ s ∨ pl.length ≤ i := by
            by_cases h0 : i < placesQ s
            · exact .inr (Nat.le_of_not_lt fun h3 => hb ⟨hpi.2 h0, h3⟩)
            · exact .inl h0
          rw [h1]
          simp only [cntL, zL, List.length_nil]
          omega
  have h1 := key s.length (Nat.le_refl _)
  rw [List.take_of_length_le (by rw [phase1_len]; exact Nat.le_refl _), List.take_length] at h1
  rw [h1]
  by_cases hr : s.any (kIs 2) = true
  · rw [if_pos hr]; omega
  · rw [if_neg hr]
    have : ¬ placesQ s < pl.length := fun h0 => hr (hm h0)
    omega

theorem closed_cnt (hs : OkS s) {pl : List Int} (hm : placesQ s < pl.length → s.any (kIs 2) = true) : ∀ (rs qs : List Pair), (namesOf (qs ++ rs)).Nodup → (∀ q ∈ rs, wrongQ s pl q = none) →
    cntB (closedQ s pl (qs ++ rs)).1 = cntB (closedQ s pl qs).1 + rs.length
  | [], qs, _, _ => by simp
  | r :: rs, qs, hnd, hw => by
    have hr : r.name ∉ namesOf qs := by
      intro h0
      simp only [namesOf, List.map_append, List.map_cons] at hnd h0
      exact (List.nodup_append.1 hnd).2.2 _ h0 _ (List.mem_cons_self ..) rfl
    have ih := closed_cnt hs hm rs (qs ++ [r]) (by simpa using hnd) (fun q hq => hw q (by simp [hq]))
    have e : qs ++ [r] ++ rs = qs ++ r :: rs := by simp
    rw [e] at ih
    rw [ih]
    have hone : cntB (closedQ s pl (qs ++ [r])).1 = cntB (closedQ s pl qs).1 + 1 := by
      rw [← closed_step hs hr]
      have hwr := hw r (by simp)
      have hg := (wrong_iff (s := s) (pl := pl) (q := r)).1 hwr
      obtain ⟨p, hp, hlt, hk⟩ := takesQ_some (show ¬ takesQ s r.name < 0 by omega)
      have hat : takesQ s r.name = ((takesQ s r.name).toNat : Nat) := by omega
      generalize hj : (takesQ s r.name).toNat = j at hp hat hg
      have hx : (closedQ s pl qs).1[j]? = some (giveQ s pl qs j p) := by simp [closedQ, hp]
      by_cases h4 : p.kind = 4
      · rw [stepB_map hat hp hx h4]
        have := cntB_set (b := (closedQ s pl qs).1) (j := j) ⟨(giveQ s pl qs j p).given, (giveQ s pl qs j p).list, (giveQ s pl qs j p).pairs ++ [r]⟩ hx
        simp only [cntL, List.length_append, List.length_cons, List.length_nil] at this ⊢
        omega
      · have hn : namedQ p = true ∧ p.name = r.name := by
          rcases hk with h | h
          · exact h
          · exact absurd h h4
        have hsg : singleQ p = true := by rw [single_kind]; have := named_kind.1 hn.1; omega
        have hnf : qs.any (nameIs p.name) = false := by
          cases ha : qs.any (nameIs p.name) with
          | false => rfl
          | true => rw [hn.2] at ha; exact absurd (any_names.1 ha) hr
        have hgv : (giveQ s pl qs j p).given = false := by
          rw [give_given hsg, hg.2 p hp h4, hnf]; simp
        have hz := (give_shape (s := s) (pl := pl) (qs := qs) (i := j) (p := p) hsg).2 hgv
        rw [stepB_set hat hp hx h4 hgv]
        have := cntB_set (b := (closedQ s pl qs).1) (j := j) ⟨true, [r.value], []⟩ hx
        rw [hz] at this
        simp only [cntL, zL, List.length_cons, List.length_nil] at this ⊢
        omega
    rw [hone]
    simp only [List.length_cons]
    omega

end

section

variable {s : Sig} {f : Flat} {b : Bnds}

theorem Given.count (h : Given s f b) : cntB b = f.places.length + f.named.length := by
  obtain ⟨h1, h2, _⟩ := (acc_iff h.sig h.flat).1 h.acc
  rw [h.eq, bound_closed h.sig h.flat.nodup]
  have := closed_cnt h.sig h1 f.named [] (by simpa using h.flat.nodup) h2
  simp only [List.nil_append] at this
  rw [this, closed_nil]
  simp only
  rw [phase_cnt h.sig h1]

end

end Go.Proofs.YtbenojnoepkgbaaGreat
