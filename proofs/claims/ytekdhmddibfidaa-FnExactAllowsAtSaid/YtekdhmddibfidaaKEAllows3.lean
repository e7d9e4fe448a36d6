/- Part 3 of the proof: an abstract machine over the model; contracts of the functions that the law reaches. -/
import Derived.Test.YtekdhmddibfidaaKEAllows2
set_option linter.unusedVariables false
set_option linter.unusedSimpArgs false
namespace Go.Proofs.Ytekdhmddibfidaa
open Go
set_option maxRecDepth 100000
set_option maxHeartbeats 1000000

/-- All of the memory, zs data. -/
def allD (w : World) (b : Nat) : Prop := b < w.heap.size

/-- A value of type 't' that can be read is some 'a', its cells told by 'enc'. -/
def Opens (P : Program) (t : TypeId) {α : Type} (enc : α → List C) (ok : α → Prop) : Prop :=
  ∀ (H : Type) (en : TypeId × Value → H) (w : World) (fuel : Nat) (cs : List Value) (x : DataW H × List MemPlace), DataW.trod en P w 0 (fun _ => true) true fuel t cs = some x →
    ∃ a : α, ok a ∧ CRp (allD w) w.heap [] (enc a) cs ∧ cs.length = (enc a).length

theorem opens_int {P : Program} {t : TypeId} (ht : P.underlying t = some (.int .i64)) : Opens P t (fun n : Int => [.int .i64 n]) (fun _ => True) := by
  intro H en w fuel cs x h
  obtain ⟨n, rfl, _, _⟩ := DataW.trod_int ht h
  exact ⟨n, trivial, by simp [CRp, CR], rfl⟩

theorem opens_bool {P : Program} {t : TypeId} (ht : P.underlying t = some .bool) : Opens P t (fun n : Bool => [.bool n]) (fun _ => True) := by
  intro H en w fuel cs x h
  obtain ⟨n, rfl, _⟩ := DataW.trod_bool ht h
  exact ⟨n, trivial, by simp [CRp, CR], rfl⟩

theorem opens_str {P : Program} {t : TypeId} (ht : P.underlying t = some .string) : Opens P t (fun s : Str => [.str s]) (fun s => s.length ≤ 9223372036854775807) := by
  intro H en w fuel cs x h
  obtain ⟨s, rfl, _, hl⟩ := DataW.trod_string ht h
  refine ⟨s.data.toList, ?_, ?_, rfl⟩
  · have h1 : s.size = s.data.toList.length := (Array.length_toList).symm
    show s.data.toList.length ≤ _
    rw [← h1]
    exact Nat.le_trans hl (by decide)
  · simp only [CRp, CR, and_true]

theorem opens_slice {P : Program} {t e : TypeId} {α : Type} {enc : α → List C} {ok : α → Prop} {sz : Nat} (ht : P.underlying t = some (.slice e)) (hc : P.cellsOf e = sz) (h0 : 0 < sz) (hl : ∀ a, (enc a).length = sz) (he : Opens P e enc ok) :
    Opens P t (fun xs : List α => [.fs (xs.map enc)]) (fun xs => xs.length ≤ 9223372036854775807 ∧ ∀ x ∈ xs, ok x) := by
  intro H en w fuel cs x h
  rcases DataW.trod_slice ht h with ⟨rfl, _⟩ | ⟨a, len, cap, elems, rest, n, _, rfl, _, _, hlc, hm, hlen, hel, _, _⟩
  · refine ⟨[], by simp, ?_, rfl⟩
    simp only [CRp, CR, List.map_nil, List.length_nil, and_true]
    exact ⟨none, 0, rfl, Nat.le_refl _, .inl trivial⟩
  · have each : ∀ i, i < len → ∃ cs' : List Value, w.cells? 0 (a.add (i * sz)) sz = some cs' ∧ ∃ b : α, ok b ∧ CRp (allD w) w.heap [] (enc b) cs' ∧ cs'.length = (enc b).length := by
      intro i hi
      have := hel i hi
      rw [hc] at this
      obtain ⟨y, hy⟩ : ∃ y, elems[i]? = some y := ⟨elems[i], by simp [hlen, hi]⟩
      rw [hy, Option.bind_eq_some_iff] at this
      obtain ⟨cs', h1, h2⟩ := this
      obtain ⟨b, hb⟩ := he H en w n cs' y h2
      exact ⟨cs', h1, b, hb⟩
    have hxs : ∀ k, k ≤ len → ∃ xs : List α, xs.length = k ∧ (∀ x ∈ xs, ok x) ∧ ∀ (i : Nat) (b : α), xs[i]? = some b → ∃ cs', w.cells? 0 (a.add (i * sz)) sz = some cs' ∧ CRp (allD w) w.heap [] (enc b) cs' := by
      intro k
      induction k with
      | zero => intro _; exact ⟨[], rfl, by simp, by simp⟩
      | succ k ih =>
        intro hk
        obtain ⟨xs, q1, q2, q3⟩ := ih (by omega)
        obtain ⟨cs', h1, b, hb1, hb2, _⟩ := each k (by omega)
        refine ⟨xs ++ [b], by simp [q1], ?_, ?_⟩
        · intro x hx
          rcases List.mem_append.1 hx with hx | hx
          · exact q2 x hx
          · simp at hx; subst hx; exact hb1
        · intro i b' hi
          rw [getElem?_app_one] at hi
          split at hi
          · exact q3 i b' hi
          · split at hi
            · rename_i heq
              simp at hi
              subst hi
              rw [heq, q1]
              exact ⟨cs', h1, hb2⟩
            · cases hi
    obtain ⟨xs, q1, q2, q3⟩ := hxs len (Nat.le_refl _)
    refine ⟨xs, ⟨?_, q2⟩, ?_, rfl⟩
    · rw [q1]; exact Nat.le_trans (Nat.le_trans hlc hm) (by decide)
    · simp only [CRp, CR, and_true]
      refine ⟨some a, cap, by simp [q1], by simpa [q1] using hlc, ?_⟩
      rcases Nat.eq_zero_or_pos len with hz | hz
      · left
        have : xs = [] := List.eq_nil_of_length_eq_zero (by omega)
        simp [this]
      · right
        obtain ⟨b0, hb0⟩ : ∃ b, xs[0]? = some b := ⟨xs[0], by simp [q1, hz]⟩
        obtain ⟨cs0, hc0, _⟩ := q3 0 b0 hb0
        have hcell0 := (World.cells?_some hc0).2.2 0 (by omega)
        have hl0 := (World.cells?_some hc0).1
        -- where the row lies
        obtain ⟨cells, tt, fr, hh, hs⟩ : ∃ cells tt fr, w.heap[a.block]? = some (.cells cells tt fr) ∧ a.spot = none := by
          have hv : ∃ v, w.cell? a = some v := by
            have h2 : a.add (0 * sz) = a := by simp [Addr.add]
            rw [h2] at hcell0
            have h3 : a.add 0 = a := by simp [Addr.add]
            rw [h3] at hcell0
            have : cs0[0]? ≠ none := by
              have h4 : cs0.length = sz := by
                have := World.cells?_some hc0
                first | exact this.1 | exact this.2.1
              rw [List.getElem?_eq_getElem (by omega)]; simp
            exact ⟨cs0[0]?.get (by cases hx : cs0[0]? with | none => exact absurd hx this | some v => rfl), by rw [hcell0]; simp⟩
          obtain ⟨v, hv⟩ := hv
          unfold World.cell? at hv
          split at hv
          · rename_i cells tt fr hh
            split at hv
            · cases hv
            · rename_i hsp
              exact ⟨cells, tt, fr, hh, by cases hq : a.spot with | none => rfl | some _ => rw [hq] at hsp; simp at hsp⟩
          · cases hv
        refine ⟨a, cells, tt, fr, sz, rfl, hs, (Array.getElem?_eq_some_iff.1 hh).1, hh, ?_⟩
        rw [CRr_iff]
        intro i r hi
        rw [List.getElem?_map] at hi
        cases hxi : xs[i]? with
        | none => rw [hxi] at hi; simp at hi
        | some b =>
          rw [hxi] at hi
          simp at hi
          subst hi
          obtain ⟨cs', hc', hr'⟩ := q3 i b hxi
          refine ⟨hl b, CRp.congr (fun j hj => ?_) hr'⟩
          rw [hl b] at hj
          have := (World.cells?_some hc').2.2 j hj
          rw [← this]
          have ha : (a.add (i * sz)).add j = ⟨a.block, a.off + i * sz + j, none⟩ := by rw [add_eq a _ hs, add_eq _ _ rfl]
          rw [ha, List.getElem?_drop]
          simp [World.cell?, hh, Nat.add_assoc]

/-- The fields of a struct, one by one. -/
def OpensF (P : Program) (fs : List (Nat × TypeId)) (off : Nat) {α : Type} (enc : α → List C) (ok : α → Prop) : Prop :=
  ∀ (H : Type) (en : TypeId × Value → H) (w : World) (fuel : Nat) (cs : List Value), (∀ f ∈ fs, ∃ x : DataW H × List MemPlace, DataW.trod en P w 0 (fun _ => true) true fuel f.2 ((cs.drop f.1).take (P.cellsOf f.2)) = some x) →
    ∃ a : α, ok a ∧ CRp (allD w) w.heap [] (enc a) (cs.drop off)

theorem opensF_nil {P : Program} {off : Nat} : OpensF P [] off (fun _ : Unit => []) (fun _ => True) := by
  intro H en w fuel cs _
  exact ⟨(), trivial, by simp [CRp]⟩

theorem opensF_cons {P : Program} {t : TypeId} {fs : List (Nat × TypeId)} {off off' : Nat} {α β : Type} {enc : α → List C} {enc' : β → List C} {ok : α → Prop} {ok' : β → Prop}
    (h1 : Opens P t enc ok) (hl : ∀ a, (enc a).length = off' - off) (hle : off ≤ off') (h2 : OpensF P fs off' enc' ok') : OpensF P ((off, t) :: fs) off (fun ab : α × β => enc ab.1 ++ enc' ab.2) (fun ab => ok ab.1 ∧ ok' ab.2) := by
  intro H en w fuel cs hf
  obtain ⟨x, hx⟩ := hf (off, t) (by simp)
  obtain ⟨a, ha, hr, hlen⟩ := h1 H en w fuel _ x hx
  obtain ⟨b, hb, hr'⟩ := h2 H en w fuel cs (fun f hf' => hf f (by simp [hf']))
  refine ⟨(a, b), ⟨ha, hb⟩, ?_⟩
  rw [CRp.app, hl a]
  refine ⟨?_, by rw [List.drop_drop, show off + (off' - off) = off' by omega]; exact hr'⟩
  have := CRp.more (r := (cs.drop off).drop (P.cellsOf t)) hr
  rwa [List.take_append_drop] at this

theorem opens_struct {P : Program} {t : TypeId} {fs : Array Field} {α : Type} {enc : α → List C} {ok : α → Prop} {sz : Nat} (ht : P.underlying t = some (.struct fs)) (hc : P.cellsOf t = sz) (hl : ∀ a, (enc a).length = sz)
    (h : OpensF P (fs.toList.map fun f => (f.offset, f.type)) 0 enc ok) : Opens P t enc ok := by
  intro H en w fuel cs x hx
  obtain ⟨xs, n, _, _, h1, h2, h3⟩ := DataW.trod_struct ht hx
  obtain ⟨a, ha, hr⟩ := h H en w n cs (fun f hf => by
    obtain ⟨g, hg, rfl⟩ := List.mem_map.1 hf
    obtain ⟨i, hi⟩ := List.getElem?_of_mem hg
    have hi' : fs[i]? = some g := by simpa using hi
    have := h3 i g hi'
    have hlt : i < xs.length := by rw [h2]; exact (Array.getElem?_eq_some_iff.1 hi').1
    exact ⟨xs[i], by rw [this]; simp [hlt]⟩)
  exact ⟨a, ha, by simpa using hr, by rw [h1, hc, hl a]⟩

section
open Go Go.ChangeShapes Go.WideShapes Go.ChangeAt Go.RowKit
theorem TIok.cellsOf {P : Program} {t : Nat} {ti : TI} (H : TIok P t ti) : P.cellsOf t = ti.size := by
  obtain ⟨i, z, hi, hs, _⟩ := H.info
  simp [Program.cellsOf, hi, hs]

section

variable {X : Pk} {t : Nat} {ti te : TI}

theorem xo_int (h : findTI X.L t = some ti) (hk : ti.kind = 4) (hik : ti.ik = .i64) : Opens X.P t (fun n : Int => [.int .i64 n]) (fun _ => True) := by
  have := (X.tiok h).int hk
  rw [hik] at this
  exact opens_int this

theorem xo_bool (h : findTI X.L t = some ti) (hk : ti.kind = 5) : Opens X.P t (fun n : Bool => [.bool n]) (fun _ => True) := opens_bool ((X.tiok h).bool hk)

theorem xo_str (h : findTI X.L t = some ti) (hk : ti.kind = 1) : Opens X.P t (fun s : Str => [.str s]) (fun s => s.length ≤ 9223372036854775807) := opens_str ((X.tiok h).string hk)

theorem xo_slice {α : Type} {enc : α → List C} {ok : α → Prop} (h : findTI X.L t = some ti) (hk : ti.kind = 2) (he : findTI X.L ti.elem = some te) (h0 : Nat.blt 0 te.size = true) (hl : ∀ a, (enc a).length = te.size) (hE : Opens X.P ti.elem enc ok) :
    Opens X.P t (fun xs : List α => [.fs (xs.map enc)]) (fun xs => xs.length ≤ 9223372036854775807 ∧ ∀ x ∈ xs, ok x) :=
  opens_slice ((X.tiok h).slice hk) (X.tiok he).cellsOf (by simpa [Nat.blt_eq] using h0) hl hE

theorem xo_struct {α : Type} {enc : α → List C} {ok : α → Prop} (h : findTI X.L t = some ti) (hk : ti.kind = 3) (hl : ∀ a, (enc a).length = ti.size) (hF : OpensF X.P ti.fields 0 enc ok) : Opens X.P t enc ok := by
  obtain ⟨fs, hu, hfs⟩ := (X.tiok h).struct hk
  exact opens_struct hu (X.tiok h).cellsOf hl (by rw [hfs]; exact hF)

end

theorem Opens.map {P : Program} {t : TypeId} {α β : Type} {enc : α → List C} {ok : α → Prop} {enc' : β → List C} {ok' : β → Prop} (h : Opens P t enc ok) (g : α → β) (he : ∀ a, enc' (g a) = enc a) (ho : ∀ a, ok a → ok' (g a)) : Opens P t enc' ok' := by
  intro H en w fuel cs x hx
  obtain ⟨a, h1, h2, h3⟩ := h H en w fuel cs x hx
  exact ⟨g a, ho a h1, by rw [he]; exact h2, by rw [he]; exact h3⟩

/-- A law's contract, zs a call from any memory. -/
theorem law_calls {X : Pk} {f : FuncId} {args : List T} {vals : Array Value} {w : World} (h : ACalls X f args [] (fun r o => r = .one (.bool true) ∧ o = [])) (ha : TRs (allD w) w.heap [] args vals.toList) :
    Calls X.P f vals w fun e w' => e = .returned (.bool true) ∧ Below w.heap.size w w' := by
  have hsr : SR (allD w) w.heap [] [] := ⟨rfl, by simp, by simp, by simp, fun b hb => hb⟩
  refine (h.2 (allD w) [] w vals.toList hsr ha (by simp)).mono ?_
  rintro en w' ⟨v, r, o', D', e', rfl, ⟨rfl, rfl⟩, htr, _, hext, _⟩
  simp only [TR, CR] at htr
  subst htr
  refine ⟨rfl, hext.os, hext.tape, hext.output, hext.size, fun k hk => hext.block k hk ?_⟩
  rintro ⟨id, a, esz, cap, n, he, _⟩
  simp at he
end

section
open Go Go.ChangeShapes
theorem cells_of_okWide {P : Program} {W : World} {r : Reach} {base : Nat} {t : TypeId} {v : Value} (hu : (∃ e, P.underlying t = some (.slice e)) ∨ (∃ k, P.underlying t = some (.int k)) ∨ P.underlying t = some .string)
    (h : Value.okWide P W r base t v) : v.cells.toList = [v] := by
  rcases hu with ⟨e, hu⟩ | ⟨k, hu⟩ | hu <;> cases v <;> first
    | rfl
    | (exfalso; simp [Value.okWide, hu, Cell.okWide, Cell.ok] at h)

theorem agg_of_okWide {P : Program} {W : World} {r : Reach} {base : Nat} {t : TypeId} {v : Value} {fs : Array Field} (hu : P.underlying t = some (.struct fs)) (h : Value.okWide P W r base t v) : ∃ cs, v = .agg cs := by
  unfold Value.okWide at h
  rw [hu] at h
  obtain ⟨cs, h2, _⟩ := h
  exact ⟨cs, h2⟩
end

section
open Go Go.ChangeShapes
theorem openInt : Opens pk.P 3 (fun n : Int => [.int .i64 n]) (fun _ => True) := xo_int rfl rfl rfl

theorem openStr : Opens pk.P 9 (fun s : Str => [.str s]) (fun s => s.length ≤ 9223372036854775807) := xo_str rfl rfl
end

section
open Go Go.ChangeShapes
structure FitsS (s : Sig) : Prop where
  len : s.length ≤ 9223372036854775807
  names : ∀ p ∈ s, p.name.length ≤ 9223372036854775807

def ParamOk (p : Param) : Prop := p.name.length ≤ 9223372036854775807

theorem openParam : Opens pk.P 133 eQ ParamOk :=
  Opens.map (xo_struct (α := Str × Int × Bool × Int × Unit) rfl rfl (fun _ => rfl) (opensF_cons (off' := 1) (xo_str rfl rfl) (fun _ => rfl) (by omega) (opensF_cons (off' := 2) (xo_int rfl rfl rfl) (fun _ => rfl) (by omega)
    (opensF_cons (off' := 3) (xo_bool rfl rfl) (fun _ => rfl) (by omega) (opensF_cons (off' := 4) (xo_int rfl rfl rfl) (fun _ => rfl) (by omega) opensF_nil)))))
    (fun x => ⟨x.1, x.2.1, x.2.2.1, x.2.2.2.1⟩) (fun _ => rfl) (fun _ h => h.1)

theorem openSig : Opens pk.P 46 eG FitsS :=
  Opens.map (xo_struct (α := List Param × Unit) rfl rfl (fun _ => rfl) (opensF_cons (off' := 1) (xo_slice rfl rfl rfl rfl (fun _ => rfl) openParam) (fun _ => rfl) (by omega) opensF_nil))
    (fun x => x.1) (fun _ => rfl) (fun _ h => ⟨h.1.1, h.1.2⟩)
end

theorem szParam_ct (p : Param) (k : Int) (hk : 0 ≤ k) (hk' : k ≤ 1048576) (hl : p.name.length ≤ 9223372036854775807) :
    ACalls pk 107 [.agg (eQ p), .one (.int .i64 k)] [] (fun r o => r = .one (.int .i64 (szLen p.name.length k)) ∧ o = []) := by
  refine acalls_of_body Try.func107 rfl (by kernel_rfl) rfl ?_
  refine rn rfl ?_
  have hw := wrap64 (n := k - p.name.length) (by omega) (by omega)
  refine goal_cond rfl (fun h => ?_) (fun h => ?_) <;> simp only [decide_eq_true_eq, decide_eq_false_iff_not, hw] at h
  · refine rn rfl (fin_is [] rfl ⟨?_, rfl⟩)
    simp only [szLen, h, if_true]
  · refine rn rfl (fin_is [] rfl ⟨?_, rfl⟩)
    simp only [szLen, h, if_false, hw]

def szAllQ : List Param → Int → Int
  | [], k => k
  | p :: ps, k => if szLen p.name.length k < 0 then -1 else szAllQ ps (szLen p.name.length k)

def szParamS (ps : List Param) (k : Int) : Int := if szLen ps.length k < 0 then -1 else szAllQ ps (szLen ps.length k)

theorem szParamS_ct (ps : List Param) (k : Int) (hk : 0 ≤ k) (hk' : k ≤ 1048576) (hl : ps.length ≤ 9223372036854775807) (hn : ∀ p ∈ ps, p.name.length ≤ 9223372036854775807) :
    ACalls pk 55 [.one (.fs (ps.map eQ)), .one (.int .i64 k)] [] (fun r o => r = .one (.int .i64 (szParamS ps k)) ∧ o = []) := by
  refine acalls_of_body Try.func55 rfl (by kernel_rfl) rfl ?_
  refine rn rfl ?_
  have hw := wrap64 (n := k - ps.length) (by omega) (by omega)
  refine goal_cond rfl (fun h => ?_) (fun h => ?_) <;> simp only [decide_eq_true_eq, decide_eq_false_iff_not, List.length_map, hw] at h
  · refine rn rfl (fin_is [] rfl ⟨?_, rfl⟩)
    simp [szParamS, szLen, h]
  · refine rn rfl ?_
    have hs : szLen ps.length k = k - ps.length := by simp only [szLen, h, if_false]
    refine goal_loop_keep (fun m σ => ∃ (n q : Int) (i : Nat), n = i ∧ i ≤ ps.length ∧ m = ps.length - i ∧ 0 ≤ q ∧ q ≤ 1048576 ∧ szParamS ps k = szAllQ (ps.drop i) q ∧
        σ = ⟨[(5, .one (.int .i64 n)), (1, .one (.int .i64 q)), (0, .one (.fs (ps.map eQ)))], [], []⟩) ps.length [5, 1, 0] [] rfl
      ⟨_, _, 0, rfl, by omega, by omega, ?_, ?_, ?_, rfl⟩ ?_
    · rw [List.length_map, hw]; omega
    · rw [List.length_map, hw]; omega
    · rw [List.length_map, hw, szParamS, if_neg (by omega), hs]; rfl
    rintro m σ ⟨n, q, i, rfl, hi, rfl, hq, hq', hidx, rfl⟩
    refine rn rfl ?_
    refine goal_cond rfl (fun h => ?_) (fun h => ?_) <;> simp only [decide_eq_true_eq, decide_eq_false_iff_not, List.length_map] at h
    · obtain ⟨p, hp⟩ := at_some (xs := ps) (i := i) (by omega)
      have hpm := hn p (List.mem_of_getElem? hp)
      refine rn rfl ?_
      refine goal_did rfl rfl (dA_index (eQ p) rfl rfl rfl rfl rfl rfl rfl (by omega) (by (try simp); omega) (map_at (by simpa using hp)) rfl) ?_
      refine rn rfl ?_
      refine goal_step (step_call [] rfl rfl rfl rfl rfl rfl (szParam_ct p q hq hq' hpm)) ?_
      rintro σ2 ⟨r, o', ⟨rfl, rfl⟩, hσ⟩
      obtain rfl := Option.some.inj hσ
      clear hσ
      refine rn rfl ?_
      refine rn rfl ?_
      refine goal_cond rfl (fun h2 => ?_) (fun h2 => ?_) <;> simp only [decide_eq_true_eq, decide_eq_false_iff_not] at h2
      · refine rn rfl ?_
        refine round_ret (fin_is [] rfl ⟨?_, rfl⟩)
        rw [hidx, drop_at hp]
        simp only [szAllQ, h2, if_true]
      · refine rn rfl ?_
        refine round_keep (ps.length - (i + 1)) [5, 1, 0] [] (by omega) rfl ⟨_, _, i + 1, ?_, by omega, rfl, by omega, ?_, ?_, rfl⟩
        · exact wrap64 (by omega) (by omega)
        · have := szLen_le p.name.length q hq; omega
        · rw [hidx, drop_at hp]
          simp only [szAllQ, h2, if_false]
    · refine rn rfl ?_
      refine round_ext ?_
      refine rn rfl (fin_is [] rfl ⟨?_, rfl⟩)
      rw [hidx, List.drop_eq_nil_of_le (by omega)]
      rfl

theorem szAllQ_le : ∀ (ps : List Param) (k : Int), 0 ≤ k → szAllQ ps k ≤ k ∧ (szAllQ ps k < 0 → szAllQ ps k = -1)
  | [], k, h => by simp only [szAllQ]; omega
  | p :: ps, k, h => by
    unfold szAllQ
    have h1 := szLen_le p.name.length k h
    split
    · omega
    · have := szAllQ_le ps (szLen p.name.length k) (by omega); omega

theorem szParamS_ok {s : Sig} {k : Int} (hk : 0 ≤ k) (h : ¬ szParamS s k < 0) : (s.length : Int) ≤ k ∧ szParamS s k ≤ k := by
  unfold szParamS at h ⊢
  split at h
  · omega
  · rename_i h1
    have e1 := szLen_ok h1
    have e2 := szLen_le s.length k hk
    have e3 := szAllQ_le s (szLen s.length k) (by omega)
    rw [if_neg h1]; omega

theorem szParamS_neg {s : Sig} {k : Int} (hk : 0 ≤ k) (h : szParamS s k < 0) : szParamS s k = -1 := by
  unfold szParamS at h ⊢
  split at h
  · rename_i h1; simp [h1]
  · rename_i h1
    have e3 := szAllQ_le s (szLen s.length k) (by omega)
    rw [if_neg h1]; exact e3.2 h

theorem szSig_ct (s : Sig) (k : Int) (hk : 0 ≤ k) (hk' : k ≤ 1048576) (hs : FitsS s) :
    ACalls pk 17 [.agg (eG s), .one (.int .i64 k)] [] (fun r o => r = .one (.int .i64 (szParamS s k)) ∧ o = []) := by
  refine acalls_of_body Try.func17 rfl (by kernel_rfl) rfl ?_
  refine rn rfl ?_
  refine goal_step (step_call [] rfl rfl rfl rfl rfl rfl (szParamS_ct s k hk hk' hs.len hs.names)) ?_
  rintro σ2 ⟨r, o', ⟨rfl, rfl⟩, hσ⟩
  obtain rfl := Option.some.inj hσ
  clear hσ
  refine rn rfl ?_
  refine rn rfl ?_
  refine goal_cond rfl (fun h => ?_) (fun h => ?_) <;> simp only [decide_eq_true_eq, decide_eq_false_iff_not] at h
  · refine rn rfl (fin_is [] rfl ⟨?_, rfl⟩)
    rw [szParamS_neg hk h]
  · exact rn rfl (fin_is [] rfl ⟨rfl, rfl⟩)

theorem toParam_ct (p : Param) : ACalls pk 112 [.agg (eQ p)] [] (fun r o => r = .agg (eQ p) ∧ o = []) := by
  refine acalls_of_body Try.func112 rfl (by kernel_rfl) rfl ?_
  refine rn rfl ?_
  exact rn rfl (fin_is [] rfl ⟨rfl, rfl⟩)

theorem toQS_ct (xs : List Param) (hl : xs.length ≤ 2097152) :
    ACalls pk 59 [.one (.fs (xs.map eQ))] [] (fun r o => r = .one (.os 0 0 xs.length xs.length) ∧ o = [ownQ xs]) := by
  refine acalls_of_body Try.func59 rfl (by kernel_rfl) rfl ?_
  refine rn rfl ?_
  refine goal_did rfl rfl (dA_make xs.length ((List.replicate xs.length zQ).map eQ) rfl rfl rfl (by simp) (by simp) rfl rfl rfl rfl rfl (by show 40 * xs.length ≤ _; omega) (by omega) (by rw [← rep_map]; rfl)) ?_
  refine rn rfl ?_
  refine goal_loop_keep (fun m σ => ∃ (n : Int) (i L : Nat) (ys : List Param), n = i ∧ L = xs.length ∧ i ≤ xs.length ∧ m = xs.length - i ∧ ys.length = xs.length ∧ ys.take i = xs.take i ∧
      σ = ⟨[(4, .one (.int .i64 n)), (3, .one (.os 0 0 L L)), (0, .one (.fs (xs.map eQ)))], [ownQ ys], []⟩) xs.length [4, 3, 0] [0] rfl
    ⟨_, 0, _, _, rfl, ?_, by omega, by omega, len_rep _ _, rfl, rfl⟩ ?_
  · simp
  rintro m σ ⟨n, i, L, ys, rfl, rfl, hi, rfl, hys, hpre, rfl⟩
  refine rn rfl ?_
  refine goal_cond rfl (fun h => ?_) (fun h => ?_) <;> (try simp only [gt_iff_lt, ge_iff_le, bne_iff_ne, ne_eq, bne_eq_false_iff_eq, beq_iff_eq, beq_eq_false_iff_ne, Bool.not_eq_true', Bool.not_eq_false', decide_eq_true_eq, decide_eq_false_iff_not, List.length_map] at h)
  · have hlt : i < xs.length := by omega
    obtain ⟨x, hx⟩ := at_some hlt
    obtain ⟨y, hy⟩ := at_some (xs := ys) (i := i) (by omega)
    refine rn rfl ?_
    refine goal_did rfl rfl (dA_index (eQ x) rfl rfl rfl rfl rfl rfl rfl (by omega) (by (try simp); omega) (map_at (by simpa using hx)) rfl) ?_
    refine rn rfl ?_
    refine goal_step (step_call [] rfl rfl rfl rfl rfl rfl (toParam_ct x)) ?_
    rintro σ2 ⟨r, o', ⟨rfl, rfl⟩, hσ⟩
    obtain rfl := Option.some.inj hσ
    clear hσ
    refine rn rfl ?_
    refine goal_did rfl rfl (dA_indexOwn rfl rfl rfl rfl rfl rfl rfl rfl rfl (by omega) (by omega)) ?_
    refine goal_did rfl rfl (dA_storeEl (eQ y) ((ys.set i x).map eQ) true rfl rfl rfl rfl rfl (map_at (by simpa using hy)) rfl rfl (by simp [eQ]) (by rw [map_set]; simp [patch, eQ]) (fun _ => noOwnR_map _ eQ_noOwn _)) ?_
    refine rn rfl ?_
    refine round_keep (xs.length - (i + 1)) [4, 3, 0] [0] (by omega) rfl ⟨_, i + 1, xs.length, ys.set i x, ?_, rfl, by omega, rfl, by simp [hys], take_set_step xs ys i x hx hys hpre, rfl⟩
    exact wrap64 (by omega) (by omega)
  · refine rn rfl ?_
    refine round_ext ?_
    refine rn rfl (fin_is [0] rfl ⟨?_, ?_⟩)
    · rfl
    · rw [show i = xs.length by omega, List.take_length, ← hys, List.take_length] at hpre
      rw [hpre]; rfl

def rG (s : Sig) : T := .agg [.os 0 0 s.length s.length]

def oG (s : Sig) : List (Option AObj) := [ownQ s]

theorem toSig_ct (s : Sig) (hs : s.length ≤ 2097152) : ACalls pk 19 [.agg (eG s)] [] (fun r o => r = rG s ∧ o = oG s) := by
  refine acalls_of_body Try.func19 rfl (by kernel_rfl) rfl ?_
  refine rn rfl ?_
  refine goal_step (step_call [] rfl rfl rfl rfl rfl rfl (toQS_ct s hs)) ?_
  rintro σ2 ⟨r, o', ⟨rfl, rfl⟩, hσ⟩
  obtain rfl := Option.some.inj hσ
  clear hσ
  refine rn rfl ?_
  exact rn rfl (fin_is [3] rfl ⟨rfl, rfl⟩)

theorem eqParam_ct (p q : Param) : ACalls pk 113 [.agg (eQ p), .agg (eQ q)] [] (fun r o => r = .one (.bool (decide (p = q))) ∧ o = []) := by
  obtain ⟨a, b, c, d⟩ := p
  obtain ⟨a', b', c', d'⟩ := q
  refine acalls_of_body Try.func113 rfl (by kernel_rfl) rfl ?_
  refine rn rfl ?_
  refine goal_cond rfl (fun h => ?_) (fun h => ?_)
  · simp at h
    refine rn rfl (fin_is [] rfl ⟨?_, rfl⟩)
    simp [h]
  · simp at h
    refine rn rfl ?_
    refine goal_cond rfl (fun h2 => ?_) (fun h2 => ?_) <;> simp only [bne_iff_ne, ne_eq, bne_eq_false_iff_eq] at h2
    · refine rn rfl (fin_is [] rfl ⟨?_, rfl⟩)
      simp [h2]
    · refine rn rfl ?_
      refine goal_cond rfl (fun h3 => ?_) (fun h3 => ?_)
      · refine rn rfl (fin_is [] rfl ⟨?_, rfl⟩)
        simp at h3; simp [h3]
      · refine rn rfl ?_
        refine goal_cond rfl (fun h4 => ?_) (fun h4 => ?_) <;> simp only [bne_iff_ne, ne_eq, bne_eq_false_iff_eq] at h4
        · refine rn rfl (fin_is [] rfl ⟨?_, rfl⟩)
          simp [h4]
        · refine rn rfl (fin_is [] rfl ⟨?_, rfl⟩)
          simp at h3; simp [h, h2, h3, h4]

theorem eqParamS_ct (xs ys : List Param) (hx : xs.length ≤ 9223372036854775807) :
    ACalls pk 61 [.one (.fs (xs.map eQ)), .one (.fs (ys.map eQ))] [] (fun r o => r = .one (.bool (decide (xs = ys))) ∧ o = []) := by
  refine acalls_of_body Try.func61 rfl (by kernel_rfl) rfl ?_
  refine rn rfl ?_
  refine goal_cond rfl (fun h => ?_) (fun h => ?_) <;> (try simp only [gt_iff_lt, ge_iff_le, bne_iff_ne, ne_eq, bne_eq_false_iff_eq, beq_iff_eq, beq_eq_false_iff_ne, Bool.not_eq_true', Bool.not_eq_false', decide_eq_true_eq, decide_eq_false_iff_not, List.length_map] at h)
  · refine rn rfl (fin_is [] rfl ⟨?_, rfl⟩)
    have : xs ≠ ys := fun h0 => h (by rw [h0])
    simp [this]
  · have hlen : xs.length = ys.length := by omega
    refine rn rfl ?_
    refine goal_loop_keep (fun m σ => ∃ (n : Int) (i : Nat), n = i ∧ i ≤ xs.length ∧ m = xs.length - i ∧ xs.take i = ys.take i ∧
        σ = ⟨[(5, .one (.int .i64 n)), (1, .one (.fs (ys.map eQ))), (0, .one (.fs (xs.map eQ)))], [], []⟩) xs.length [5, 1, 0] [] rfl
      ⟨_, 0, rfl, by omega, by omega, rfl, rfl⟩ ?_
    rintro m σ ⟨n, i, rfl, hi, rfl, hpre, rfl⟩
    refine rn rfl ?_
    refine goal_cond rfl (fun h => ?_) (fun h => ?_) <;> (try simp only [gt_iff_lt, ge_iff_le, bne_iff_ne, ne_eq, bne_eq_false_iff_eq, beq_iff_eq, beq_eq_false_iff_ne, Bool.not_eq_true', Bool.not_eq_false', decide_eq_true_eq, decide_eq_false_iff_not, List.length_map] at h)
    · obtain ⟨x, hxi⟩ := at_some (xs := xs) (i := i) (by omega)
      obtain ⟨y, hyi⟩ := at_some (xs := ys) (i := i) (by omega)
      refine rn rfl ?_
      refine goal_draw' [] 10 rfl ?_
      refine drn [0, 1, 4, 5] (by kernel_rfl) (by kernel_rfl) rfl rfl ?_
      refine AH_did 2 rfl (by kernel_rfl) (by kernel_rfl) (by kernel_rfl) rfl rfl (dA_index (eQ x) rfl rfl rfl rfl rfl rfl rfl (by omega) (by (try simp); omega) (map_at (by simpa using hxi)) rfl) ?_
      refine AH_did 6 rfl (by kernel_rfl) (by kernel_rfl) (by kernel_rfl) rfl rfl (dA_index (eQ y) rfl rfl rfl rfl rfl rfl rfl (by omega) (by (try simp); omega) (map_at (by simpa using hyi)) rfl) ?_
      refine drn [3, 7] (by kernel_rfl) (by kernel_rfl) rfl rfl ?_
      refine AH_one (i := 8) (by kernel_rfl) (step_call [] rfl rfl rfl rfl rfl rfl (eqParam_ct x y)) (by simp) ?_
      rintro σ2 ⟨r, o', ⟨rfl, rfl⟩, hσ⟩
      obtain rfl := Option.some.inj hσ
      clear hσ
      refine drn [9] (by kernel_rfl) (by kernel_rfl) rfl rfl ?_
      refine AH_end (by kernel_rfl) ?_
      refine rn rfl ?_
      have hstep := take_eq_step hpre hxi hyi
      refine goal_cond rfl (fun h2 => ?_) (fun h2 => ?_) <;> simp only [bne_iff_ne, ne_eq, bne_eq_false_iff_eq, Bool.not_eq_true', Bool.not_eq_false', decide_eq_true_eq, decide_eq_false_iff_not, beq_iff_eq, beq_eq_false_iff_ne] at h2
      · refine rn rfl ?_
        refine round_ret (fin_is [] rfl ⟨?_, rfl⟩)
        have : xs ≠ ys := fun h0 => h2 (hstep.1 (by rw [h0]))
        simp [this]
      · refine rn rfl ?_
        refine round_keep (xs.length - (i + 1)) [5, 1, 0] [] (by omega) rfl ⟨_, i + 1, ?_, by omega, rfl, hstep.2 h2, rfl⟩
        exact wrap64 (by omega) (by omega)
    · refine rn rfl ?_
      refine round_ext ?_
      refine rn rfl (fin_is [] rfl ⟨?_, rfl⟩)
      rw [show i = xs.length by omega, List.take_length, hlen, List.take_length] at hpre
      simp [hpre]

theorem eqSig_ct (s : Sig) (hs : s.length ≤ 2097152) : ACalls pk 22 [.agg (eG s), .agg (eG s)] [] (fun r o => r = .one (.bool true) ∧ o = []) := by
  refine acalls_of_body Try.func22 rfl (by kernel_rfl) rfl ?_
  refine rn rfl ?_
  refine goal_step (step_call [] rfl rfl rfl rfl rfl rfl (eqParamS_ct s s (by omega))) ?_
  rintro σ2 ⟨r, o', ⟨rfl, rfl⟩, hσ⟩
  obtain rfl := Option.some.inj hσ
  clear hσ
  refine rn rfl ?_
  refine goal_cond rfl (fun h2 => by simp at h2) (fun _ => ?_)
  exact rn rfl (fin_is [] rfl ⟨rfl, rfl⟩)

theorem asG (s : Sig) : T.agg [C.fs (List.take s.length (List.drop 0 (s.map eQ)))] = T.agg (eG s) := by
  rw [takeAll eQ _ _ rfl]; rfl

theorem toSigD_ct (s : Sig) (h0 : s.length ≤ 2097152) : ACalls pk 19 [.agg (eG s)] [] (fun r o => r = .agg (eG s) ∧ o = []) :=
  (toSig_ct s h0).told [] (by rintro r o ⟨rfl, rfl⟩; exact ⟨_, _, rfl, asG s, rfl⟩)

structure SmallS (s : Sig) : Prop where
  len : s.length ≤ 8
  names : ∀ p ∈ s, p.name.length ≤ 7

theorem OkS.small {s : Sig} (h : OkS s) : SmallS s := ⟨h.len, fun p hp => by have := h.nameLen hp; omega⟩

/-- Given by its place. -/
def byPl (pl : List Int) (i : Nat) (p : Param) : Bool := placedQ p && decide (i < pl.length)

def giveQ (s : Sig) (pl : List Int) (qs : List Pair) (i : Nat) (p : Param) : Slot :=
  if p.kind = 4 then ⟨false, [], qs.filter fun q => takesQ s q.name == (i : Int)⟩
  else if namedQ p && !byPl pl i p then (match qs.find? (nameIs p.name) with
    | some q => ⟨true, [q.value], []⟩
    | none => zL)
  else place1 (placesQ s) pl i p

def wrongQ (s : Sig) (pl : List Int) (q : Pair) : Option Problem :=
  if takesQ s q.name < 0 then some ⟨1, q.name⟩ else
  match s[(takesQ s q.name).toNat]? with
  | some p => if p.kind = 4 then none else if byPl pl (takesQ s q.name).toNat p then some ⟨2, q.name⟩ else none
  | none => none

def closedQ (s : Sig) (pl : List Int) (qs : List Pair) : Bnds × List Problem := (s.mapIdx (giveQ s pl qs), manyQ s pl ++ qs.filterMap (wrongQ s pl))

theorem giveQ_nil {s : Sig} (pl : List Int) (i : Nat) (p : Param) : giveQ s pl [] i p = place1 (placesQ s) pl i p := by
  unfold giveQ
  by_cases h4 : p.kind = 4
  · rw [if_pos h4]
    have : placedQ p = false := by
      cases h : placedQ p with
      | false => rfl
      | true => rw [placed_kind] at h; omega
    unfold place1
    simp [this, h4, zL]
  · rw [if_neg h4]
    split
    · rename_i h
      simp only [Bool.and_eq_true, Bool.not_eq_true'] at h
      have hk := named_kind.1 h.1
      unfold place1
      unfold byPl at h
      rw [h.2]
      have : (p.kind == 2) = false := by simp; omega
      simp [this]
    · rfl

theorem closed_nil (s : Sig) (pl : List Int) : closedQ s pl [] = (phase1 s pl, manyQ s pl) := by
  simp only [closedQ, phase1, List.filterMap_nil, List.append_nil]
  congr 1
  apply List.ext_getElem?
  intro i
  rw [List.getElem?_mapIdx, List.getElem?_mapIdx]
  cases s[i]? with
  | none => rfl
  | some p => simp only [Option.map_some, giveQ_nil]

theorem takes_named {s : Sig} (hs : OkS s) {i : Nat} {p : Param} (hp : s[i]? = some p) (hn : namedQ p = true) : takesQ s p.name = (i : Int) := by
  have hq : ∀ j q, s[j]? = some q → q.name = p.name → j = i := fun j q hj hqn => by
    have hnd := hs.nodup
    rw [List.nodup_iff_pairwise_ne, List.pairwise_iff_getElem] at hnd
    have hi := lt_of_some hp
    have hjl := lt_of_some hj
    rw [List.getElem?_eq_getElem hi] at hp
    rw [List.getElem?_eq_getElem hjl] at hj
    simp only [Option.some.injEq] at hp hj
    rcases Nat.lt_trichotomy j i with h | h | h
    · exact absurd (by rw [List.getElem_map, List.getElem_map, hp, hj, hqn]) (hnd j i (by simpa using hjl) (by simpa using hi) h)
    · exact h
    · exact absurd (by rw [List.getElem_map, List.getElem_map, hp, hj, hqn]) (hnd i j (by simpa using hi) (by simpa using hjl) h)
  have hany : s.any (qIs p.name) = true := by rw [List.any_eq_true]; exact ⟨p, List.mem_of_getElem? hp, by simp [qIs]⟩
  obtain ⟨q, hf, hqi, hqn, hlt⟩ := idxI_find (idxI_ge (i := 0).2 hany)
  have hqn' : q.name = p.name := by simpa [qIs] using hqn
  have hix := hq _ q hqi hqn'
  have hpq : q = p := by rw [hix, hp] at hqi; exact (Option.some.inj hqi).symm
  have h0 := idxI_ge (i := 0).2 hany
  unfold takesQ
  rw [hf]
  simp only [hpq, hn, if_true]
  omega

theorem find_snoc {qs : List Pair} {q : Pair} {n : Str} : (qs ++ [q]).find? (nameIs n) = (match qs.find? (nameIs n) with
    | some x => some x
    | none => if q.name = n then some q else none) := by
  rw [List.find?_append]
  cases qs.find? (nameIs n) with
  | some x => rfl
  | none =>
    simp only [Option.none_or, List.find?_cons, List.find?_nil, nameIs]
    by_cases h : q.name = n
    · simp [h]
    · have : (q.name == n) = false := by simpa using h
      simp [h, this]

theorem find_none {qs : List Pair} {n : Str} (h : n ∉ namesOf qs) : qs.find? (nameIs n) = none := by
  rw [List.find?_eq_none]
  intro x hx hxn
  exact h (by simp only [nameIs, beq_iff_eq] at hxn; rw [← hxn]; exact List.mem_map_of_mem hx)

theorem closed_step {s : Sig} (hs : OkS s) {pl : List Int} {qs : List Pair} {q : Pair} (hq : q.name ∉ namesOf qs) : stepB s (closedQ s pl qs) q = closedQ s pl (qs ++ [q]) := by
  by_cases hneg : takesQ s q.name < 0
  · rw [stepB_neg hneg]
    simp only [closedQ, List.filterMap_append, List.filterMap_cons, List.filterMap_nil, wrongQ, hneg, if_true, List.append_assoc]
    congr 1
    apply List.ext_getElem?
    intro i
    simp only [List.getElem?_mapIdx]
    cases hp : s[i]? with
    | none => rfl
    | some p =>
      simp only [Option.map_some, Option.some.injEq, giveQ]
      split
      · have : (takesQ s q.name == (i : Int)) = false := by simp; omega
        simp [this]
      · split
        · rename_i h4 hn
          simp only [Bool.and_eq_true] at hn
          have ht := takes_named hs hp hn.1
          rw [find_snoc]
          have hne : q.name ≠ p.name := fun h0 => by rw [h0, ht] at hneg; omega
          rw [if_neg hne]
          cases qs.find? (nameIs p.name) <;> rfl
        · rfl
  · obtain ⟨p, hp, hlt, hk⟩ := takesQ_some hneg
    have hat : takesQ s q.name = ((takesQ s q.name).toNat : Nat) := by omega
    generalize hj : (takesQ s q.name).toNat = j at hp hat
    have hx : (closedQ s pl qs).1[j]? = some (giveQ s pl qs j p) := by simp [closedQ, hp]
    have hother : ∀ (i : Nat) (r : Param), s[i]? = some r → i ≠ j → giveQ s pl (qs ++ [q]) i r = giveQ s pl qs i r := fun i r hr hij => by
      simp only [giveQ]
      split
      · have : (takesQ s q.name == (i : Int)) = false := by rw [hat]; simp; omega
        simp [this]
      · split
        · rename_i h4 hn
          simp only [Bool.and_eq_true] at hn
          have ht := takes_named hs hr hn.1
          rw [find_snoc]
          have hne : q.name ≠ r.name := fun h0 => by rw [h0, ht] at hat; omega
          rw [if_neg hne]
          cases qs.find? (nameIs r.name) <;> rfl
        · rfl
    have hset : ∀ y : Slot, giveQ s pl (qs ++ [q]) j p = y → (closedQ s pl qs).1.set j y = (closedQ s pl (qs ++ [q])).1 := fun y hy => by
      apply List.ext_getElem?
      intro i
      simp only [closedQ, List.getElem?_set, List.getElem?_mapIdx, List.length_mapIdx]
      by_cases hij : j = i
      · subst hij; rw [if_pos rfl, if_pos (lt_of_some hp), hp]; simp [hy]
      · rw [if_neg hij]
        cases hr : s[i]? with
        | none => rfl
        | some r => simp [hother i r hr (fun h => hij h.symm)]
    have hwr : ∀ w : Option Problem, wrongQ s pl q = w → (closedQ s pl (qs ++ [q])).2 = (closedQ s pl qs).2 ++ w.toList := fun w hw => by
      simp only [closedQ, List.filterMap_append, List.append_assoc]
      congr 1
      congr 1
      cases w <;> simp [List.filterMap_cons, hw]
    by_cases h4 : p.kind = 4
    · rw [stepB_map hat hp hx h4]
      have hw : wrongQ s pl q = none := by simp [wrongQ, hneg, hj, hp, h4]
      have h1 := hwr none hw
      refine Prod.ext (hset _ ?_) (by rw [h1]; simp)
      simp [giveQ, h4, hat]
    · have hn : namedQ p = true ∧ p.name = q.name := by
        rcases hk with h | h
        · exact h
        · exact absurd h h4
      have hnf : qs.find? (nameIs p.name) = none := by rw [hn.2]; exact find_none hq
      by_cases hb : byPl pl j p = true
      · have hg : (giveQ s pl qs j p).given = true := by
          unfold byPl at hb
          simp only [giveQ, h4, if_false, hn.1, byPl, hb, Bool.not_true, Bool.and_false, Bool.false_eq_true, place1, if_true]
        rw [stepB_twice hat hp hx h4 hg]
        have hw : wrongQ s pl q = some ⟨2, q.name⟩ := by simp [wrongQ, hneg, hj, hp, h4, hb]
        have h1 := hwr _ hw
        refine Prod.ext ?_ (by rw [h1]; rfl)
        have h2 := hset (giveQ s pl qs j p) (by simp only [giveQ, h4, if_false, hn.1, hb, Bool.not_true, Bool.and_false, Bool.false_eq_true])
        rw [set_same hx] at h2
        exact h2
      · have hb' : byPl pl j p = false := by simpa using hb
        have hg : (giveQ s pl qs j p).given = false := by
          simp only [giveQ, h4, if_false, hn.1, hb', Bool.not_false, Bool.and_self, if_true, hnf, zL]
        rw [stepB_set hat hp hx h4 hg]
        have hw : wrongQ s pl q = none := by simp [wrongQ, hneg, hj, hp, h4, hb']
        have h1 := hwr none hw
        refine Prod.ext (hset _ ?_) (by rw [h1]; simp)
        rw [hn.2] at hnf
        simp only [giveQ, h4, if_false, hn.1, hb', Bool.not_false, Bool.and_self, if_true, find_snoc, hnf, hn.2]

theorem closed_fold {s : Sig} (hs : OkS s) {pl : List Int} : ∀ (rs qs : List Pair), (namesOf (qs ++ rs)).Nodup → rs.foldl (stepB s) (closedQ s pl qs) = closedQ s pl (qs ++ rs)
  | [], qs, _ => by simp
  | r :: rs, qs, h => by
    have hr : r.name ∉ namesOf qs := by
      intro h0
      simp only [namesOf, List.map_append, List.map_cons] at h h0
      exact (List.nodup_append.1 h).2.2 _ h0 _ (List.mem_cons_self ..) rfl
    rw [List.foldl_cons, closed_step hs hr, closed_fold hs rs (qs ++ [r]) (by simpa using h)]
    simp

/-- What a call gives. -/
theorem bound_closed {s : Sig} (hs : OkS s) {f : Flat} (hf : (namesOf f.named).Nodup) : boundQ s f = closedQ s f.places f.named := by
  rw [boundQ, ← closed_nil, closed_fold hs f.named [] (by simpa using hf)]
  simp

def atP (f : Flat) (q : Param) : Bool := q.kind == 1 && f.named.any (nameIs q.name)

def atQ (s : Sig) (f : Flat) : Int := idxI (atP f) s 0

def giveP (f : Flat) (q : Param) : Param := if namedQ q then (match f.named.find? (nameIs q.name) with
  | some r => ⟨q.name, q.kind, true, r.value⟩
  | none => q) else q

def kindP (b : Bool) (q : Param) : Param := if q.kind == 1 && b then ⟨q.name, 3, q.hasD, q.dflt⟩ else q

def skipP (at' : Int) (f : Flat) (i : Nat) (q : Param) : Bool := (placedQ q && decide (i < f.places.length)) || (q.kind == 2 && decide (0 ≤ at'))

def partParam (at' : Int) (f : Flat) (i : Nat) (q : Param) : Option Param :=
  if skipP at' f i q then none else some (giveP f (kindP (decide (0 ≤ at') && decide (at' ≤ i)) q))

def psL (at' : Int) (f : Flat) (s : Sig) : Sig := s.zipIdx.filterMap fun x => partParam at' f x.2 x.1

theorem psL_succ {at' : Int} {f : Flat} {s : Sig} {i : Nat} {q : Param} (hq : s[i]? = some q) : psL at' f (s.take (i + 1)) = psL at' f (s.take i) ++ (partParam at' f i q).toList := by
  have hl : (s.take i).length = i := by have := lt_of_some hq; simp; omega
  unfold psL
  rw [← take_snoc hq, List.zipIdx_append, List.filterMap_append, hl]
  simp [List.filterMap_cons]
  cases partParam at' f i q <;> rfl

theorem partParam_name {at' : Int} {f : Flat} {i : Nat} {q r : Param} (h : partParam at' f i q = some r) : r.name = q.name := by
  unfold partParam at h
  split at h
  · cases h
  · simp only [Option.some.injEq] at h
    rw [← h]
    unfold giveP kindP
    split <;> split <;> (try split) <;> rfl

theorem idxI_le {α : Type} {pred : α → Bool} : ∀ {xs : List α} {k i : Nat} {x : α}, xs[i]? = some x → pred x = true → 0 ≤ idxI pred xs k ∧ idxI pred xs k ≤ ((k + i : Nat) : Int)
  | y :: xs, k, 0, x, hx, hp => by
    simp at hx; subst hx
    simp [idxI, hp]
  | y :: xs, k, i + 1, x, hx, hp => by
    simp only [List.getElem?_cons_succ] at hx
    have := idxI_le (k := k + 1) hx hp
    unfold idxI
    split
    · omega
    · omega

theorem part_np {s : Sig} {f : Flat} (h : partQ s f = true) {i : Nat} {x : Param} (hx : s[i]? = some x) (hp : placedQ x = true) (hi : i < f.places.length) (hn : namedQ x = true) : f.named.any (nameIs x.name) = false := by
  simp only [partQ, Bool.and_eq_true, decide_eq_true_eq] at h
  obtain ⟨h1, h2⟩ := h
  obtain ⟨hs, hf⟩ := fitQ_iff.1 h1
  have hnd : (namesOf f.named).Nodup := by
    have := okFlat_iff.2 hf
    simp [okFlat] at this; exact this.1.1.1.2
  rw [bound_closed hs hnd] at h2
  simp only [closedQ, List.append_eq_nil_iff, List.filterMap_eq_nil_iff] at h2
  cases ha : f.named.any (nameIs x.name) with
  | false => rfl
  | true =>
    rw [List.any_eq_true] at ha
    obtain ⟨q, hq, hqn⟩ := ha
    simp only [nameIs, beq_iff_eq] at hqn
    have hw := h2.2 q hq
    have ht := takes_named hs hx hn
    rw [← hqn] at ht
    have hk := placed_kind.1 hp
    have hb : byPl f.places i x = true := by simp [byPl, hp, hi]
    unfold wrongQ at hw
    rw [ht] at hw
    simp only [Int.toNat_natCast, hx] at hw
    rw [if_neg (by omega), if_neg (by omega), if_pos hb] at hw
    cases hw

theorem np_at {s : Sig} {f : Flat} (h : partQ s f = true) {i : Nat} {x : Param} (hx : s[i]? = some x) (hp : placedQ x = true) (hi : i < f.places.length) : atP f x = false := by
  unfold atP
  cases hk : x.kind == 1 with
  | false => rfl
  | true =>
    rw [part_np h hx hp hi (by simp at hk; simp [namedQ, hk])]; rfl

def psQ (s : Sig) (f : Flat) : Sig := psL (atQ s f) f s

theorem name_inj {s : Sig} (hs : OkS s) {i j : Nat} {p q : Param} (hp : s[i]? = some p) (hq : s[j]? = some q) (h : p.name = q.name) : i = j := by
  refine (List.getElem?_inj (l := s.map Param.name) (by have := lt_of_some hp; simpa using this) hs.nodup).1 ?_
  rw [List.getElem?_map, List.getElem?_map, hp, hq]
  simp [h]

theorem find_isSome {f : Flat} {n : Str} : (f.named.find? (nameIs n)).isSome = f.named.any (nameIs n) := by
  cases ha : f.named.any (nameIs n) with
  | true => rw [List.find?_isSome]; exact List.any_eq_true.1 ha
  | false =>
    cases hq : f.named.find? (nameIs n) with
    | none => rfl
    | some q =>
      have : f.named.any (nameIs n) = true := List.any_eq_true.2 ⟨q, List.mem_of_find?_eq_some hq, List.find?_some hq⟩
      rw [this] at ha; cases ha

theorem kindP_facts (b : Bool) (q : Param) : (kindP b q).name = q.name ∧ (kindP b q).kind = (if q.kind = 1 ∧ b = true then 3 else q.kind) ∧ (kindP b q).hasD = q.hasD ∧ namedQ (kindP b q) = namedQ q := by
  unfold kindP namedQ
  by_cases h1 : q.kind = 1
  · cases b <;> simp [h1]
  · simp [h1]

theorem giveP_facts (f : Flat) (q : Param) : (giveP f q).name = q.name ∧ (giveP f q).kind = q.kind ∧ (giveP f q).hasD = (q.hasD || (namedQ q && f.named.any (nameIs q.name))) := by
  unfold giveP
  rw [← find_isSome]
  cases hn : namedQ q with
  | false => simp
  | true =>
    simp only [if_true]
    cases f.named.find? (nameIs q.name) <;> simp

/-- What becomes of a parameter. -/
structure KeptQ (k : Int) (f : Flat) (i : Nat) (p p' : Param) : Prop where
  name : p'.name = p.name
  kind : p'.kind = if p.kind = 1 ∧ 0 ≤ k ∧ k ≤ i then 3 else p.kind
  hasD : p'.hasD = (p.hasD || (namedQ p && f.named.any (nameIs p.name)))
  place : ¬ (placedQ p = true ∧ i < f.places.length)
  rest : ¬ (p.kind = 2 ∧ 0 ≤ k)

theorem partParam_facts {k : Int} {f : Flat} {i : Nat} {p p' : Param} (h : partParam k f i p = some p') : KeptQ k f i p p' := by
  have hn := partParam_name h
  unfold partParam at h
  split at h
  · cases h
  · rename_i hs
    simp only [Option.some.injEq] at h
    obtain ⟨a1, a2, a3, a4⟩ := kindP_facts (decide (0 ≤ k) && decide (k ≤ i)) p
    obtain ⟨b1, b2, b3⟩ := giveP_facts f (kindP (decide (0 ≤ k) && decide (k ≤ i)) p)
    rw [h] at b1 b2 b3
    refine ⟨hn, ?_, ?_, ?_, ?_⟩
    · rw [b2, a2]; simp
    · rw [b3, a3, a4, a1]
    · rintro ⟨h1, h2⟩; exact hs (by simp [skipP, h1, h2])
    · rintro ⟨h1, h2⟩; exact hs (by simp [skipP, h1, h2])

theorem partParam_keep {k : Int} {f : Flat} {i : Nat} {p : Param} (h1 : ¬ (placedQ p = true ∧ i < f.places.length)) (h2 : ¬ (p.kind = 2 ∧ 0 ≤ k)) : ∃ p', partParam k f i p = some p' := by
  unfold partParam
  rw [if_neg]
  · exact ⟨_, rfl⟩
  · unfold skipP
    simp only [Bool.or_eq_true, Bool.and_eq_true, decide_eq_true_eq, beq_iff_eq]
    rintro (h | h)
    · exact h1 h
    · exact h2 h

theorem psL_split {k : Int} {f : Flat} {s : Sig} (i : Nat) : ∃ r, psL k f s = psL k f (s.take i) ++ r := by
  refine ⟨((s.drop i).zipIdx (0 + (s.take i).length)).filterMap (fun x => partParam k f x.2 x.1), ?_⟩
  conv => lhs; rw [← List.take_append_drop i s]
  unfold psL
  rw [List.zipIdx_append, List.filterMap_append]

/-- The facts of a partial call's signature. -/
structure PsFacts (s : Sig) (pf : Flat) : Prop where
  sig : OkS s
  flat : OkF pf
  out : OkS (psQ s pf)
  part : partQ s pf = true

theorem PsFacts.first {s : Sig} {pf : Flat} (h : PsFacts s pf) (h0 : 0 ≤ atQ s pf) : ∃ (n : Nat) (y : Param), atQ s pf = n ∧ s[n]? = some y ∧ y.kind = 1 ∧ pf.named.any (nameIs y.name) = true ∧ pf.places.length ≤ n := by
  obtain ⟨y, _, hy, hyp, hlt⟩ := idxI_find h0
  have hk := hyp
  simp only [atP, Bool.and_eq_true, beq_iff_eq] at hk
  refine ⟨(atQ s pf).toNat, y, by omega, hy, hk.1, hk.2, ?_⟩
  refine Classical.byContradiction fun hc => ?_
  have := np_at h.part hy (placed_kind.2 (.inr hk.1)) (by unfold atQ at hc; omega)
  rw [hyp] at this; cases this

theorem PsFacts.from {s : Sig} {pf : Flat} (h : PsFacts s pf) {i : Nat} {p : Param} (hp : s[i]? = some p) (hk : p.kind = 1) (hn : pf.named.any (nameIs p.name) = true) : 0 ≤ atQ s pf ∧ atQ s pf ≤ i := by
  have := idxI_le (k := 0) (pred := atP pf) hp (by simp [atP, hk, hn])
  unfold atQ; omega

theorem PsFacts.kinds {s : Sig} {pf : Flat} (h : PsFacts s pf) {i : Nat} {p : Param} (hp : s[i]? = some p) (h0 : 0 ≤ atQ s pf) (h1 : atQ s pf ≤ i) (hk : placedQ p = true) : p.kind = 1 := by
  obtain ⟨n, y, hn, hy, hyk, _, _⟩ := h.first h0
  have := h.sig.sorted (i - n) n y p hy (by rw [show n + (i - n) = i by omega]; exact hp)
  rw [placed_kind] at hk; omega

theorem KeptQ.placed {s : Sig} {pf : Flat} (h : PsFacts s pf) {i : Nat} {p p' : Param} (hp : s[i]? = some p) (hk : KeptQ (atQ s pf) pf i p p') : placedQ p' = true ↔ placedQ p = true ∧ ¬ (0 ≤ atQ s pf ∧ atQ s pf ≤ i) := by
  have h1 := hk.kind
  constructor
  · intro h2
    rw [placed_kind] at h2
    split at h1
    · omega
    · rename_i h3
      have hpp : placedQ p = true := placed_kind.2 (by omega)
      refine ⟨hpp, fun h4 => h3 ⟨h.kinds hp h4.1 h4.2 hpp, h4⟩⟩
  · rintro ⟨h2, h3⟩
    rw [placed_kind] at h2 ⊢
    rw [if_neg (fun h4 => h3 h4.2)] at h1
    omega

theorem KeptQ.named {k : Int} {pf : Flat} {i : Nat} {p p' : Param} (hk : KeptQ k pf i p p') : namedQ p' = namedQ p := by
  have h1 := hk.kind
  have : namedQ p' = true ↔ namedQ p = true := by
    rw [named_kind, named_kind]
    split at h1 <;> omega
  cases h : namedQ p with
  | true => exact this.2 h
  | false =>
    cases h' : namedQ p' with
    | false => rfl
    | true => rw [this.1 h'] at h; cases h

theorem PsFacts.len {s : Sig} {pf : Flat} (h : PsFacts s pf) : ∀ (i : Nat), i ≤ placesQ s → (psL (atQ s pf) pf (s.take i)).length = i - pf.places.length
  | 0, _ => by simp [psL]
  | i + 1, hi => by
    have hP := placesQ_le s
    obtain ⟨p, hp⟩ := at_some (xs := s) (i := i) (by omega)
    have hpl := (h.sig.placed_iff hp).2 (by omega)
    rw [psL_succ hp, List.length_append, PsFacts.len h i (by omega)]
    by_cases hia : i < pf.places.length
    · have : partParam (atQ s pf) pf i p = none := by simp [partParam, skipP, hpl, hia]
      rw [this]; simp; omega
    · obtain ⟨p', hp'⟩ := partParam_keep (k := atQ s pf) (f := pf) (i := i) (p := p) (by omega) (by rw [placed_kind] at hpl; omega)
      rw [hp']; simp; omega

/-- Where a parameter goes. -/
theorem PsFacts.to {s : Sig} {pf : Flat} (h : PsFacts s pf) {i : Nat} {p : Param} (hp : s[i]? = some p) (h1 : ¬ (placedQ p = true ∧ i < pf.places.length)) (h2 : ¬ (p.kind = 2 ∧ 0 ≤ atQ s pf)) :
    ∃ (j : Nat) (p' : Param), (psQ s pf)[j]? = some p' ∧ KeptQ (atQ s pf) pf i p p' ∧ (placedQ p' = true → j + pf.places.length = i) := by
  obtain ⟨p', hp'⟩ := partParam_keep (f := pf) h1 h2
  have hk := partParam_facts hp'
  obtain ⟨r, hr⟩ := psL_split (k := atQ s pf) (f := pf) (s := s) (i + 1)
  rw [psL_succ hp, hp'] at hr
  refine ⟨(psL (atQ s pf) pf (s.take i)).length, p', ?_, hk, fun hpl => ?_⟩
  · unfold psQ
    rw [hr, List.append_assoc, List.getElem?_append_right (by omega)]
    simp
  · have hpp := ((hk.placed h hp).1 hpl).1
    have hi := (h.sig.placed_iff hp).1 hpp
    rw [h.len i (by omega)]
    have := hk.place
    have : ¬ i < pf.places.length := fun h0 => this ⟨hpp, h0⟩
    omega

/-- Where a parameter comes from. -/
theorem PsFacts.of {s : Sig} {pf : Flat} (h : PsFacts s pf) {j : Nat} {p' : Param} (hp : (psQ s pf)[j]? = some p') :
    ∃ (i : Nat) (p : Param), s[i]? = some p ∧ KeptQ (atQ s pf) pf i p p' ∧ (placedQ p' = true → j + pf.places.length = i) := by
  have hm := List.mem_of_getElem? hp
  unfold psQ psL at hm
  rw [List.mem_filterMap] at hm
  obtain ⟨⟨p, i⟩, hq, hr⟩ := hm
  rw [List.mem_zipIdx_iff_getElem?] at hq
  have hk := partParam_facts hr
  obtain ⟨j', p2, hj', hk', hpos⟩ := h.to hq hk.place hk.rest
  have hjj := name_inj h.out hp hj' (by rw [hk.name, hk'.name])
  subst hjj
  rw [hp] at hj'
  cases hj'
  exact ⟨i, p, hq, hk, hpos⟩

section

variable {s : Sig} {pf f : Flat}

end

theorem less_ct (a b : Str) : ACalls pk 170 [.one (.str a), .one (.str b)] [] (fun r o => r = .one (.bool (ltS a b)) ∧ o = []) := by
  refine acalls_of_body Try.func170 rfl (by kernel_rfl) rfl ?_
  refine rn rfl ?_
  refine goal_step (step_call [] rfl rfl rfl rfl rfl rfl (isNaN_ct a)) ?_
  rintro σ2 ⟨r, o', ⟨rfl, rfl⟩, hσ⟩
  obtain rfl := Option.some.inj hσ
  clear hσ
  refine rn rfl ?_
  refine goal_guard rfl rfl rfl (fun h => by cases h) (fun _ => ?_)
  exact rn rfl (fin_is [] rfl ⟨rfl, rfl⟩)

theorem insertionSortS_ct (xs : List Str) (kc : Nat) (hl : xs.length ≤ 1048576) :
    ACalls pk 164 [.one (.os 0 0 xs.length kc), .one (.int .i64 0), .one (.int .i64 xs.length)] [ownS xs] (fun r o => r = .tup [] ∧ o = [ownS (isortL ltS xs)]) := by
  refine acalls_of_body Try.func164 rfl (by kernel_rfl) rfl ?_
  refine rn rfl ?_
  refine goal_loop_keep (fun m σ => ∃ (n : Int) (i : Nat) (ys : List Str), n = i ∧ 1 ≤ i ∧ m = xs.length + 1 - i ∧ (i ≤ xs.length ∨ xs = []) ∧ ys = isortL ltS (xs.take i) ++ xs.drop i ∧
      σ = ⟨[(6, .one (.int .i64 n)), (2, .one (.int .i64 xs.length)), (1, .one (.int .i64 0)), (0, .one (.os 0 0 xs.length kc))], [ownS ys], []⟩) xs.length [6, 2, 1, 0] [] rfl
    ⟨_, 1, xs, rfl, by omega, by omega, ?_, ?_, rfl⟩ ?_
  · cases xs with
    | nil => exact .inr rfl
    | cons x xs => left; simp
  · cases xs with
    | nil => rfl
    | cons x xs => simp [isortL, insR, sinkR]
  rintro m σ ⟨n, i, ys, rfl, hi, rfl, hix, hys, rfl⟩
  have hylen : ys.length = xs.length := by rw [hys]; simp [isortL_length]; omega
  refine rn rfl ?_
  refine goal_cond rfl (fun h => ?_) (fun h => ?_) <;> simp only [decide_eq_true_eq, decide_eq_false_iff_not] at h
  · obtain ⟨p, hp⟩ := at_some (xs := xs) (i := i) (by omega)
    refine rn rfl ?_
    refine goal_loop_keep (fun m σ => ∃ (q : Int) (A R : List Str), q = A.length ∧ m = A.length ∧ (A ++ p :: R).length = xs.length ∧ sinkR ltS p A.reverse R = isortL ltS (xs.take (i + 1)) ++ xs.drop (i + 1) ∧
        σ = ⟨[(7, .one (.int .i64 q)), (6, .one (.int .i64 i)), (2, .one (.int .i64 xs.length)), (1, .one (.int .i64 0)), (0, .one (.os 0 0 xs.length kc))], [ownS (A ++ p :: R)], []⟩) i [7, 6, 2, 1, 0] [] rfl
      ⟨(i : Int), isortL ltS (xs.take i), xs.drop (i + 1), ?_, ?_, ?_, ?_, ?_⟩ ?_
    · simp [isortL_length]; omega
    · simp [isortL_length]; omega
    · rw [← drop_at hp, ← hys]; exact hylen
    · rw [sinkR_ins, isortL_succ ltS hp]
    · rw [← drop_at hp, ← hys]; rfl
    rintro m σ ⟨q, A, R, rfl, rfl, hlen, hsink, rfl⟩
    refine rn rfl ?_
    refine goal_cut (fun σ' => ∃ b : Bool, (b = true → ∃ A' x, A = A' ++ [x] ∧ ltS p x = true) ∧ (b = false → ∀ A' x, A = A' ++ [x] → ltS p x = false) ∧
      σ' = ⟨[(30, .one (.bool b)), (7, .one (.int .i64 A.length)), (6, .one (.int .i64 i)), (2, .one (.int .i64 xs.length)), (1, .one (.int .i64 0)), (0, .one (.os 0 0 xs.length kc))], [ownS (A ++ p :: R)], []⟩) ?_ ?_
    · refine goal_draw' [0] 15 rfl ?_
      refine drn [0, 1, 2, 3] (by kernel_rfl) (by kernel_rfl) rfl rfl ?_
      refine AH_guard (i := 4) rfl rfl rfl (fun hg => ?_) (fun hg => ?_) <;> simp only [gt_iff_lt, decide_eq_true_eq, decide_eq_false_iff_not] at hg
      · obtain ⟨A', x, rfl⟩ : ∃ A' x, A = A' ++ [x] := by
          rcases List.eq_nil_or_concat A with h0 | ⟨A', x, h0⟩
          · subst h0; simp at hg
          · exact ⟨A', x, by simpa using h0⟩
        have hw : IntKind.i64.wrap ((A' ++ [x]).length - 1) = A'.length := by rw [wrap64] <;> simp <;> simp at hlen <;> omega
        have hlen' : A'.length + 1 + (R.length + 1) = xs.length := by simp at hlen; omega
        have hAp : (A' ++ [x]) ++ p :: R = A' ++ x :: p :: R := by simp
        rw [hAp]
        refine drn [4, 5, 8, 9, 10] (by kernel_rfl) (by kernel_rfl) rfl rfl ?_
        refine AH_did 6 rfl (by kernel_rfl) (by kernel_rfl) (by kernel_rfl) rfl rfl (dA_indexOwn rfl rfl rfl rfl rfl rfl rfl rfl rfl (by omega) (by simp; omega)) ?_
        refine AH_did 7 rfl (by kernel_rfl) (by kernel_rfl) (by kernel_rfl) rfl rfl (dA_loadEl (eS p) rfl rfl rfl rfl (map_at (get_snd _ _ _ _ _ (by simp))) rfl rfl rfl) ?_
        refine AH_did 11 rfl (by kernel_rfl) (by kernel_rfl) (by kernel_rfl) rfl rfl (dA_indexOwn rfl rfl rfl rfl rfl rfl rfl rfl rfl (by rw [hw]; omega) (by rw [hw]; omega)) ?_
        refine AH_did 12 rfl (by kernel_rfl) (by kernel_rfl) (by kernel_rfl) rfl rfl (dA_loadEl (eS x) rfl rfl rfl rfl (map_at (get_fst _ _ _ _ (by rw [hw]; simp))) rfl rfl rfl) ?_
        refine AH_one (i := 13) (by kernel_rfl) (step_call [] rfl rfl rfl rfl rfl rfl (less_ct p x)) (by simp) ?_
        rintro σ2 ⟨r, o', ⟨rfl, rfl⟩, hσ⟩
        obtain rfl := Option.some.inj hσ
        refine drn [14] (by kernel_rfl) (by kernel_rfl) rfl rfl ?_
        refine AH_end (by kernel_rfl) ?_
        refine cut_end [30, 7, 6, 2, 1, 0] [] rfl ⟨ltS p x, fun h => ⟨A', x, rfl, h⟩, fun h => ?_, rfl⟩
        intro A2 x2 h2
        have := List.append_inj' h2 rfl
        simp at this
        obtain ⟨_, rfl⟩ := this
        exact h
      · refine drn [4, 5, 6, 7, 8, 9, 10, 11, 12, 13, 14] (by kernel_rfl) (by kernel_rfl) rfl rfl ?_
        refine AH_end (by kernel_rfl) ?_
        refine cut_end [30, 7, 6, 2, 1, 0] [] rfl ⟨false, (fun h => by cases h), fun _ A' x h2 => ?_, rfl⟩
        subst h2
        simp at hg
    rintro σ' ⟨b, hb1, hb2, rfl⟩
    refine rn rfl ?_
    refine goal_cond rfl (fun h2 => ?_) (fun h2 => ?_)
    · obtain ⟨A', x, rfl, hlt⟩ := hb1 h2
      have hlen' : A'.length + 1 + (R.length + 1) = xs.length := by simp at hlen; omega
      have hw : IntKind.i64.wrap ((A' ++ [x]).length - 1) = A'.length := by rw [wrap64] <;> simp <;> omega
      have hAp : (A' ++ [x]) ++ p :: R = A' ++ x :: p :: R := by simp
      rw [hAp]
      refine rn rfl ?_
      refine goal_cut (fun σ' => σ' = ⟨[(7, .one (.int .i64 (A' ++ [x]).length)), (6, .one (.int .i64 i)), (2, .one (.int .i64 xs.length)), (1, .one (.int .i64 0)), (0, .one (.os 0 0 xs.length kc))], [ownS (A' ++ p :: x :: R)], []⟩) ?_ ?_
      · refine goal_draw' [] 18 rfl ?_
        refine drn [0, 1, 2, 3, 4, 5, 6, 7, 10, 11] (by kernel_rfl) (by kernel_rfl) rfl rfl ?_
        refine AH_did 8 rfl (by kernel_rfl) (by kernel_rfl) (by kernel_rfl) rfl rfl (dA_indexOwn rfl rfl rfl rfl rfl rfl rfl rfl rfl (by rw [hw]; omega) (by rw [hw]; omega)) ?_
        refine AH_did 12 rfl (by kernel_rfl) (by kernel_rfl) (by kernel_rfl) rfl rfl (dA_indexOwn rfl rfl rfl rfl rfl rfl rfl rfl rfl (by omega) (by simp; omega)) ?_
        have g1 : ((A' ++ x :: p :: R).map eS)[0 + (IntKind.i64.wrap ((A' ++ [x]).length - 1)).toNat]? = some (eS x) := map_at (get_fst _ _ _ _ (by rw [hw]; simp))
        have g2 : ((A' ++ x :: p :: R).map eS)[0 + (((A' ++ [x]).length : Nat) : Int).toNat]? = some (eS p) := map_at (get_snd _ _ _ _ _ (by simp))
        refine AH_two (i := 9) (j := 13) (by kernel_rfl) (step_did rfl rfl (dA_loadEl (eS x) rfl rfl rfl rfl g1 rfl rfl rfl)) (mdOk rfl) (step_did rfl rfl (dA_loadEl (eS p) rfl rfl rfl rfl g2 rfl rfl rfl)) (mdOk rfl) ?_ ?_ <;> rintro _ rfl
        · refine AH_one (i := 13) (by kernel_rfl) (step_did rfl rfl (dA_loadEl (eS p) rfl rfl rfl rfl g2 rfl rfl rfl)) (mdOk rfl) ?_
          rintro _ rfl
          refine AH_did 14 rfl (by kernel_rfl) (by kernel_rfl) (by kernel_rfl) rfl rfl (dA_indexOwn rfl rfl rfl rfl rfl rfl rfl rfl rfl (by omega) (by simp; omega)) ?_
          refine AH_oneDid 15 rfl (by kernel_rfl) rfl (dA_storeEl (eS p) (((A' ++ x :: p :: R).set (A'.length + 1) x).map eS) true rfl rfl rfl rfl rfl g2 rfl rfl (by simp [eS]) (by rw [map_set]; simp [patch, eS]) (fun _ => noOwnR_map _ eS_noOwn _)) (mdOk rfl) ?_
          refine AH_did 16 rfl (by kernel_rfl) (by kernel_rfl) (by kernel_rfl) rfl rfl (dA_indexOwn rfl rfl rfl rfl rfl rfl rfl rfl rfl (by rw [hw]; omega) (by rw [hw]; omega)) ?_
          refine AH_oneDid 17 rfl (by kernel_rfl) rfl (dA_storeEl (eS x) ((A' ++ p :: x :: R).map eS) true rfl rfl rfl rfl rfl (map_at (by rw [hw]; simp)) rfl rfl (by simp [eS]) (by rw [← swap_at, map_set, hw]; simp [patch, eS]) (fun _ => noOwnR_map _ eS_noOwn _)) (mdOk rfl) ?_
          refine AH_end (by kernel_rfl) ?_
          exact cut_end [7, 6, 2, 1, 0] [] rfl rfl
        · refine AH_one (i := 9) (by kernel_rfl) (step_did rfl rfl (dA_loadEl (eS x) rfl rfl rfl rfl g1 rfl rfl rfl)) (mdOk rfl) ?_
          rintro _ rfl
          refine AH_did 14 rfl (by kernel_rfl) (by kernel_rfl) (by kernel_rfl) rfl rfl (dA_indexOwn rfl rfl rfl rfl rfl rfl rfl rfl rfl (by omega) (by simp; omega)) ?_
          refine AH_oneDid 15 rfl (by kernel_rfl) rfl (dA_storeEl (eS p) (((A' ++ x :: p :: R).set (A'.length + 1) x).map eS) true rfl rfl rfl rfl rfl g2 rfl rfl (by simp [eS]) (by rw [map_set]; simp [patch, eS]) (fun _ => noOwnR_map _ eS_noOwn _)) (mdOk rfl) ?_
          refine AH_did 16 rfl (by kernel_rfl) (by kernel_rfl) (by kernel_rfl) rfl rfl (dA_indexOwn rfl rfl rfl rfl rfl rfl rfl rfl rfl (by rw [hw]; omega) (by rw [hw]; omega)) ?_
          refine AH_oneDid 17 rfl (by kernel_rfl) rfl (dA_storeEl (eS x) ((A' ++ p :: x :: R).map eS) true rfl rfl rfl rfl rfl (map_at (by rw [hw]; simp)) rfl rfl (by simp [eS]) (by rw [← swap_at, map_set, hw]; simp [patch, eS]) (fun _ => noOwnR_map _ eS_noOwn _)) (mdOk rfl) ?_
          refine AH_end (by kernel_rfl) ?_
          exact cut_end [7, 6, 2, 1, 0] [] rfl rfl
      rintro σ' rfl
      refine rn rfl ?_
      refine round_keep A'.length [7, 6, 2, 1, 0] [] (by simp) rfl ⟨_, A', x :: R, hw, rfl, by simp; omega, ?_, rfl⟩
      rw [← hsink]
      simp [sinkR, hlt]
    · refine rn rfl (round_ext ?_)
      refine rn rfl ?_
      refine round_keep (xs.length + 1 - (i + 1)) [6, 2, 1, 0] [] (by omega) rfl ⟨_, i + 1, A ++ p :: R, wrap64 (by omega) (by omega), by omega, by omega, .inl (by omega), ?_, rfl⟩
      rw [← hsink]
      rcases List.eq_nil_or_concat A with h0 | ⟨A', x, h0⟩
      · subst h0; rfl
      · have h0' : A = A' ++ [x] := by simpa using h0
        have h3 := hb2 h2 A' x h0'
        subst h0'
        simp [sinkR, h3]
  · refine rn rfl (round_ext ?_)
    refine rn rfl (fin_is [] rfl ⟨rfl, ?_⟩)
    have : xs.length ≤ i := by omega
    rw [List.take_of_length_le this, List.drop_eq_nil_of_le this, List.append_nil] at hys
    rw [hys]; rfl

theorem pdqSmallS_ct (xs : List Str) (kc : Nat) (z : Int) (hl : xs.length ≤ 12) :
    ACalls pk 151 [.one (.os 0 0 xs.length kc), .one (.int .i64 0), .one (.int .i64 xs.length), .one (.int .i64 z)] [ownS xs] (fun r o => r = .tup [] ∧ o = [ownS (isortL ltS xs)]) := by
  refine acalls_of_body Try.func151 rfl (by kernel_rfl) rfl ?_
  refine rn rfl ?_
  refine goal_loop_keep (fun m σ => σ = ⟨[(2, .one (.int .i64 xs.length)), (1, .one (.int .i64 0)), (0, .one (.os 0 0 xs.length kc))], [ownS xs], []⟩) 0 [2, 1, 0] [] rfl rfl ?_
  rintro m σ rfl
  refine rn rfl ?_
  have hw : IntKind.i64.wrap ((xs.length : Int) - 0) = xs.length := by rw [wrap64] <;> omega
  refine goal_cond rfl (fun h => ?_) (fun h => ?_) <;> simp only [hw, decide_eq_true_eq, decide_eq_false_iff_not] at h
  · refine rn rfl ?_
    refine goal_step (step_call [0] rfl rfl rfl rfl rfl rfl (insertionSortS_ct xs kc (by omega))) ?_
    rintro σ2 ⟨r, o', ⟨rfl, rfl⟩, hσ⟩
    obtain rfl := Option.some.inj hσ
    clear hσ
    refine rn rfl ?_
    exact rn rfl (round_ret (fin_is [] rfl ⟨rfl, rfl⟩))
  · omega

theorem sortSmallS_ct (xs : List Str) (kc : Nat) (hl : xs.length ≤ 12) :
    ACalls pk 120 [.one (.os 0 0 xs.length kc)] [ownS xs] (fun r o => r = .tup [] ∧ o = [ownS (isortL ltS xs)]) := by
  refine acalls_of_body Try.func120 rfl (by kernel_rfl) rfl ?_
  refine rn rfl ?_
  have hw : IntKind.u64.wrap (xs.length : Int) = xs.length := by
    simp only [IntKind.wrap, IntKind.bits, IntKind.signed]
    simp
    omega
  refine goal_step (step_call [] rfl rfl rfl rfl rfl (by simp only [hw]; rfl) (len_ct xs.length (by omega))) ?_
  rintro σ2 ⟨r, o', ⟨⟨z, rfl⟩, rfl⟩, hσ⟩
  obtain rfl := Option.some.inj hσ
  refine rn rfl ?_
  refine goal_step (step_call [0] rfl rfl rfl rfl rfl rfl (pdqSmallS_ct xs kc z hl)) ?_
  rintro σ2 ⟨r, o', ⟨rfl, rfl⟩, hσ⟩
  obtain rfl := Option.some.inj hσ
  clear hσ
  refine rn rfl ?_
  exact rn rfl (fin_is [] rfl ⟨rfl, rfl⟩)

def insS (n : Str) (S : List Str) : List Str := S.takeWhile (fun x => ltS x n) ++ n :: S.dropWhile (fun x => ltS x n)

def sortS (xs : List Str) : List Str := xs.foldl (fun out n => insS n out) []

def mkN (n : Str) : Pair := ⟨n, 0⟩

theorem insS_length (n : Str) (S : List Str) : (insS n S).length = S.length + 1 := by
  have := congrArg List.length (List.takeWhile_append_dropWhile (p := fun x => ltS x n) (l := S))
  simp only [List.length_append] at this
  simp only [insS, List.length_append, List.length_cons]; omega

theorem insS_map (n : Str) : ∀ S : List Str, (insS n S).map mkN = insL (mkN n) (S.map mkN)
  | [] => rfl
  | x :: S => by
    have ih := insS_map n S
    cases h : ltS x n with
    | true =>
      have h' : ltN (mkN x) (mkN n) = true := h
      rw [List.map_cons, insL_cons_lt h', ← ih]
      simp [insS, h]
    | false =>
      have h' : ltN (mkN x) (mkN n) = false := h
      rw [List.map_cons, insL_cons_ge h']
      simp [insS, h]

theorem sortS_map (xs : List Str) : (sortS xs).map mkN = sortL (xs.map mkN) := by
  have key : ∀ (xs S : List Str), (xs.foldl (fun out n => insS n out) S).map mkN = (xs.map mkN).foldl (fun out p => insL p out) (S.map mkN) := by
    intro xs
    induction xs with
    | nil => intro S; rfl
    | cons x xs ih => intro S; rw [List.foldl_cons, ih, List.map_cons, List.foldl_cons, insS_map]
  exact key xs []

theorem sinkR_map (p : Str) : ∀ (ra acc : List Str), (sinkR ltS p ra acc).map mkN = sinkR ltN (mkN p) (ra.map mkN) (acc.map mkN)
  | [], acc => rfl
  | x :: ra, acc => by
    have h0 : ltN (mkN p) (mkN x) = ltS p x := rfl
    simp only [sinkR, List.map_cons, h0]
    split
    · rw [sinkR_map p ra]; rfl
    · simp [sinkR]

theorem isortS_map (xs : List Str) : (isortL ltS xs).map mkN = isortL ltN (xs.map mkN) := by
  have key : ∀ (xs S : List Str), (xs.foldl (fun S x => insR ltS x S) S).map mkN = (xs.map mkN).foldl (fun S x => insR ltN x S) (S.map mkN) := by
    intro xs
    induction xs with
    | nil => intro S; rfl
    | cons x xs ih =>
      intro S
      rw [List.foldl_cons, ih, List.map_cons, List.foldl_cons]
      congr 1
      unfold insR
      rw [sinkR_map, List.map_reverse]; rfl
  exact key xs []

theorem names_mk (xs : List Str) : namesOf (xs.map mkN) = xs := by
  simp only [namesOf, List.map_map]
  have : (Pair.name ∘ mkN) = id := rfl
  rw [this, List.map_id]

theorem sortS_eq (xs : List Str) (h : xs.Nodup) : isortL ltS xs = sortS xs := by
  have h1 := isortS_map xs
  rw [sorts_eq _ (by rw [names_mk]; exact h), ← sortS_map] at h1
  have := congrArg namesOf h1
  rwa [names_mk, names_mk] at this

theorem sortS_mem (xs : List Str) (x : Str) : x ∈ sortS xs ↔ x ∈ xs := by
  have key : ∀ (xs S : List Str), x ∈ xs.foldl (fun out n => insS n out) S ↔ x ∈ S ∨ x ∈ xs := by
    intro xs
    induction xs with
    | nil => intro S; simp
    | cons y xs ih =>
      intro S
      rw [List.foldl_cons, ih]
      have : x ∈ insS y S ↔ x = y ∨ x ∈ S := by
        have h1 := List.takeWhile_append_dropWhile (p := fun x => ltS x y) (l := S)
        constructor
        · intro h
          simp only [insS, List.mem_append, List.mem_cons] at h
          rw [← h1]
          simp only [List.mem_append]
          rcases h with h | h | h <;> simp [h]
        · intro h
          rw [← h1] at h
          simp only [insS, List.mem_append, List.mem_cons] at h ⊢
          rcases h with h | h | h <;> simp [h]
      rw [this, List.mem_cons]
      constructor
      · rintro ((h | h) | h) <;> simp [h]
      · rintro (h | h | h) <;> simp [h]
  simpa [sortS] using key xs []

theorem sortS_length (xs : List Str) : (sortS xs).length = xs.length := by
  have := congrArg List.length (sortS_map xs)
  simpa [sortL_length] using this

theorem tw_at {xs : List Str} {n : Str} {j : Nat} (h1 : (xs.take j).all (fun x => ltS x n) = true) (h2 : ∀ x, xs[j]? = some x → ltS x n = false) : xs.takeWhile (fun x => ltS x n) = xs.take j ∧ xs.dropWhile (fun x => ltS x n) = xs.drop j := by
  induction xs generalizing j with
  | nil => simp
  | cons x xs ih =>
    cases j with
    | zero =>
      have := h2 x (by simp)
      simp [this]
    | succ j =>
      simp only [List.take_succ_cons, List.all_cons, Bool.and_eq_true] at h1
      obtain ⟨h3, h4⟩ := h1
      have := ih h4 (fun x hx => h2 x (by simpa using hx))
      simp [h3, this]

theorem sortedTexts_ct (xs : List Str) (hnd : xs.Nodup) (hl : xs.length ≤ 1000) : ACalls pk 111 [.one (.fs (xs.map eS))] [] (fun r o => r = .one (.fs ((sortS xs).map eS)) ∧ o = []) := by
  refine acalls_of_body Try.func111 rfl (by kernel_rfl) rfl ?_
  refine rn rfl ?_
  refine goal_loop_keep (fun m σ => ∃ (n : Int) (i l : Nat) (out : List Str), n = i ∧ i ≤ xs.length ∧ m = xs.length - i ∧ l = out.length ∧ out = sortS (xs.take i) ∧
      σ = ⟨[(4, .one (.int .i64 n)), (3, .one (.os 0 0 l l)), (0, .one (.fs (xs.map eS)))], [ownS out], []⟩) xs.length [4, 3, 0] [0] rfl
    ⟨_, 0, 0, [], rfl, by omega, by omega, rfl, rfl, rfl⟩ ?_
  rintro m σ ⟨n, i, l, out, rfl, hi, rfl, rfl, hout, rfl⟩
  have holen : out.length = i := by rw [hout, sortS_length]; simp; omega
  refine rn rfl ?_
  refine goal_cond rfl (fun h => ?_) (fun h => ?_) <;> (try simp only [gt_iff_lt, ge_iff_le, bne_iff_ne, ne_eq, bne_eq_false_iff_eq, beq_iff_eq, beq_eq_false_iff_ne, Bool.not_eq_true', Bool.not_eq_false', decide_eq_true_eq, decide_eq_false_iff_not, List.length_map] at h)
  · obtain ⟨p, hp⟩ := at_some (xs := xs) (i := i) (by omega)
    have hnew : p ∉ out := by
      rw [hout, sortS_mem]
      intro hm
      have h1 : (xs.take (i + 1)).Nodup := hnd.sublist (List.take_sublist _ _)
      rw [← take_snoc hp, List.nodup_append] at h1
      exact h1.2.2 p hm p (by simp) rfl
    have hst : sortS (xs.take (i + 1)) = insS p out := by
      rw [hout]; unfold sortS; rw [foldl_take_succ _ _ hp]
    refine rn rfl ?_
    refine goal_loop_keep (fun m σ => ∃ (q : Int) (j : Nat), q = j ∧ j ≤ i ∧ m = i - j ∧ (out.take j).all (fun x => ltS x p) = true ∧
      σ = ⟨[(5, .one (.int .i64 q)), (4, .one (.int .i64 i)), (3, .one (.os 0 0 i i)), (0, .one (.fs (xs.map eS)))], [ownS out], []⟩) i [5, 4, 3, 0] [0] rfl
      ⟨_, 0, rfl, by omega, by omega, by simp, by rw [holen]; rfl⟩ ?_
    rintro m σ ⟨q, j, rfl, hj, rfl, hall, rfl⟩
    refine rn rfl ?_
    refine goal_cut (fun σ' => ∃ b : Bool, (b = true → j < i ∧ ∀ x, out[j]? = some x → ltS x p = true) ∧ (b = false → ∀ x, out[j]? = some x → ltS x p = false) ∧
      σ' = ⟨[(27, .one (.bool b)), (5, .one (.int .i64 j)), (4, .one (.int .i64 i)), (3, .one (.os 0 0 i i)), (0, .one (.fs (xs.map eS)))], [ownS out], []⟩) ?_ ?_
    · refine goal_draw' [0] 15 rfl ?_
      refine drn [0, 1, 2, 3, 4] (by kernel_rfl) (by kernel_rfl) rfl rfl ?_
      refine AH_guard (i := 5) rfl rfl rfl (fun h2 => ?_) (fun h2 => ?_) <;> (try simp only [gt_iff_lt, ge_iff_le, bne_iff_ne, ne_eq, bne_eq_false_iff_eq, beq_iff_eq, beq_eq_false_iff_ne, Bool.not_eq_true', Bool.not_eq_false', decide_eq_true_eq, decide_eq_false_iff_not, List.length_map] at h2)
      · have hji : j < i := by simpa using h2
        obtain ⟨y, hy⟩ := at_some (xs := out) (i := j) (by omega)
        refine drn [5, 6, 9, 10] (by kernel_rfl) (by kernel_rfl) rfl rfl ?_
        refine AH_did 7 rfl (by kernel_rfl) (by kernel_rfl) (by kernel_rfl) rfl rfl (dA_indexOwn rfl rfl rfl rfl rfl rfl rfl rfl rfl (by omega) (by (try simp); omega)) ?_
        refine AH_did 8 rfl (by kernel_rfl) (by kernel_rfl) (by kernel_rfl) rfl rfl (dA_loadEl (eS y) rfl rfl rfl rfl (map_at (by simpa using hy)) rfl rfl rfl) ?_
        refine AH_did 11 rfl (by kernel_rfl) (by kernel_rfl) (by kernel_rfl) rfl rfl (dA_index (eS p) rfl rfl rfl rfl rfl rfl rfl (by omega) (by (try simp); omega) (map_at (by simpa using hp)) rfl) ?_
        refine drn [12, 13, 14] (by kernel_rfl) (by kernel_rfl) rfl rfl ?_
        refine AH_end (by kernel_rfl) ?_
        refine rn rfl ?_
        refine cut_end [27, 5, 4, 3, 0] [0] rfl ⟨ltS y p, fun h => ⟨hji, fun x hx => ?_⟩, fun h x hx => ?_, rfl⟩
        · rw [hy] at hx; cases hx; exact h
        · rw [hy] at hx; cases hx; exact h
      · have hji : ¬ j < i := by simpa using h2
        refine drn [5, 6, 7, 8, 9, 10, 11, 12, 13, 14] (by kernel_rfl) (by kernel_rfl) rfl rfl ?_
        refine AH_end (by kernel_rfl) ?_
        refine rn rfl ?_
        refine cut_end [27, 5, 4, 3, 0] [0] rfl ⟨false, (fun h => by cases h), fun _ x hx => ?_, rfl⟩
        have := lt_of_some hx; omega
    rintro σ' ⟨b, hb1, hb2, rfl⟩
    refine rn rfl ?_
    refine goal_cond rfl (fun h2 => ?_) (fun h2 => ?_)
    · obtain ⟨hji, hlt⟩ := hb1 h2
      obtain ⟨y, hy⟩ := at_some (xs := out) (i := j) (by omega)
      refine rn rfl ?_
      refine round_keep (i - (j + 1)) [5, 4, 3, 0] [0] (by omega) rfl ⟨_, j + 1, wrap64 (by omega) (by omega), by omega, rfl, ?_, rfl⟩
      rw [all_take_succ hy, hall, hlt y hy]; rfl
    refine rn rfl ?_
    refine round_ext ?_
    refine rn rfl ?_
    have htw := tw_at hall (hb2 h2)
    have hins : insS p out = out.take j ++ [p] ++ out.drop j := by simp [insS, htw.1, htw.2]
    refine goal_cut (fun σ' => σ' = ⟨[(44, .one (.bool true)), (5, .one (.int .i64 j)), (4, .one (.int .i64 i)), (3, .one (.os 0 0 i i)), (0, .one (.fs (xs.map eS)))], [ownS out], []⟩) ?_ ?_
    · refine goal_draw' [0] 15 rfl ?_
      refine drn [0, 1, 2, 3, 4] (by kernel_rfl) (by kernel_rfl) rfl rfl ?_
      refine AH_guard (i := 5) rfl rfl rfl (fun h4 => ?_) (fun h4 => ?_) <;> (try simp only [gt_iff_lt, ge_iff_le, bne_iff_ne, ne_eq, bne_eq_false_iff_eq, beq_iff_eq, beq_eq_false_iff_ne, Bool.not_eq_true', Bool.not_eq_false', decide_eq_true_eq, decide_eq_false_iff_not, List.length_map] at h4)
      · refine drn [5, 6, 7, 8, 9, 10, 11, 12, 13, 14] (by kernel_rfl) (by kernel_rfl) rfl rfl ?_
        refine AH_end (by kernel_rfl) ?_
        refine rn rfl ?_
        exact cut_end [44, 5, 4, 3, 0] [0] rfl rfl
      · have hji : j < i := by omega
        obtain ⟨y, hy⟩ := at_some (xs := out) (i := j) (by omega)
        have hne : (!(y == p)) = true := by
          have : y ≠ p := fun h0 => hnew (h0 ▸ List.mem_of_getElem? hy)
          simp [this]
        refine drn [5, 6, 9, 10] (by kernel_rfl) (by kernel_rfl) rfl rfl ?_
        refine AH_did 7 rfl (by kernel_rfl) (by kernel_rfl) (by kernel_rfl) rfl rfl (dA_indexOwn rfl rfl rfl rfl rfl rfl rfl rfl rfl (by omega) (by (try simp); omega)) ?_
        refine AH_did 8 rfl (by kernel_rfl) (by kernel_rfl) (by kernel_rfl) rfl rfl (dA_loadEl (eS y) rfl rfl rfl rfl (map_at (by simpa using hy)) rfl rfl rfl) ?_
        refine AH_did 11 rfl (by kernel_rfl) (by kernel_rfl) (by kernel_rfl) rfl rfl (dA_index (eS p) rfl rfl rfl rfl rfl rfl rfl (by omega) (by (try simp); omega) (map_at (by simpa using hp)) rfl) ?_
        refine drn [12, 13, 14] (by kernel_rfl) (by kernel_rfl) rfl rfl ?_
        refine AH_end (by kernel_rfl) ?_
        refine rn rfl ?_
        refine cut_end [44, 5, 4, 3, 0] [0] rfl ?_
        rw [← hne]; rfl
    rintro σ' rfl
    refine rn rfl ?_
    refine goal_cond rfl (fun _ => ?_) (fun h => by cases h)
    refine rn rfl ?_
    refine goal_cut (fun σ' => σ' = ⟨[(4, .one (.int .i64 i)), (3, .one (.os 0 0 (i + 1) (i + 1))), (0, .one (.fs (xs.map eS)))], [ownS (insS p out)], []⟩) ?_ ?_
    · refine goal_draw' [0] 16 rfl ?_
      refine drn [1, 2, 5, 6, 11, 12] (by kernel_rfl) (by kernel_rfl) rfl rfl ?_
      refine AH_did 3 rfl (by kernel_rfl) (by kernel_rfl) (by kernel_rfl) rfl rfl (dA_sliceOwn 0 j i 0 j i rfl rfl rfl rfl rfl rfl rfl Bnd.none_ (Bnd.some_ rfl rfl) (.inl ⟨rfl, rfl⟩) (by omega) (by omega) (Nat.le_refl _) (by simp; omega) rfl rfl rfl rfl) ?_
      refine AH_did 7 rfl (by kernel_rfl) (by kernel_rfl) (by kernel_rfl) rfl rfl (dA_index (eS p) rfl rfl rfl rfl rfl rfl rfl (by omega) (by simp; omega) (map_at (by simpa using hp)) rfl) ?_
      refine drn [8] (by kernel_rfl) (by kernel_rfl) rfl rfl ?_
      refine AH_did 13 rfl (by kernel_rfl) (by kernel_rfl) (by kernel_rfl) rfl rfl (dA_sliceOwn j i i j (i - j) (i - j) rfl rfl rfl rfl rfl rfl rfl (Bnd.some_ rfl rfl) Bnd.none_ (.inl ⟨rfl, rfl⟩) (by omega) (by omega) (Nat.le_refl _) (by simp; omega) rfl (by simp) rfl rfl) ?_
      refine AH_two (i := 0) (j := 9) (by kernel_rfl) (step_did rfl rfl (dA_step rfl)) (mdOk rfl) (step_did rfl rfl (dA_step rfl)) (mdOk rfl) ?_ ?_ <;> rintro _ rfl
      · refine AH_two (i := 4) (j := 9) (by kernel_rfl) (step_did rfl rfl (dA_append (old := []) ((out.take j).map eS) j true (Dst.own rfl rfl rfl rfl rfl (Nat.le_refl 0) rfl) (Src.os rfl rfl (by simp; omega) rfl) rfl rfl rfl rfl rfl rfl rfl rfl (by simp) (by simpa using rows_len eS_len (out.take j)) (by simp only [List.length_map, List.length_nil, List.length_take, List.length_drop]; show _ * 16 ≤ _; omega) (by simp; omega) (by simp) (by simp; omega) (fun _ => noOwnR_map _ eS_noOwn _))) (mdOk rfl) (step_did rfl rfl (dA_step rfl)) (mdOk rfl) ?_ ?_ <;> rintro _ rfl
        · refine AH_one (i := 9) (by kernel_rfl) (step_did rfl rfl (dA_step rfl)) (mdOk rfl) ?_
          rintro _ rfl
          refine AH_one (i := 10) (by kernel_rfl) (step_did rfl rfl (dA_append (old := (out.take j).map eS) (rows := [p].map eS) ((out.take j ++ [p]).map eS) (j + 1) true (Dst.own rfl rfl rfl rfl rfl (by simp; omega) (whole (by simp; omega))) (Src.os rfl rfl (Nat.le_refl 1) rfl) rfl rfl rfl rfl rfl rfl rfl rfl (rows_len eS_len _) (rows_len eS_len _) (by simp only [List.length_map, List.length_take]; show _ * 16 ≤ _; simp; omega) (by simp; omega) (by simp) (by simp; omega) (fun _ => noOwnR_map _ eS_noOwn _))) (mdOk rfl) ?_
          rintro _ rfl
          refine AH_one (i := 14) (by kernel_rfl) (step_did rfl rfl (dA_append (old := (out.take j ++ [p]).map eS) (rows := (out.drop j).map eS) ((insS p out).map eS) (i + 1) true (Dst.own rfl rfl rfl rfl rfl (by simp; omega) (whole (by simp; omega))) (Src.os rfl rfl (by simp; omega) (tailRows (by omega))) rfl rfl rfl rfl rfl rfl rfl rfl (rows_len eS_len _) (rows_len eS_len _) (by simp only [List.length_map, List.length_append, List.length_take, List.length_drop, List.length_cons, List.length_nil]; show _ * 16 ≤ _; omega) (by simp; omega) (by rw [hins]; simp) (by rw [List.length_map, insS_length]; omega) (fun _ => noOwnR_map _ eS_noOwn _))) (mdOk rfl) ?_
          rintro _ rfl
          refine drn [15] (by kernel_rfl) (by kernel_rfl) rfl rfl ?_
          refine AH_end (by kernel_rfl) ?_
          exact cut_end [4, 3, 0] [5] rfl rfl
        · refine AH_one (i := 4) (by kernel_rfl) (step_did rfl rfl (dA_append (old := []) ((out.take j).map eS) j true (Dst.own rfl rfl rfl rfl rfl (Nat.le_refl 0) rfl) (Src.os rfl rfl (by simp; omega) rfl) rfl rfl rfl rfl rfl rfl rfl rfl (by simp) (by simpa using rows_len eS_len (out.take j)) (by simp only [List.length_map, List.length_nil, List.length_take, List.length_drop]; show _ * 16 ≤ _; omega) (by simp; omega) (by simp) (by simp; omega) (fun _ => noOwnR_map _ eS_noOwn _))) (mdOk rfl) ?_
          rintro _ rfl
          refine AH_one (i := 10) (by kernel_rfl) (step_did rfl rfl (dA_append (old := (out.take j).map eS) (rows := [p].map eS) ((out.take j ++ [p]).map eS) (j + 1) true (Dst.own rfl rfl rfl rfl rfl (by simp; omega) (whole (by simp; omega))) (Src.os rfl rfl (Nat.le_refl 1) rfl) rfl rfl rfl rfl rfl rfl rfl rfl (rows_len eS_len _) (rows_len eS_len _) (by simp only [List.length_map, List.length_take]; show _ * 16 ≤ _; simp; omega) (by simp; omega) (by simp) (by simp; omega) (fun _ => noOwnR_map _ eS_noOwn _))) (mdOk rfl) ?_
          rintro _ rfl
          refine AH_one (i := 14) (by kernel_rfl) (step_did rfl rfl (dA_append (old := (out.take j ++ [p]).map eS) (rows := (out.drop j).map eS) ((insS p out).map eS) (i + 1) true (Dst.own rfl rfl rfl rfl rfl (by simp; omega) (whole (by simp; omega))) (Src.os rfl rfl (by simp; omega) (tailRows (by omega))) rfl rfl rfl rfl rfl rfl rfl rfl (rows_len eS_len _) (rows_len eS_len _) (by simp only [List.length_map, List.length_append, List.length_take, List.length_drop, List.length_cons, List.length_nil]; show _ * 16 ≤ _; omega) (by simp; omega) (by rw [hins]; simp) (by rw [List.length_map, insS_length]; omega) (fun _ => noOwnR_map _ eS_noOwn _))) (mdOk rfl) ?_
          rintro _ rfl
          refine drn [15] (by kernel_rfl) (by kernel_rfl) rfl rfl ?_
          refine AH_end (by kernel_rfl) ?_
          exact cut_end [4, 3, 0] [5] rfl rfl
      · refine AH_one (i := 0) (by kernel_rfl) (step_did rfl rfl (dA_step rfl)) (mdOk rfl) ?_
        rintro _ rfl
        refine AH_one (i := 4) (by kernel_rfl) (step_did rfl rfl (dA_append (old := []) ((out.take j).map eS) j true (Dst.own rfl rfl rfl rfl rfl (Nat.le_refl 0) rfl) (Src.os rfl rfl (by simp; omega) rfl) rfl rfl rfl rfl rfl rfl rfl rfl (by simp) (by simpa using rows_len eS_len (out.take j)) (by simp only [List.length_map, List.length_nil, List.length_take, List.length_drop]; show _ * 16 ≤ _; omega) (by simp; omega) (by simp) (by simp; omega) (fun _ => noOwnR_map _ eS_noOwn _))) (mdOk rfl) ?_
        rintro _ rfl
        refine AH_one (i := 10) (by kernel_rfl) (step_did rfl rfl (dA_append (old := (out.take j).map eS) (rows := [p].map eS) ((out.take j ++ [p]).map eS) (j + 1) true (Dst.own rfl rfl rfl rfl rfl (by simp; omega) (whole (by simp; omega))) (Src.os rfl rfl (Nat.le_refl 1) rfl) rfl rfl rfl rfl rfl rfl rfl rfl (rows_len eS_len _) (rows_len eS_len _) (by simp only [List.length_map, List.length_take]; show _ * 16 ≤ _; simp; omega) (by simp; omega) (by simp) (by simp; omega) (fun _ => noOwnR_map _ eS_noOwn _))) (mdOk rfl) ?_
        rintro _ rfl
        refine AH_one (i := 14) (by kernel_rfl) (step_did rfl rfl (dA_append (old := (out.take j ++ [p]).map eS) (rows := (out.drop j).map eS) ((insS p out).map eS) (i + 1) true (Dst.own rfl rfl rfl rfl rfl (by simp; omega) (whole (by simp; omega))) (Src.os rfl rfl (by simp; omega) (tailRows (by omega))) rfl rfl rfl rfl rfl rfl rfl rfl (rows_len eS_len _) (rows_len eS_len _) (by simp only [List.length_map, List.length_append, List.length_take, List.length_drop, List.length_cons, List.length_nil]; show _ * 16 ≤ _; omega) (by simp; omega) (by rw [hins]; simp) (by rw [List.length_map, insS_length]; omega) (fun _ => noOwnR_map _ eS_noOwn _))) (mdOk rfl) ?_
        rintro _ rfl
        refine drn [15] (by kernel_rfl) (by kernel_rfl) rfl rfl ?_
        refine AH_end (by kernel_rfl) ?_
        exact cut_end [4, 3, 0] [5] rfl rfl
    rintro σ' rfl
    refine rn rfl ?_
    refine round_keep (xs.length - (i + 1)) [4, 3, 0] [0] (by omega) rfl ⟨_, i + 1, i + 1, insS p out, wrap64 (by omega) (by omega), by omega, rfl, by rw [insS_length]; omega, hst.symm, rfl⟩
  · refine rn rfl (round_ext ?_)
    refine rn rfl (fin_is [] rfl ⟨?_, rfl⟩)
    rw [takeAll eS _ _ rfl, hout, show i = xs.length by omega, List.take_length]

def bareQ (p : Param) : Bool := p.kind == 0 && !p.hasD

def openQ (q : Param) (i : Nat) (n : Nat) : Bool := q.kind == 3 || (q.kind == 1 && decide (n ≤ i))

def nedQ (n : Nat) (x : Param × Nat) : Bool := openQ x.1 x.2 n && !x.1.hasD

def needNs (s : Sig) (n : Nat) : List Str := (s.zipIdx.filter (nedQ n)).map (fun x => x.1.name)

def takesC (s : Sig) (n : Nat) : Bool := !(decide (placesQ s < n) && !s.any (kIs 2)) && (s.drop n).all (fun p => !bareQ p)

def goodC (s : Sig) (n : Int) : Bool := okSig s && inR n 0 8 && takesC s n.toNat

def NeedsF (s : Sig) (n : Int) : List Str × Bool := if goodC s n then (sortS (needNs s n.toNat), true) else ([], false)

theorem needNs_succ {s : Sig} {n i : Nat} {q : Param} (hq : s[i]? = some q) : needNs (s.take (i + 1)) n = needNs (s.take i) n ++ (if nedQ n (q, i) then [q.name] else []) := by
  have hl : (s.take i).length = i := by have := lt_of_some hq; simp; omega
  unfold needNs
  rw [← take_snoc hq, List.zipIdx_append, List.filter_append, List.map_append, hl]
  congr 1
  simp only [List.zipIdx_cons, List.zipIdx_nil, Nat.zero_add, List.filter_cons, List.filter_nil]
  split <;> rfl

theorem needNs_sub (s : Sig) (n : Nat) : List.Sublist (needNs s n) (s.map Param.name) := by
  have h1 : s.map Param.name = s.zipIdx.map (fun x => x.1.name) := by
    have : (s.zipIdx.map Prod.fst) = s := by simp
    conv => lhs; rw [← this, List.map_map]
    rfl
  rw [h1]
  exact List.filter_sublist.map _

theorem needNs_len (s : Sig) (n : Nat) : (needNs s n).length ≤ s.length := by
  have := (needNs_sub s n).length_le
  simpa using this

theorem takes_iff {s : Sig} {n : Nat} : (s.drop n).all (fun p => !bareQ p) = true ↔ ∀ j p, s[j]? = some p → n ≤ j → bareQ p = false := by
  rw [List.all_eq_true]
  constructor
  · intro h j p hp hj
    have : p ∈ s.drop n := by
      have h2 : (s.drop n)[j - n]? = some p := by rw [List.getElem?_drop, show n + (j - n) = j by omega]; exact hp
      exact List.mem_of_getElem? h2
    simpa using h p this
  · intro h p hp
    obtain ⟨k, hk⟩ := List.getElem?_of_mem hp
    rw [List.getElem?_drop] at hk
    simpa using h _ p hk (by omega)

theorem open_ct (q : Param) (i n : Nat) : ACalls pk 110 [.agg (eQ q), .one (.int .i64 i), .one (.int .i64 n)] [] (fun r o => r = .one (.bool (openQ q i n)) ∧ o = []) := by
  refine acalls_of_body Try.func110 rfl (by kernel_rfl) rfl ?_
  refine rn rfl ?_
  refine goal_guard rfl rfl rfl (fun h1 => ?_) (fun h1 => ?_) <;> (try simp only [gt_iff_lt, ge_iff_le, bne_iff_ne, ne_eq, bne_eq_false_iff_eq, beq_iff_eq, beq_eq_false_iff_ne, Bool.not_eq_true', Bool.not_eq_false', decide_eq_true_eq, decide_eq_false_iff_not, List.length_map] at h1)
  · refine rn rfl (fin_is [] rfl ⟨?_, rfl⟩)
    simp [openQ, h1]
  · refine rn rfl ?_
    refine goal_guard rfl rfl rfl (fun h2 => ?_) (fun h2 => ?_) <;> (try simp only [gt_iff_lt, ge_iff_le, bne_iff_ne, ne_eq, bne_eq_false_iff_eq, beq_iff_eq, beq_eq_false_iff_ne, Bool.not_eq_true', Bool.not_eq_false', decide_eq_true_eq, decide_eq_false_iff_not, List.length_map] at h2)
    · refine rn rfl (fin_is [] rfl ⟨?_, rfl⟩)
      simp [openQ, h1, h2]
    · refine rn rfl (fin_is [] rfl ⟨?_, rfl⟩)
      simp [openQ, h1, h2]

theorem takesCount_ct (s : Sig) (n : Nat) (hl : s.length ≤ 1048576) (hn : n ≤ 8) : ACalls pk 57 [.agg (eG s), .one (.int .i64 n)] [] (fun r o => r = .one (.bool (takesC s n)) ∧ o = []) := by
  have hk := idxI_ge (pred := kIs 2) (xs := s) (i := 0)
  refine acalls_of_body Try.func57 rfl (by kernel_rfl) rfl ?_
  refine rt 1 rfl ?_
  refine goal_cutR (fun σ' => (decide (placesQ s < n) && !s.any (kIs 2)) = false ∧ σ' = ⟨[(2, .one (.op 0 0 0)), (1, .one (.int .i64 n))], [some ⟨1, [eG s], false, false, true⟩], []⟩) ?_ ?_
  · refine rn rfl ?_
    refine goal_step (step_call [] rfl rfl rfl rfl rfl rfl (splaces_ct s (by omega))) ?_
    rintro σ2 ⟨r, o', ⟨rfl, rfl⟩, hσ⟩
    obtain rfl := Option.some.inj hσ
    clear hσ
    refine rn rfl ?_
    refine goal_guard rfl rfl rfl (fun h1 => ?_) (fun h1 => ?_) <;> (try simp only [gt_iff_lt, ge_iff_le, bne_iff_ne, ne_eq, bne_eq_false_iff_eq, beq_iff_eq, beq_eq_false_iff_ne, Bool.not_eq_true', Bool.not_eq_false', decide_eq_true_eq, decide_eq_false_iff_not, List.length_map] at h1)
    · refine rn rfl ?_
      refine goal_step (step_call [] rfl rfl rfl rfl rfl rfl (kindAt_ct s 2 (by omega))) ?_
      rintro σ2 ⟨r, o', ⟨rfl, rfl⟩, hσ⟩
      obtain rfl := Option.some.inj hσ
      clear hσ
      refine rn rfl ?_
      refine goal_cond rfl (fun h2 => ?_) (fun h2 => ?_) <;> (try simp only [gt_iff_lt, ge_iff_le, bne_iff_ne, ne_eq, bne_eq_false_iff_eq, beq_iff_eq, beq_eq_false_iff_ne, Bool.not_eq_true', Bool.not_eq_false', decide_eq_true_eq, decide_eq_false_iff_not, List.length_map] at h2)
      · have h3 : s.any (kIs 2) = false := by
          cases h : s.any (kIs 2) with
          | false => rfl
          | true => have := hk.2 h; omega
        refine rn rfl ?_
        refine cut_ret ?_
        refine fin_is [] rfl ⟨?_, rfl⟩
        have : placesQ s < n := by omega
        simp [takesC, h3, this]
      · have h3 : s.any (kIs 2) = true := hk.1 (by omega)
        refine rn rfl ?_
        exact cut_nrm [2, 1] [0] rfl ⟨by simp [h3], rfl⟩
    · refine rn rfl ?_
      exact cut_nrm [2, 1] [0] rfl ⟨by have : ¬ placesQ s < n := by omega
                                       simp [this], rfl⟩
  rintro _ ⟨hpre, rfl⟩
  refine rn rfl ?_
  refine goal_loop_keep (fun m σ => ∃ (q : Int) (i : Nat), q = i ∧ n ≤ i ∧ m = s.length - i ∧ (∀ j p, s[j]? = some p → n ≤ j → j < i → bareQ p = false) ∧
      σ = ⟨[(5, .one (.int .i64 q)), (2, .one (.op 0 0 0))], [some ⟨1, [eG s], false, false, true⟩], []⟩) (s.length - n) [5, 2] [0] rfl
    ⟨_, n, rfl, by omega, by omega, fun j p _ h1 h2 => by omega, rfl⟩ ?_
  rintro m σ ⟨q, i, rfl, hi, rfl, hall, rfl⟩
  refine rn rfl ?_
  refine goal_cond rfl (fun h => ?_) (fun h => ?_) <;> (try simp only [gt_iff_lt, ge_iff_le, bne_iff_ne, ne_eq, bne_eq_false_iff_eq, beq_iff_eq, beq_eq_false_iff_ne, Bool.not_eq_true', Bool.not_eq_false', decide_eq_true_eq, decide_eq_false_iff_not, List.length_map] at h)
  · obtain ⟨p, hp⟩ := at_some (xs := s) (i := i) (by omega)
    refine rn rfl ?_
    refine goal_did rfl rfl (dA_index (eQ p) rfl rfl rfl rfl rfl rfl rfl (by omega) (by (try simp); omega) (map_at (by simpa using hp)) rfl) ?_
    refine rn rfl ?_
    refine goal_guard rfl rfl rfl (fun h1 => ?_) (fun h1 => ?_) <;> (try simp only [gt_iff_lt, ge_iff_le, bne_iff_ne, ne_eq, bne_eq_false_iff_eq, beq_iff_eq, beq_eq_false_iff_ne, Bool.not_eq_true', Bool.not_eq_false', decide_eq_true_eq, decide_eq_false_iff_not, List.length_map] at h1)
    · refine rn rfl ?_
      refine goal_did rfl rfl (dA_index (eQ p) rfl rfl rfl rfl rfl rfl rfl (by omega) (by (try simp); omega) (map_at (by simpa using hp)) rfl) ?_
      refine rn rfl ?_
      refine goal_cond rfl (fun h2 => ?_) (fun h2 => ?_) <;> (try simp only [gt_iff_lt, ge_iff_le, bne_iff_ne, ne_eq, bne_eq_false_iff_eq, beq_iff_eq, beq_eq_false_iff_ne, Bool.not_eq_true', Bool.not_eq_false', decide_eq_true_eq, decide_eq_false_iff_not, List.length_map] at h2)
      · refine rn rfl (round_ret (fin_is [] rfl ⟨?_, rfl⟩))
        have hb : bareQ p = true := by simp [bareQ, h1, h2]
        have : (s.drop n).all (fun p => !bareQ p) = false := by
          cases h : (s.drop n).all (fun p => !bareQ p) with
          | false => rfl
          | true => rw [takes_iff.1 h i p hp hi] at hb; cases hb
        simp [takesC, this]
      · have hb : bareQ p = false := by simp [bareQ, h2]
        refine rn rfl ?_
        refine round_keep (s.length - (i + 1)) [5, 2] [0] (by omega) rfl ⟨_, i + 1, wrap64 (by omega) (by omega), by omega, rfl, fun j r hr h3 h4 => ?_, rfl⟩
        by_cases hij : j = i
        · subst hij; rw [hp] at hr; cases hr; exact hb
        · exact hall j r hr h3 (by omega)
    · have hb : bareQ p = false := by simp [bareQ, h1]
      refine rn rfl ?_
      refine round_keep (s.length - (i + 1)) [5, 2] [0] (by omega) rfl ⟨_, i + 1, wrap64 (by omega) (by omega), by omega, rfl, fun j r hr h3 h4 => ?_, rfl⟩
      by_cases hij : j = i
      · subst hij; rw [hp] at hr; cases hr; exact hb
      · exact hall j r hr h3 (by omega)
  · refine rn rfl (round_ext ?_)
    refine rn rfl (fin_is [] rfl ⟨?_, rfl⟩)
    have : (s.drop n).all (fun p => !bareQ p) = true := takes_iff.2 (fun j p hp hj => hall j p hp hj (by have := lt_of_some hp; omega))
    simp only [takesC, hpre, this]; rfl

theorem goodCount_ct (s : Sig) (n : Int) (hl : LenS s) : ACalls pk 67 [.agg (eG s), .one (.int .i64 n)] [] (fun r o => r = .one (.bool (goodC s n)) ∧ o = []) := by
  obtain ⟨s1, s2⟩ := hl
  refine acalls_of_body Try.func67 rfl (by kernel_rfl) rfl ?_
  refine rn rfl ?_
  refine goal_step (step_call [] rfl rfl rfl rfl rfl rfl (svalidSig_ct s (by omega) s2)) ?_
  rintro σ2 ⟨r, o', ⟨rfl, rfl⟩, hσ⟩
  obtain rfl := Option.some.inj hσ
  clear hσ
  refine rn rfl ?_
  refine goal_guard rfl rfl rfl (fun h1 => ?_) (fun h1 => ?_) <;> (try simp only [gt_iff_lt, ge_iff_le, bne_iff_ne, ne_eq, bne_eq_false_iff_eq, beq_iff_eq, beq_eq_false_iff_ne, Bool.not_eq_true', Bool.not_eq_false', decide_eq_true_eq, decide_eq_false_iff_not, List.length_map] at h1)
  · refine rn rfl ?_
    refine goal_step (step_call [] rfl rfl rfl rfl rfl rfl (sin_ct n 0 8)) ?_
    rintro σ2 ⟨r, o', ⟨rfl, rfl⟩, hσ⟩
    obtain rfl := Option.some.inj hσ
    clear hσ
    refine rn rfl ?_
    refine goal_guard rfl rfl rfl (fun h2 => ?_) (fun h2 => ?_) <;> (try simp only [gt_iff_lt, ge_iff_le, bne_iff_ne, ne_eq, bne_eq_false_iff_eq, beq_iff_eq, beq_eq_false_iff_ne, Bool.not_eq_true', Bool.not_eq_false', decide_eq_true_eq, decide_eq_false_iff_not, List.length_map] at h2)
    · have hr : 0 ≤ n ∧ n ≤ 8 := by simp [inR] at h2; omega
      obtain ⟨k, rfl⟩ : ∃ k : Nat, n = k := ⟨n.toNat, by omega⟩
      refine rn rfl ?_
      refine goal_step (step_call [] rfl rfl rfl rfl rfl rfl (takesCount_ct s k s1 (by omega))) ?_
      rintro σ2 ⟨r, o', ⟨rfl, rfl⟩, hσ⟩
      obtain rfl := Option.some.inj hσ
      clear hσ
      refine rn rfl ?_
      refine rn rfl (fin_is [] rfl ⟨?_, rfl⟩)
      simp [goodC, h1, h2]
    · refine rn rfl (fin_is [] rfl ⟨?_, rfl⟩)
      simp [goodC, h1, h2]
  · refine goal_guard rfl rfl rfl (fun h => by cases h) (fun _ => ?_)
    refine rn rfl (fin_is [] rfl ⟨?_, rfl⟩)
    simp [goodC, h1]

theorem sneeds_ct (s : Sig) (n : Nat) (hs : OkS s) (hn : n ≤ 8) : ACalls pk 58 [.agg (eG s), .one (.int .i64 n)] [] (fun r o => r = .one (.fs ((sortS (needNs s n)).map eS)) ∧ o = []) := by
  have hl := hs.len
  have hnl := needNs_len s n
  have hnd : (needNs s n).Nodup := hs.nodup.sublist (needNs_sub s n)
  refine acalls_of_body Try.func58 rfl (by kernel_rfl) rfl ?_
  refine rn rfl ?_
  refine goal_loop_keep (fun m σ => ∃ (q : Int) (i l : Nat) (acc : List Str), q = i ∧ i ≤ s.length ∧ m = s.length - i ∧ l = acc.length ∧ acc = needNs (s.take i) n ∧
      σ = ⟨[(6, .one (.int .i64 q)), (5, .one (.os 1 0 l l)), (2, .one (.op 0 0 0)), (1, .one (.int .i64 n))], [some ⟨1, [eG s], false, false, true⟩, ownS acc], []⟩) s.length [6, 5, 2, 1] [0, 1] rfl
    ⟨_, 0, 0, [], rfl, by omega, by omega, rfl, rfl, rfl⟩ ?_
  rintro m σ ⟨q, i, l, acc, rfl, hi, rfl, rfl, hacc, rfl⟩
  have hal := needNs_len (s.take i) n
  rw [← hacc, List.length_take] at hal
  refine rn rfl ?_
  refine goal_cond rfl (fun h => ?_) (fun h => ?_) <;> (try simp only [gt_iff_lt, ge_iff_le, bne_iff_ne, ne_eq, bne_eq_false_iff_eq, beq_iff_eq, beq_eq_false_iff_ne, Bool.not_eq_true', Bool.not_eq_false', decide_eq_true_eq, decide_eq_false_iff_not, List.length_map] at h)
  · obtain ⟨p, hp⟩ := at_some (xs := s) (i := i) (by omega)
    have hst := needNs_succ (n := n) hp
    rw [← hacc] at hst
    refine rn rfl ?_
    refine goal_did rfl rfl (dA_index (eQ p) rfl rfl rfl rfl rfl rfl rfl (by omega) (by (try simp); omega) (map_at (by simpa using hp)) rfl) ?_
    refine rn rfl ?_
    refine goal_step (step_call [] rfl rfl rfl rfl rfl rfl (open_ct p i n)) ?_
    rintro σ2 ⟨r, o', ⟨rfl, rfl⟩, hσ⟩
    obtain rfl := Option.some.inj hσ
    clear hσ
    refine rn rfl ?_
    refine goal_guard rfl rfl rfl (fun h1 => ?_) (fun h1 => ?_) <;> (try simp only [gt_iff_lt, ge_iff_le, bne_iff_ne, ne_eq, bne_eq_false_iff_eq, beq_iff_eq, beq_eq_false_iff_ne, Bool.not_eq_true', Bool.not_eq_false', decide_eq_true_eq, decide_eq_false_iff_not, List.length_map] at h1)
    · refine rn rfl ?_
      refine goal_did rfl rfl (dA_index (eQ p) rfl rfl rfl rfl rfl rfl rfl (by omega) (by (try simp); omega) (map_at (by simpa using hp)) rfl) ?_
      refine rn rfl ?_
      refine goal_cond rfl (fun h2 => ?_) (fun h2 => ?_) <;> (try simp only [gt_iff_lt, ge_iff_le, bne_iff_ne, ne_eq, bne_eq_false_iff_eq, beq_iff_eq, beq_eq_false_iff_ne, Bool.not_eq_true', Bool.not_eq_false', decide_eq_true_eq, decide_eq_false_iff_not, List.length_map] at h2)
      · refine rn rfl ?_
        refine goal_did rfl rfl (dA_index (eQ p) rfl rfl rfl rfl rfl rfl rfl (by omega) (by (try simp); omega) (map_at (by simpa using hp)) rfl) ?_
        refine rn rfl ?_
        refine goal_did rfl rfl (dA_append (old := (acc).map eS) (rows := ([p.name] : List Str).map eS) (((acc) ++ ([p.name] : List Str)).map eS) (acc.length + 1) true (Dst.own rfl rfl rfl rfl rfl (by first | (simp; done) | (simp; omega)) (whole (by first | (simp; done) | (simp; omega)))) (Src.os rfl rfl (Nat.le_refl 1) rfl) rfl rfl rfl rfl rfl rfl rfl rfl (rows_len eS_len _) (rows_len eS_len _) (by (try simp only [List.length_map, List.length_append, List.length_cons, List.length_nil, List.length_take, List.length_drop]); show _ * 16 ≤ _; omega) (by first | (simp; done) | (simp; omega)) (by simp) (by first | (simp; done) | (simp; omega)) (fun _ => noOwnR_map _ eS_noOwn _)) ?_
        refine rn rfl ?_
        refine round_keep (s.length - (i + 1)) [6, 5, 2, 1] [0, 3] (by omega) rfl ⟨_, i + 1, acc.length + 1, acc ++ [p.name], wrap64 (by omega) (by omega), by omega, rfl, by simp, by rw [hst]; simp [nedQ, h1, h2], rfl⟩
      · refine rn rfl ?_
        refine round_keep (s.length - (i + 1)) [6, 5, 2, 1] [0, 1] (by omega) rfl ⟨_, i + 1, acc.length, acc, wrap64 (by omega) (by omega), by omega, rfl, rfl, by rw [hst]; simp [nedQ, h1, h2], rfl⟩
    · refine rn rfl ?_
      refine round_keep (s.length - (i + 1)) [6, 5, 2, 1] [0, 1] (by omega) rfl ⟨_, i + 1, acc.length, acc, wrap64 (by omega) (by omega), by omega, rfl, rfl, by rw [hst]; simp [nedQ, h1], rfl⟩
  · refine rn rfl (round_ext ?_)
    have hfin : acc = needNs s n := by rw [hacc, show i = s.length by omega, List.take_length]
    rw [← hfin] at hnd hnl ⊢
    refine rn rfl ?_
    refine goal_step (step_callE [] rfl rfl rfl rfl rfl rfl (cons_eq (congrArg (fun x => T.one (C.fs x)) (takeAll eS acc _ rfl)) rfl) (sortedTexts_ct acc hnd (by omega))) ?_
    rintro σ2 ⟨r, o', ⟨rfl, rfl⟩, hσ⟩
    obtain rfl := Option.some.inj hσ
    clear hσ
    refine rn rfl ?_
    exact rn rfl (fin_is [] rfl ⟨rfl, rfl⟩)

theorem open_kind {p : Param} {i n : Nat} : openQ p i n = true ↔ p.kind = 3 ∨ (p.kind = 1 ∧ n ≤ i) := by
  simp [openQ]

theorem need_skip {n i : Nat} {p : Param} (h : singleQ p = false ∨ p.hasD = true ∨ (placedQ p = true ∧ i < n)) : nedQ n (p, i) = false := by
  unfold nedQ openQ
  simp only
  rcases h with h | h | ⟨h, hi⟩
  · have : p.kind ≠ 1 ∧ p.kind ≠ 3 := by
      constructor <;> intro h0 <;> simp [singleQ, placedQ, h0] at h
    simp [this.1, this.2]
  · simp [h]
  · rw [placed_kind] at h
    have : ¬ n ≤ i := by omega
    have h3 : p.kind ≠ 3 := by omega
    simp [this, h3]

theorem need_take {n i : Nat} {p : Param} (hs : singleQ p = true) (hd : p.hasD = false) (hp : placedQ p = false ∨ n ≤ i) (hk : ¬ p.kind = 0) : nedQ n (p, i) = true := by
  unfold nedQ openQ
  simp only [hd, Bool.not_false, Bool.and_true]
  rw [single_kind] at hs
  rcases hs with h | h | h
  · exact absurd h hk
  · have : n ≤ i := by
      rcases hp with hp | hp
      · simp [placedQ, h] at hp
      · exact hp
    simp [h, this]
  · simp [h]

def needsF (s : Sig) (n : Int) : List Str × Bool := if inR n 0 8 && takesC s n.toNat then (sortS (needNs s n.toNat), true) else ([], false)

theorem ineeds_ct (s : Sig) (n : Int) (hs : OkS s) : ACalls pk 68 [.agg (eG s), .one (.int .i64 n)] [] (fun r o => r = .tup [.one (.os 0 0 (needsF s n).1.length (needsF s n).1.length), .one (.bool (needsF s n).2)] ∧ o = [ownS (needsF s n).1]) := by
  have hl := hs.len
  have hP := placesQ_le s
  refine acalls_of_body Try.func68 rfl (by kernel_rfl) rfl ?_
  refine rt 1 rfl ?_
  refine goal_cutR (fun σ' => (inR n 0 8 = true ∧ (decide (placesQ s < n.toNat) && !s.any (kIs 2)) = false) ∧ σ' = ⟨[(2, .one (.op 0 0 0)), (1, .one (.int .i64 n))], [some ⟨1, [eG s], false, false, true⟩], []⟩) ?_ ?_
  · refine rn rfl ?_
    refine goal_step (step_call [] rfl rfl rfl rfl rfl rfl (iin_ct n 0 8)) ?_
    rintro σ2 ⟨r, o', ⟨rfl, rfl⟩, hσ⟩
    obtain rfl := Option.some.inj hσ
    clear hσ
    refine rn rfl ?_
    refine goal_guard rfl rfl rfl (fun h1 => ?_) (fun h1 => ?_) <;> (try simp only [gt_iff_lt, ge_iff_le, bne_iff_ne, ne_eq, bne_eq_false_iff_eq, beq_iff_eq, beq_eq_false_iff_ne, Bool.not_eq_true', Bool.not_eq_false', decide_eq_true_eq, decide_eq_false_iff_not, List.length_map] at h1)
    · have hz : needsF s n = ([], false) := by simp [needsF, h1]
      rw [hz]
      refine rn rfl ?_
      refine cut_ret ?_
      exact fin_weak (Weak.adopt 4 0 1) (fin_is [1] rfl ⟨rfl, rfl⟩)
    · have hr : 0 ≤ n ∧ n ≤ 8 := by simp [inR] at h1; omega
      refine rn rfl ?_
      refine goal_step (step_call [] rfl rfl rfl rfl rfl rfl (iplaces_ct s (by omega))) ?_
      rintro σ2 ⟨r, o', ⟨rfl, rfl⟩, hσ⟩
      obtain rfl := Option.some.inj hσ
      clear hσ
      refine rn rfl ?_
      refine goal_guard rfl rfl rfl (fun h2 => ?_) (fun h2 => ?_) <;> (try simp only [gt_iff_lt, ge_iff_le, bne_iff_ne, ne_eq, bne_eq_false_iff_eq, beq_iff_eq, beq_eq_false_iff_ne, Bool.not_eq_true', Bool.not_eq_false', decide_eq_true_eq, decide_eq_false_iff_not, List.length_map] at h2)
      · refine rn rfl ?_
        refine goal_step (step_call [] rfl rfl rfl rfl rfl rfl (has_ct s 2 (by omega))) ?_
        rintro σ2 ⟨r, o', ⟨rfl, rfl⟩, hσ⟩
        obtain rfl := Option.some.inj hσ
        clear hσ
        refine rn rfl ?_
        refine goal_cond rfl (fun h3 => ?_) (fun h3 => ?_) <;> (try simp only [gt_iff_lt, ge_iff_le, bne_iff_ne, ne_eq, bne_eq_false_iff_eq, beq_iff_eq, beq_eq_false_iff_ne, Bool.not_eq_true', Bool.not_eq_false', decide_eq_true_eq, decide_eq_false_iff_not, List.length_map] at h3)
        · have hz : needsF s n = ([], false) := by
            have : placesQ s < n.toNat := by omega
            simp [needsF, takesC, h3, this]
          rw [hz]
          refine rn rfl ?_
          refine cut_ret ?_
          exact fin_weak (Weak.adopt 4 0 1) (fin_is [1] rfl ⟨rfl, rfl⟩)
        · refine rn rfl ?_
          exact cut_nrm [2, 1] [0] rfl ⟨⟨by simpa using h1, by simp [h3]⟩, rfl⟩
      · have hno : ¬ placesQ s < n.toNat := by omega
        refine rn rfl ?_
        exact cut_nrm [2, 1] [0] rfl ⟨⟨by simpa using h1, by simp [hno]⟩, rfl⟩
  rintro _ ⟨⟨hin, hpre⟩, rfl⟩
  have hr : 0 ≤ n ∧ n ≤ 8 := by simp [inR] at hin; omega
  obtain ⟨k, rfl⟩ : ∃ k : Nat, n = k := ⟨n.toNat, by omega⟩
  rw [Int.toNat_natCast] at hpre
  have hnF : needsF s k = if (s.drop k).all (fun p => !bareQ p) then (sortS (needNs s k), true) else ([], false) := by
    simp only [needsF, hin, takesC, Int.toNat_natCast, hpre, Bool.true_and, Bool.not_false]
  rw [hnF]
  refine rn rfl ?_
  refine goal_weakCod (Weak.adopt 6 0 1) ?_
  refine goal_loop_keep (fun m σ => ∃ (q L pc : Int) (i l : Nat) (acc : List Str), q = i ∧ L = s.length ∧ pc = ((min i (placesQ s) : Nat) : Int) ∧ i ≤ s.length ∧ m = s.length - i ∧ l = acc.length ∧ acc = needNs (s.take i) k ∧
      (∀ j p, s[j]? = some p → k ≤ j → j < i → bareQ p = false) ∧
      σ = ⟨[(27, .one (.int .i64 q)), (26, .one (.int .i64 L)), (25, .one (.fs (s.map eQ))), (7, .one (.int .i64 pc)), (6, .one (.os 0 0 l l)), (1, .one (.int .i64 k))], [ownS acc], []⟩) s.length [27, 26, 25, 7, 6, 1] [1] rfl
    ⟨_, _, _, 0, 0, [], rfl, ?_, ?_, by omega, by omega, rfl, rfl, fun j p _ h1 h2 => by omega, rfl⟩ ?_
  · simp
  · simp
  rintro m σ ⟨q, L, pc, i, l, acc, rfl, rfl, rfl, hi, rfl, rfl, hacc, hall, rfl⟩
  have hal := needNs_len (s.take i) k
  rw [← hacc, List.length_take] at hal
  refine rn rfl ?_
  refine goal_cond rfl (fun h => ?_) (fun h => ?_) <;> (try simp only [gt_iff_lt, ge_iff_le, bne_iff_ne, ne_eq, bne_eq_false_iff_eq, beq_iff_eq, beq_eq_false_iff_ne, Bool.not_eq_true', Bool.not_eq_false', decide_eq_true_eq, decide_eq_false_iff_not, List.length_map] at h)
  · obtain ⟨p, hp⟩ := at_some (xs := s) (i := i) (by omega)
    have hst := needNs_succ (n := k) hp
    rw [← hacc] at hst
    have hpi := hs.placed_iff hp
    have hskip : nedQ k (p, i) = false → needNs (s.take (i + 1)) k = acc := fun h0 => by rw [hst, h0]; simp
    have hallS : bareQ p = false ∨ i < k → ∀ j r, s[j]? = some r → k ≤ j → j < i + 1 → bareQ r = false := fun h0 j r hr hj hji => by
      by_cases hij : j = i
      · subst hij
        rw [hp] at hr; cases hr
        rcases h0 with h0 | h0
        · exact h0
        · omega
      · exact hall j r hr hj (by omega)
    refine rn rfl ?_
    refine goal_did rfl rfl (dA_index (eQ p) rfl rfl rfl rfl rfl rfl rfl (by omega) (by (try simp); omega) (map_at (by simpa using hp)) rfl) ?_
    refine rt 8 rfl ?_
    refine goal_cutR (fun σ' => σ' = ⟨[(27, .one (.int .i64 i)), (26, .one (.int .i64 s.length)), (25, .one (.fs (s.map eQ))), (9, .one (.op 1 0 0)), (7, .one (.int .i64 ((min (i + 1) (placesQ s) : Nat) : Int))), (6, .one (.os 0 0 acc.length acc.length)), (1, .one (.int .i64 k))], [ownS acc, some ⟨4, [eQ p], false, false, true⟩], []⟩) ?_ ?_
    · refine rn rfl ?_
      refine goal_step (step_call [] rfl rfl rfl rfl rfl rfl (iplaced_ct p)) ?_
      rintro σ2 ⟨r, o', ⟨rfl, rfl⟩, hσ⟩
      obtain rfl := Option.some.inj hσ
      clear hσ
      refine rn rfl ?_
      refine goal_cond rfl (fun h1 => ?_) (fun h1 => ?_) <;> (try simp only [gt_iff_lt, ge_iff_le, bne_iff_ne, ne_eq, bne_eq_false_iff_eq, beq_iff_eq, beq_eq_false_iff_ne, Bool.not_eq_true', Bool.not_eq_false', decide_eq_true_eq, decide_eq_false_iff_not, List.length_map] at h1)
      · have hip := hpi.1 h1
        have e : IntKind.i64.wrap (((min i (placesQ s) : Nat) : Int) + 1) = ((min (i + 1) (placesQ s) : Nat) : Int) := by rw [wrap64 (by omega) (by omega)]; omega
        rw [← e]
        refine rn rfl ?_
        exact cut_nrm [27, 26, 25, 9, 7, 6, 1] [0, 1] rfl rfl
      · have hip : ¬ i < placesQ s := fun h0 => by rw [hpi.2 h0] at h1; cases h1
        have e : min (i + 1) (placesQ s) = min i (placesQ s) := by omega
        rw [e]
        refine rn rfl ?_
        exact cut_nrm [27, 26, 25, 9, 7, 6, 1] [0, 1] rfl rfl
    rintro _ rfl
    refine rt 10 rfl ?_
    refine goal_cutR (fun σ' => (singleQ p = true ∧ p.hasD = false ∧ (placedQ p = false ∨ k ≤ i)) ∧ σ' = ⟨[(27, .one (.int .i64 i)), (26, .one (.int .i64 s.length)), (25, .one (.fs (s.map eQ))), (9, .one (.op 1 0 0)), (7, .one (.int .i64 ((min (i + 1) (placesQ s) : Nat) : Int))), (6, .one (.os 0 0 acc.length acc.length)), (1, .one (.int .i64 k))], [ownS acc, some ⟨4, [eQ p], false, false, true⟩], []⟩) ?_ ?_
    · have next : ∀ h0 : singleQ p = false ∨ p.hasD = true ∨ (placedQ p = true ∧ i < k), needNs (s.take (i + 1)) k = acc ∧ ∀ j r, s[j]? = some r → k ≤ j → j < i + 1 → bareQ r = false := fun h0 =>
        ⟨hskip (need_skip h0), hallS (by
          rcases h0 with h0 | h0 | ⟨_, h0⟩
          · left
            have : p.kind ≠ 0 := fun h2 => by simp [singleQ, placedQ, h2] at h0
            simp [bareQ, this]
          · left; simp [bareQ, h0]
          · right; exact h0)⟩
      refine rn rfl ?_
      refine goal_step (step_call [] rfl rfl rfl rfl rfl rfl (isingle_ct p)) ?_
      rintro σ2 ⟨r, o', ⟨rfl, rfl⟩, hσ⟩
      obtain rfl := Option.some.inj hσ
      clear hσ
      refine rn rfl ?_
      refine goal_guard rfl rfl rfl (fun h1 => ?_) (fun h1 => ?_) <;> (try simp only [gt_iff_lt, ge_iff_le, bne_iff_ne, ne_eq, bne_eq_false_iff_eq, beq_iff_eq, beq_eq_false_iff_ne, Bool.not_eq_true', Bool.not_eq_false', decide_eq_true_eq, decide_eq_false_iff_not, List.length_map] at h1)
      · obtain ⟨n1, n2⟩ := next (.inl h1)
        refine rn rfl ?_
        refine cut_ext ?_
        refine rn rfl ?_
        refine round_keep (s.length - (i + 1)) [27, 26, 25, 7, 6, 1] [0] (by omega) rfl ⟨_, _, _, i + 1, acc.length, acc, wrap64 (by omega) (by omega), rfl, rfl, by omega, rfl, rfl, n1.symm, n2, rfl⟩
      · refine rn rfl ?_
        refine goal_guard rfl rfl rfl (fun h2 => ?_) (fun h2 => ?_) <;> (try simp only [gt_iff_lt, ge_iff_le, bne_iff_ne, ne_eq, bne_eq_false_iff_eq, beq_iff_eq, beq_eq_false_iff_ne, Bool.not_eq_true', Bool.not_eq_false', decide_eq_true_eq, decide_eq_false_iff_not, List.length_map] at h2)
        · obtain ⟨n1, n2⟩ := next (.inr (.inl h2))
          refine rn rfl ?_
          refine cut_ext ?_
          refine rn rfl ?_
          refine round_keep (s.length - (i + 1)) [27, 26, 25, 7, 6, 1] [0] (by omega) rfl ⟨_, _, _, i + 1, acc.length, acc, wrap64 (by omega) (by omega), rfl, rfl, by omega, rfl, rfl, n1.symm, n2, rfl⟩
        · refine rn rfl ?_
          refine goal_step (step_call [] rfl rfl rfl rfl rfl rfl (iplaced_ct p)) ?_
          rintro σ2 ⟨r, o', ⟨rfl, rfl⟩, hσ⟩
          obtain rfl := Option.some.inj hσ
          clear hσ
          refine rn rfl ?_
          refine goal_guard rfl rfl rfl (fun h3 => ?_) (fun h3 => ?_) <;> (try simp only [gt_iff_lt, ge_iff_le, bne_iff_ne, ne_eq, bne_eq_false_iff_eq, beq_iff_eq, beq_eq_false_iff_ne, Bool.not_eq_true', Bool.not_eq_false', decide_eq_true_eq, decide_eq_false_iff_not, List.length_map] at h3)
          · have hip := hpi.1 h3
            refine rn rfl ?_
            refine goal_cond rfl (fun h4 => ?_) (fun h4 => ?_) <;> (try simp only [gt_iff_lt, ge_iff_le, bne_iff_ne, ne_eq, bne_eq_false_iff_eq, beq_iff_eq, beq_eq_false_iff_ne, Bool.not_eq_true', Bool.not_eq_false', decide_eq_true_eq, decide_eq_false_iff_not, List.length_map] at h4)
            · obtain ⟨n1, n2⟩ := next (.inr (.inr ⟨h3, by omega⟩))
              refine rn rfl ?_
              refine cut_ext ?_
              refine rn rfl ?_
              refine round_keep (s.length - (i + 1)) [27, 26, 25, 7, 6, 1] [0] (by omega) rfl ⟨_, _, _, i + 1, acc.length, acc, wrap64 (by omega) (by omega), rfl, rfl, by omega, rfl, rfl, n1.symm, n2, rfl⟩
            · refine rn rfl ?_
              exact cut_nrm [27, 26, 25, 9, 7, 6, 1] [0, 1] rfl ⟨⟨h1, h2, .inr (by omega)⟩, rfl⟩
          · refine rn rfl ?_
            exact cut_nrm [27, 26, 25, 9, 7, 6, 1] [0, 1] rfl ⟨⟨h1, h2, .inl h3⟩, rfl⟩
    rintro _ ⟨⟨g1, g2, g3⟩, rfl⟩
    refine rn rfl ?_
    refine goal_cond rfl (fun h5 => ?_) (fun h5 => ?_) <;> (try simp only [gt_iff_lt, ge_iff_le, bne_iff_ne, ne_eq, bne_eq_false_iff_eq, beq_iff_eq, beq_eq_false_iff_ne, Bool.not_eq_true', Bool.not_eq_false', decide_eq_true_eq, decide_eq_false_iff_not, List.length_map] at h5)
    · refine rn rfl (round_ret ?_)
      have hki : k ≤ i := by
        rcases g3 with g3 | g3
        · simp [placedQ, h5] at g3
        · exact g3
      have hno : (s.drop k).all (fun p => !bareQ p) = false := by
        cases hb : (s.drop k).all (fun p => !bareQ p) with
        | false => rfl
        | true =>
          have := takes_iff.1 hb i p hp hki
          simp [bareQ, h5, g2] at this
      rw [hno]
      exact fin_weak (Weak.adopt 4 0 1) (fin_is [2] rfl ⟨rfl, rfl⟩)
    · have hne := need_take g1 g2 g3 h5
      refine rn rfl ?_
      refine goal_did rfl rfl (dA_append (old := (acc).map eS) (rows := ([p.name] : List Str).map eS) (((acc) ++ ([p.name] : List Str)).map eS) (acc.length + 1) true (Dst.own rfl rfl rfl rfl rfl (by first | (simp; done) | (simp; omega)) (whole (by first | (simp; done) | (simp; omega)))) (Src.os rfl rfl (Nat.le_refl 1) rfl) rfl rfl rfl rfl rfl rfl rfl rfl (rows_len eS_len _) (rows_len eS_len _) (by (try simp only [List.length_map, List.length_append, List.length_cons, List.length_nil, List.length_take, List.length_drop]); show _ * 16 ≤ _; omega) (by first | (simp; done) | (simp; omega)) (by simp) (by first | (simp; done) | (simp; omega)) (fun _ => noOwnR_map _ eS_noOwn _)) ?_
      refine rn rfl ?_
      refine round_keep (s.length - (i + 1)) [27, 26, 25, 7, 6, 1] [3] (by omega) rfl ⟨_, _, _, i + 1, acc.length + 1, acc ++ [p.name], wrap64 (by omega) (by omega), rfl, rfl, by omega, rfl, by simp, by rw [hst, hne]; rfl, hallS (.inl (by simp [bareQ, h5])), rfl⟩
  · refine rn rfl (round_ext ?_)
    have hfin : acc = needNs s k := by rw [hacc, show i = s.length by omega, List.take_length]
    have hnd : (needNs s k).Nodup := hs.nodup.sublist (needNs_sub s k)
    have hyes : (s.drop k).all (fun p => !bareQ p) = true := takes_iff.2 (fun j p hp hj => hall j p hp hj (by have := lt_of_some hp; omega))
    rw [hyes, ← hfin]
    rw [← hfin] at hnd
    refine rn rfl ?_
    refine goal_step (step_call [0] rfl rfl rfl rfl rfl rfl (sortSmallS_ct acc acc.length (by omega))) ?_
    rintro σ2 ⟨r, o', ⟨rfl, rfl⟩, hσ⟩
    obtain rfl := Option.some.inj hσ
    clear hσ
    refine rn rfl ?_
    refine rn rfl ?_
    refine goal_step (step_callE [0] rfl rfl rfl rfl rfl rfl (congrArg (fun x => [T.one (.os 0 0 x acc.length)]) (isortL_length ltS acc).symm) (clipS_ct (isortL ltS acc) acc.length (by rw [isortL_length]; exact Nat.le_refl _))) ?_
    rintro σ2 ⟨r, o', ⟨rfl, rfl⟩, hσ⟩
    obtain rfl := Option.some.inj hσ
    clear hσ
    refine rn rfl ?_
    rw [sortS_eq acc hnd]
    exact rn rfl (fin_is [0] rfl ⟨rfl, rfl⟩)

theorem ineedsAt_ct (s : Sig) (n : Int) (hl : LenS s) : ACalls pk 29 [.agg (eG s), .one (.int .i64 n)] [] (fun r o => r = .tup [.one (.os 0 0 (NeedsF s n).1.length (NeedsF s n).1.length), .one (.bool (NeedsF s n).2)] ∧ o = [ownS (NeedsF s n).1]) := by
  obtain ⟨s1, s2⟩ := hl
  refine acalls_of_body Try.func29 rfl (by kernel_rfl) rfl ?_
  refine rn rfl ?_
  refine goal_step (step_call [] rfl rfl rfl rfl rfl rfl (ivalidSig_ct s (by omega) s2)) ?_
  rintro σ2 ⟨r, o', ⟨rfl, rfl⟩, hσ⟩
  obtain rfl := Option.some.inj hσ
  clear hσ
  refine rn rfl ?_
  refine goal_cond rfl (fun h => ?_) (fun h => ?_) <;> (try simp only [gt_iff_lt, ge_iff_le, bne_iff_ne, ne_eq, bne_eq_false_iff_eq, beq_iff_eq, beq_eq_false_iff_ne, Bool.not_eq_true', Bool.not_eq_false', decide_eq_true_eq, decide_eq_false_iff_not, List.length_map] at h)
  · have hz : NeedsF s n = ([], false) := by simp [NeedsF, goodC, h]
    rw [hz]
    refine rn rfl ?_
    exact fin_weak (Weak.adopt 4 0 1) (fin_is [1] rfl ⟨rfl, rfl⟩)
  · have hz : NeedsF s n = needsF s n := by simp [NeedsF, needsF, goodC, h]
    rw [hz]
    refine rn rfl ?_
    refine goal_step (step_call [] rfl rfl rfl rfl rfl rfl (ineeds_ct s n (okSig_iff.1 h))) ?_
    rintro σ2 ⟨r, o', ⟨rfl, rfl⟩, hσ⟩
    obtain rfl := Option.some.inj hσ
    clear hσ
    refine rn rfl ?_
    exact rn rfl (fin_is [1] rfl ⟨rfl, rfl⟩)

theorem asS (xs : List Str) : T.one (C.fs (List.take xs.length (List.drop 0 (xs.map eS)))) = T.one (.fs (xs.map eS)) := by rw [takeAll eS _ _ rfl]

theorem ineedsAtD_ct (s : Sig) (n : Int) (hl : LenS s) : ACalls pk 29 [.agg (eG s), .one (.int .i64 n)] [] (fun r o => r = .tup [.one (.fs ((NeedsF s n).1.map eS)), .one (.bool (NeedsF s n).2)] ∧ o = []) :=
  (ineedsAt_ct s n hl).told [] (by rintro r o ⟨rfl, rfl⟩; exact ⟨_, _, rfl, congrArg (fun t => T.tup [t, .one (.bool (NeedsF s n).2)]) (asS _), rfl⟩)

theorem sortS_sorted {xs : List Str} (h : xs.Nodup) : (sortS xs).Pairwise (fun a b => ltS a b = true) := by
  have := sortL_sorted (xs := xs.map mkN) (by rw [names_mk]; exact h)
  rw [← sortS_map] at this
  unfold Sorted at this
  rw [List.pairwise_map] at this
  exact this

theorem OkS.okName {s : Sig} (h : OkS s) {p : Param} (hp : p ∈ s) : okName p.name = true := by
  have := h.params p hp
  simp only [okQ, Bool.and_eq_true] at this
  exact this.1.1.1.1

theorem needNs_nodup {s : Sig} (hs : OkS s) (n : Nat) : (needNs s n).Nodup := hs.nodup.sublist (needNs_sub s n)

def allowB (s : Sig) (n : Nat) (m : Str) : Bool := decide (0 ≤ takesQ s m) && (match s[(takesQ s m).toNat]? with
  | some p => p.kind == 4 || openQ p (takesQ s m).toNat n
  | none => true)

def AllowsF (s : Sig) (n : Int) (m : Str) : Bool := goodC s n && okName m && allowB s n.toNat m && ((needNs s n.toNat).contains m || decide ((needNs s n.toNat).length < 8))

theorem needsF_snd (s : Sig) (n : Int) : (NeedsF s n).2 = goodC s n := by
  unfold NeedsF; split
  · rename_i h; exact h.symm
  · rename_i h; simpa using h

section

variable {X : Pk} {N np : Nat} {K : KP} {σ : State}

end

theorem goodC_ok {s : Sig} {n : Int} (h : goodC s n = true) : OkS s ∧ ∃ k : Nat, n = k ∧ k ≤ 8 ∧ takesC s k = true ∧ NeedsF s n = (sortS (needNs s k), true) := by
  have hh := h
  simp only [goodC, Bool.and_eq_true] at h
  have hr : 0 ≤ n ∧ n ≤ 8 := by have := h.1.2; simp [inR] at this; omega
  refine ⟨okSig_iff.1 h.1.1, n.toNat, by omega, by omega, h.2, by unfold NeedsF; rw [if_pos hh]⟩

def cmpT : Str → List Str → List Str
  | _, [] => []
  | a, b :: l => if b = a then cmpT a l else b :: cmpT b l

def compS : List Str → List Str
  | [] => []
  | a :: l => a :: cmpT a l

def WS (xs : List Str) : Prop := xs.Pairwise (fun a b => ltS b a = false)

def SS (xs : List Str) : Prop := xs.Pairwise (fun a b => ltS a b = true)

theorem cmpT_snoc : ∀ (l : List Str) (a b c : Str), (a :: l).getLast? = some c → cmpT a (l ++ [b]) = cmpT a l ++ (if b = c then [] else [b])
  | [], a, b, c, h => by
    simp at h; subst h
    simp [cmpT]
  | x :: l, a, b, c, h => by
    rw [List.getLast?_cons_cons] at h
    rw [List.cons_append]
    unfold cmpT
    by_cases hx : x = a
    · subst hx
      rw [if_pos rfl, if_pos rfl, cmpT_snoc l x b c h]
    · rw [if_neg hx, if_neg hx, cmpT_snoc l x b c h]; rfl

theorem compS_succ {xs : List Str} {n : Nat} {b c : Str} (hb : xs[n + 1]? = some b) (hc : xs[n]? = some c) : compS (xs.take (n + 1 + 1)) = compS (xs.take (n + 1)) ++ (if b = c then [] else [b]) := by
  rw [← take_snoc hb]
  have hlast : (xs.take (n + 1)).getLast? = some c := by rw [← take_snoc hc]; simp
  cases hz : xs.take (n + 1) with
  | nil => rw [hz] at hlast; simp at hlast
  | cons a l =>
    rw [hz] at hlast
    show a :: cmpT a (l ++ [b]) = a :: cmpT a l ++ _
    rw [cmpT_snoc l a b c hlast]; rfl

theorem compS_one {xs : List Str} (h : 1 ≤ xs.length) : compS (xs.take 1) = xs.take 1 := by
  cases xs with
  | nil => simp at h
  | cons a l => simp [compS, cmpT]

theorem cmpT_mem (x : Str) : ∀ (l : List Str) (a : Str), (x ∈ cmpT a l ∨ x = a) ↔ (x ∈ l ∨ x = a)
  | [], a => by simp [cmpT]
  | b :: l, a => by
    unfold cmpT
    by_cases hb : b = a
    · subst hb
      rw [if_pos rfl, cmpT_mem x l b]
      simp only [List.mem_cons]
      constructor
      · rintro (h | h)
        · exact .inl (.inr h)
        · exact .inr h
      · rintro ((h | h) | h)
        · exact .inr h
        · exact .inl h
        · exact .inr h
    · rw [if_neg hb]
      have ih := cmpT_mem x l b
      simp only [List.mem_cons]
      constructor
      · rintro ((h | h) | h)
        · exact .inl (.inl h)
        · rcases ih.1 (.inl h) with h1 | h1
          · exact .inl (.inr h1)
          · exact .inl (.inl h1)
        · exact .inr h
      · rintro ((h | h) | h)
        · exact .inl (.inl h)
        · rcases ih.2 (.inl h) with h1 | h1
          · exact .inl (.inr h1)
          · exact .inl (.inl h1)
        · exact .inr h

theorem compS_mem (x : Str) (xs : List Str) : x ∈ compS xs ↔ x ∈ xs := by
  cases xs with
  | nil => rfl
  | cons a l =>
    have := cmpT_mem x l a
    simp only [compS, List.mem_cons]
    rw [or_comm, this, or_comm]

theorem cmpT_strict : ∀ (l : List Str) (a : Str), WS (a :: l) → SS (a :: cmpT a l)
  | [], a, _ => by simp [SS, cmpT]
  | b :: l, a, h => by
    have h1 := List.pairwise_cons.1 h
    have h2 := List.pairwise_cons.1 h1.2
    unfold cmpT
    by_cases hb : b = a
    · subst hb
      rw [if_pos rfl]
      exact cmpT_strict l b h1.2
    · rw [if_neg hb]
      have ih := cmpT_strict l b h1.2
      have hab : ltS a b = true := ltS_total hb (h1.1 b (by simp))
      refine List.pairwise_cons.2 ⟨fun y hy => ?_, ih⟩
      rcases List.mem_cons.1 hy with rfl | hy
      · exact hab
      · exact ltS_trans hab ((List.pairwise_cons.1 ih).1 y hy)

theorem compS_strict {xs : List Str} (h : WS xs) : SS (compS xs) := by
  cases xs with
  | nil => exact List.Pairwise.nil
  | cons a l => exact cmpT_strict l a h

theorem compS_length (xs : List Str) : (compS xs).length ≤ xs.length := by
  have key : ∀ (l : List Str) (a : Str), (cmpT a l).length ≤ l.length := by
    intro l
    induction l with
    | nil => intro a; simp [cmpT]
    | cons b l ih =>
      intro a
      unfold cmpT
      split
      · have := ih a; simp only [List.length_cons]; omega
      · have := ih b; simp only [List.length_cons]; omega
  cases xs with
  | nil => simp [compS]
  | cons a l => have := key l a; simp only [compS, List.length_cons]; omega

theorem sinkR_perm (p : Str) : ∀ (ra acc : List Str), (sinkR ltS p ra acc).Perm (p :: (ra.reverse ++ acc))
  | [], acc => by simp [sinkR]
  | x :: ra, acc => by
    unfold sinkR
    split
    · refine (sinkR_perm p ra (x :: acc)).trans ?_
      simp
    · exact List.perm_middle

theorem sinkR_ws (p : Str) : ∀ (ra acc : List Str), WS (ra.reverse ++ acc) → (∀ y ∈ acc, ltS p y = true) → WS (sinkR ltS p ra acc)
  | [], acc, h, ha => by
    simp only [sinkR]
    refine List.pairwise_cons.2 ⟨fun y hy => ltS_asymm (ha y hy), by simpa [WS] using h⟩
  | x :: ra, acc, h, ha => by
    unfold sinkR
    split
    · rename_i hx
      refine sinkR_ws p ra (x :: acc) (by simpa using h) fun y hy => ?_
      rcases List.mem_cons.1 hy with rfl | hy
      · exact hx
      · exact ha y hy
    · rename_i hx
      have hx' : ltS p x = false := by simpa using hx
      have h0 := h
      unfold WS at h
      rw [List.pairwise_append] at h
      obtain ⟨hl, hr, hlr⟩ := h
      unfold WS
      rw [List.pairwise_append]
      refine ⟨hl, List.pairwise_cons.2 ⟨fun y hy => ltS_asymm (ha y hy), hr⟩, fun a hal b hb => ?_⟩
      rcases List.mem_cons.1 hb with rfl | hb
      · cases hpa : ltS b a with
        | false => rfl
        | true =>
          exfalso
          rw [List.reverse_cons, List.mem_append] at hal
          rcases hal with hal | hal
          · rw [List.reverse_cons, List.pairwise_append] at hl
            have hxa := hl.2.2 a hal x (by simp)
            by_cases hax : x = a
            · rw [hax, hpa] at hx'; cases hx'
            · have := ltS_total hax hxa
              rw [ltS_trans hpa this] at hx'; cases hx'
          · simp at hal; rw [hal, hx'] at hpa; cases hpa
      · exact hlr a hal b hb

theorem isortS_ws (xs : List Str) : WS (isortL ltS xs) ∧ (isortL ltS xs).Perm xs := by
  have key : ∀ (xs S : List Str), WS S → WS (xs.foldl (fun S x => insR ltS x S) S) ∧ (xs.foldl (fun S x => insR ltS x S) S).Perm (xs ++ S) := by
    intro xs
    induction xs with
    | nil => intro S h; exact ⟨h, List.Perm.refl _⟩
    | cons x xs ih =>
      intro S h
      have h1 : WS (insR ltS x S) := sinkR_ws x S.reverse [] (by simpa using h) (by simp)
      have h2 : (insR ltS x S).Perm (x :: S) := by simpa [insR] using sinkR_perm x S.reverse []
      obtain ⟨h3, h4⟩ := ih _ h1
      refine ⟨h3, h4.trans ?_⟩
      exact (List.Perm.append_left xs h2).trans (by simp [List.perm_middle])
  have := key xs [] List.Pairwise.nil
  rw [List.append_nil] at this
  exact this

theorem SS.nodup {xs : List Str} (h : SS xs) : xs.Nodup := List.Pairwise.imp (fun hab he => by rw [he, ltS_irrefl] at hab; cases hab) h

theorem SS.ext {a b : List Str} (ha : SS a) (hb : SS b) (h : ∀ x, x ∈ a ↔ x ∈ b) : a = b := by
  refine List.Perm.eq_of_pairwise (le := fun x y => ltS x y = true) ?_ ha hb ((List.perm_ext_iff_of_nodup ha.nodup hb.nodup).2 h)
  intro x y _ _ h1 h2
  rw [ltS_asymm h1] at h2; cases h2

/-- Names once, ascending. -/
def uniqS (xs : List Str) : List Str := compS (isortL ltS xs)

theorem uniqS_ss (xs : List Str) : SS (uniqS xs) := compS_strict (isortS_ws xs).1

theorem uniqS_mem (x : Str) (xs : List Str) : x ∈ uniqS xs ↔ x ∈ xs := by
  unfold uniqS
  rw [compS_mem, (isortS_ws xs).2.mem_iff]

theorem uniqS_length (xs : List Str) : (uniqS xs).length ≤ xs.length := by
  have := compS_length (isortL ltS xs)
  rw [isortL_length] at this
  exact this

theorem uniq_more {S : List Str} {n : Str} (hS : S.Nodup) : (uniqS (S ++ [n])).length = if n ∈ S then S.length else S.length + 1 := by
  split
  · rename_i h
    refine ((List.perm_ext_iff_of_nodup (uniqS_ss _).nodup hS).2 fun x => ?_).length_eq
    rw [uniqS_mem]
    simp only [List.mem_append, List.mem_singleton]
    constructor
    · rintro (h1 | rfl)
      · exact h1
      · exact h
    · exact .inl
  · rename_i h
    have : (uniqS (S ++ [n])).Perm (n :: S) := (List.perm_ext_iff_of_nodup (uniqS_ss _).nodup (List.nodup_cons.2 ⟨h, hS⟩)).2 fun x => by
      rw [uniqS_mem]
      simp only [List.mem_append, List.mem_cons, List.not_mem_nil, or_false]
      exact or_comm
    simpa using this.length_eq

theorem growS_ct (n : Nat) (hn : n ≤ 4194304) : ACalls pk 154 [.one nilSl, .one (.int .i64 n)] [] (fun r o => ∃ rows kc, r = .one (.os 0 0 0 kc) ∧ o = [some ⟨1, rows, true, false, false⟩] ∧ (n = 0 → rows = [] ∧ kc = 0)) := by
  have hw : IntKind.i64.wrap ((n : Int) - IntKind.i64.wrap (0 - 0)) = n := by rw [show IntKind.i64.wrap (0 - 0) = 0 from rfl, wrap64] <;> omega
  refine acalls_of_body Try.func154 rfl (by kernel_rfl) rfl ?_
  refine rn rfl ?_
  refine goal_cond rfl (fun h => ?_) (fun h => ?_) <;> (try simp only [gt_iff_lt, ge_iff_le, bne_iff_ne, ne_eq, bne_eq_false_iff_eq, beq_iff_eq, beq_eq_false_iff_ne, Bool.not_eq_true', Bool.not_eq_false', decide_eq_true_eq, decide_eq_false_iff_not, List.length_map] at h)
  · omega
  · refine rn rfl ?_
    refine goal_did rfl rfl (dA_capNil rfl rfl rfl rfl rfl) ?_
    refine rn rfl ?_
    rw [hw]
    refine goal_cond rfl (fun h2 => ?_) (fun h2 => ?_) <;> (try simp only [gt_iff_lt, ge_iff_le, bne_iff_ne, ne_eq, bne_eq_false_iff_eq, beq_iff_eq, beq_eq_false_iff_ne, Bool.not_eq_true', Bool.not_eq_false', decide_eq_true_eq, decide_eq_false_iff_not, List.length_map] at h2)
    · refine rn rfl ?_
      refine goal_did rfl rfl (dA_capNil rfl rfl rfl rfl rfl) ?_
      refine rn rfl ?_
      refine goal_did rfl rfl (dA_sliceNil rfl rfl rfl rfl rfl rfl rfl) ?_
      refine rn rfl ?_
      refine goal_did rfl rfl (dA_growMake n (List.replicate n (eS ([] : Str))) rfl rfl rfl (by omega) rfl rfl rfl rfl rfl rfl rfl rfl (by show n * 16 ≤ _; omega) (by omega) rfl) ?_
      refine rn rfl ?_
      refine goal_did rfl rfl (dA_sliceOwn 0 0 n 0 0 n rfl rfl rfl rfl rfl rfl rfl Bnd.none_ (Bnd.some_ rfl rfl) (.inl ⟨rfl, rfl⟩) (by omega) (by omega) (by omega) (by simp) rfl rfl rfl rfl) ?_
      refine rn rfl ?_
      exact fin_is [0] rfl ⟨_, _, rfl, rfl, fun h0 => by omega⟩
    · refine rn rfl ?_
      exact fin_adopt 4 0 1 [0] rfl ⟨_, _, rfl, rfl, fun _ => ⟨rfl, rfl⟩⟩

theorem concatS_ct (xss : List (List Str)) (hn : xss.length ≤ 1000) (hl : xss.flatten.length ≤ 4194304) :
    ACalls pk 124 [.one (.fs (xss.map fun xs => [.fs (xs.map eS)]))] [] (fun r o => r = .one (.os 0 0 xss.flatten.length xss.flatten.length) ∧ o = [ownS xss.flatten]) := by
  have hpre : ∀ i, (xss.take i).flatten.length ≤ xss.flatten.length := fun i => by
    conv => rhs; rw [← List.take_append_drop i xss, List.flatten_append, List.length_append]
    omega
  have hsucc : ∀ (i : Nat) (xs : List Str), xss[i]? = some xs → (xss.take (i + 1)).flatten = (xss.take i).flatten ++ xs := fun i xs h => by
    rw [← take_snoc' h, List.flatten_append]; simp
  refine acalls_of_body Try.func124 rfl (by kernel_rfl) rfl ?_
  refine rn rfl ?_
  refine goal_loop_keep (fun m σ => ∃ (n L q : Int) (i : Nat), n = i ∧ L = xss.length ∧ i ≤ xss.length ∧ m = xss.length - i ∧ q = ((xss.take i).flatten.length : Nat) ∧
      σ = ⟨[(11, .one (.int .i64 n)), (10, .one (.int .i64 L)), (9, .one (.fs (xss.map fun xs => [.fs (xs.map eS)]))), (3, .one (.int .i64 q)), (0, .one (.fs (xss.map fun xs => [.fs (xs.map eS)])))], [], []⟩) xss.length [11, 10, 9, 3, 0] [] rfl
    ⟨_, _, _, 0, rfl, by simp, by omega, by omega, rfl, rfl⟩ ?_
  rintro m σ ⟨n, L, q, i, rfl, rfl, hi, rfl, rfl, rfl⟩
  refine rn rfl ?_
  refine goal_cond rfl (fun h => ?_) (fun h => ?_) <;> (try simp only [gt_iff_lt, ge_iff_le, bne_iff_ne, ne_eq, bne_eq_false_iff_eq, beq_iff_eq, beq_eq_false_iff_ne, Bool.not_eq_true', Bool.not_eq_false', decide_eq_true_eq, decide_eq_false_iff_not, List.length_map] at h)
  · obtain ⟨xs, hxs⟩ := at_some (xs := xss) (i := i) (by omega)
    have h1 := hpre (i + 1)
    have h2 := hsucc i xs hxs
    rw [h2, List.length_append] at h1
    have hw : IntKind.i64.wrap (((xss.take i).flatten.length : Nat) + (xs.length : Int)) = (((xss.take i).flatten ++ xs).length : Nat) := by rw [List.length_append, wrap64] <;> omega
    refine rn rfl ?_
    refine goal_did rfl rfl (dA_index [.fs (xs.map eS)] rfl rfl rfl rfl rfl rfl rfl (by omega) (by simp; omega) (map_at (enc := fun xs : List Str => [C.fs (xs.map eS)]) (by simpa using hxs)) rfl) ?_
    refine rn rfl ?_
    refine goal_cond rfl (fun h0 => ?_) (fun _ => ?_)
    · simp only [List.length_map, decide_eq_true_eq] at h0; rw [hw] at h0; omega
    · refine rn rfl ?_
      refine round_keep (xss.length - (i + 1)) [11, 10, 9, 3, 0] [] (by omega) rfl ⟨_, _, _, i + 1, wrap64 (by omega) (by omega), rfl, by omega, rfl, ?_, rfl⟩
      rw [List.length_map, hw, h2]
  · rw [show i = xss.length by omega, List.take_length]
    refine rn rfl ?_
    refine round_ext ?_
    refine rn rfl ?_
    refine goal_step (step_callRaw rfl rfl rfl rfl rfl rfl (growS_ct xss.flatten.length hl)) ?_
    rintro σ2 ⟨r, o', ⟨rows0, kc0, rfl, rfl, hz⟩, hσ⟩
    obtain rfl := Option.some.inj hσ
    clear hσ
    refine rn rfl ?_
    refine goal_loop_keep (fun m σ => ∃ (n L : Int) (i l kc : Nat) (rows : List (List C)), n = i ∧ L = xss.length ∧ i ≤ xss.length ∧ m = xss.length - i ∧ l = (xss.take i).flatten.length ∧ ((rows = (xss.take i).flatten.map eS ∧ kc = l) ∨ (i = 0 ∧ rows = rows0 ∧ kc = kc0)) ∧
        σ = ⟨[(27, .one (.int .i64 n)), (26, .one (.int .i64 L)), (25, .one (.fs (xss.map fun xs => [.fs (xs.map eS)]))), (6, .one (.os 0 0 l kc))], [some ⟨1, rows, true, false, false⟩], []⟩) xss.length [27, 26, 25, 6] [0] rfl
      ⟨_, ((xss.map fun xs => [C.fs (xs.map eS)]).length : Int), 0, 0, kc0, rows0, rfl, by simp, by omega, by omega, rfl, .inr ⟨rfl, rfl, rfl⟩, rfl⟩ ?_
    rintro m σ ⟨n, L, i, l, kc, rows, rfl, rfl, hi, rfl, rfl, hrows, rfl⟩
    have hold : (xss.take i).flatten.map eS = rows.take (xss.take i).flatten.length := by
      rcases hrows with ⟨rfl, _⟩ | ⟨rfl, _, _⟩
      · exact (List.take_of_length_le (by rw [List.length_map]; exact Nat.le_refl _)).symm
      · simp
    have hle : (xss.take i).flatten.length ≤ rows.length := by
      have := congrArg List.length hold
      simp only [List.length_map, List.length_take] at this; omega
    refine rn rfl ?_
    refine goal_cond rfl (fun h => ?_) (fun h => ?_) <;> (try simp only [gt_iff_lt, ge_iff_le, bne_iff_ne, ne_eq, bne_eq_false_iff_eq, beq_iff_eq, beq_eq_false_iff_ne, Bool.not_eq_true', Bool.not_eq_false', decide_eq_true_eq, decide_eq_false_iff_not, List.length_map] at h)
    · obtain ⟨xs, hxs⟩ := at_some (xs := xss) (i := i) (by omega)
      have h1 := hpre (i + 1)
      have h2 := hsucc i xs hxs
      rw [h2, List.length_append] at h1
      refine rn rfl ?_
      refine goal_did rfl rfl (dA_index [.fs (xs.map eS)] rfl rfl rfl rfl rfl rfl rfl (by omega) (by simp; omega) (map_at (enc := fun xs : List Str => [C.fs (xs.map eS)]) (by simpa using hxs)) rfl) ?_
      refine rn rfl ?_
      refine goal_did rfl rfl (dA_append (old := (xss.take i).flatten.map eS) (rows := xs.map eS) (((xss.take i).flatten ++ xs).map eS) (((xss.take i).flatten ++ xs).length) true (Dst.own rfl rfl rfl rfl rfl hle hold) (Src.fs rfl) rfl rfl rfl rfl rfl rfl rfl rfl (rows_len eS_len _) (rows_len eS_len _) (by simp only [List.length_map]; show _ * 16 ≤ _; omega) (by simp only [List.length_map]; omega) (by rw [List.map_append]) (by rw [List.length_map]) (fun _ => noOwnR_map _ eS_noOwn _)) ?_
      refine rn rfl ?_
      refine round_keep (xss.length - (i + 1)) [27, 26, 25, 6] [1] (by omega) rfl ⟨_, _, i + 1, ((xss.take i).flatten ++ xs).length, ((xss.take i).flatten ++ xs).length, ((xss.take i).flatten ++ xs).map eS, wrap64 (by omega) (by omega), rfl, by omega, rfl, by rw [h2], .inl ⟨by rw [h2], rfl⟩, rfl⟩
    · rw [show i = xss.length by omega, List.take_length] at hrows hold ⊢
      refine rn rfl ?_
      refine round_ext ?_
      have hfin : rows = xss.flatten.map eS ∧ kc = xss.flatten.length := by
        rcases hrows with hr | ⟨h0, hr, hk⟩
        · exact hr
        · have hx : xss = [] := List.eq_nil_of_length_eq_zero (by omega)
          subst hx
          obtain ⟨q1, q2⟩ := hz rfl
          exact ⟨by rw [hr, q1]; rfl, by rw [hk, q2]; rfl⟩
      obtain ⟨rfl, rfl⟩ := hfin
      exact rn rfl (fin_is [0] rfl ⟨rfl, rfl⟩)

theorem clipSd_ct (xs : List Str) (hl : xs.length ≤ 1048576) : ACalls pk 121 [.one (.fs (xs.map eS))] [] (fun r o => r = .one (.fs (xs.map eS)) ∧ o = []) := by
  refine acalls_of_body Try.func121 rfl (by kernel_rfl) rfl ?_
  refine rn rfl ?_
  refine goal_did rfl rfl (dA_slice3 0 xs.length xs.length (xs.map eS) rfl rfl rfl rfl rfl Bnd.none_ (Bnd.some_ rfl (by simp)) (by simp) (Bnd.some_ rfl (by simp)) (rows_len eS_len _) (by omega) (by omega) (by simp) rfl (by simp [List.take_of_length_le])) ?_
  exact rn rfl (fin_is [] rfl ⟨rfl, rfl⟩)

theorem compactS_ct (xs : List Str) (kc : Nat) (hk : xs.length ≤ kc) (hl : xs.length ≤ 1000) (hkc : kc ≤ 1048576) :
    ACalls pk 125 [.one (.os 0 0 xs.length kc)] [ownS xs] (fun r o => r = .one (.os 0 0 (compS xs).length kc) ∧ o = [ownS (compS xs ++ List.replicate (xs.length - (compS xs).length) [])]) := by
  refine acalls_of_body Try.func125 rfl (by kernel_rfl) rfl ?_
  refine rn rfl ?_
  refine goal_cond rfl (fun h => ?_) (fun h => ?_) <;> (try simp only [gt_iff_lt, ge_iff_le, bne_iff_ne, ne_eq, bne_eq_false_iff_eq, beq_iff_eq, beq_eq_false_iff_ne, Bool.not_eq_true', Bool.not_eq_false', decide_eq_true_eq, decide_eq_false_iff_not, List.length_map] at h)
  · have he : compS xs = xs := by
      cases xs with
      | nil => rfl
      | cons a l =>
        cases l with
        | nil => rfl
        | cons b l => simp only [List.length_cons] at h; omega
    exact rn rfl (fin_is [] rfl ⟨by rw [he], by rw [he, Nat.sub_self]; simp; rfl⟩)
  · refine rn rfl ?_
    refine goal_loop_keep (fun m σ => ∃ (q : Int) (i : Nat), q = i ∧ 1 ≤ i ∧ i ≤ xs.length ∧ m = xs.length - i ∧ compS (xs.take i) = xs.take i ∧
        σ = ⟨[(3, .one (.int .i64 q)), (0, .one (.os 0 0 xs.length kc))], [ownS xs], []⟩) (xs.length - 1) [3, 0] [] rfl
      ⟨_, 1, rfl, by omega, by omega, by omega, compS_one (by omega), rfl⟩ ?_
    rintro m σ ⟨q, i, rfl, h1, hi, rfl, hpre, rfl⟩
    refine rn rfl ?_
    refine goal_cond rfl (fun h2 => ?_) (fun h2 => ?_) <;> (try simp only [gt_iff_lt, ge_iff_le, bne_iff_ne, ne_eq, bne_eq_false_iff_eq, beq_iff_eq, beq_eq_false_iff_ne, Bool.not_eq_true', Bool.not_eq_false', decide_eq_true_eq, decide_eq_false_iff_not, List.length_map] at h2)
    · obtain ⟨k, rfl⟩ : ∃ k, i = k + 1 := ⟨i - 1, by omega⟩
      obtain ⟨b, hb⟩ := at_some (xs := xs) (i := k + 1) (by omega)
      obtain ⟨c, hc⟩ := at_some (xs := xs) (i := k) (by omega)
      have hst := compS_succ hb hc
      rw [hpre] at hst
      have hw : IntKind.i64.wrap (((k + 1 : Nat) : Int) - 1) = (k : Int) := by rw [wrap64 (by omega) (by omega)]; omega
      refine rn rfl ?_
      refine goal_draw' [0] 10 rfl ?_
      refine drn [0, 1, 4, 5, 6] (by kernel_rfl) (by kernel_rfl) rfl rfl ?_
      refine AH_did 2 rfl (by kernel_rfl) (by kernel_rfl) (by kernel_rfl) rfl rfl (dA_indexOwn rfl rfl rfl rfl rfl rfl rfl rfl rfl (by omega) (by (try simp); omega)) ?_
      refine AH_did 3 rfl (by kernel_rfl) (by kernel_rfl) (by kernel_rfl) rfl rfl (dA_loadEl (eS b) rfl rfl rfl rfl (map_at (by simpa using hb)) rfl rfl rfl) ?_
      refine AH_did 7 rfl (by kernel_rfl) (by kernel_rfl) (by kernel_rfl) rfl rfl (dA_indexOwn rfl rfl rfl rfl rfl rfl rfl rfl rfl (by rw [hw]; omega) (by rw [hw]; (try simp); omega)) ?_
      refine AH_did 8 rfl (by kernel_rfl) (by kernel_rfl) (by kernel_rfl) rfl rfl (dA_loadEl (eS c) rfl rfl rfl rfl (map_at (by rw [hw]; simpa using hc)) rfl rfl rfl) ?_
      refine drn [9] (by kernel_rfl) (by kernel_rfl) rfl rfl ?_
      refine AH_end (by kernel_rfl) ?_
      refine rn rfl ?_
      refine goal_cond rfl (fun h3 => ?_) (fun h3 => ?_) <;> simp only [beq_iff_eq, beq_eq_false_iff_ne, ne_eq, decide_eq_true_eq, decide_eq_false_iff_not] at h3
      · subst h3
        refine rn rfl ?_
        refine goal_did rfl rfl (dA_sliceOwn (k + 1) xs.length kc (k + 1) (xs.length - (k + 1)) (kc - (k + 1)) rfl rfl rfl rfl rfl rfl rfl (Bnd.some_ rfl rfl) Bnd.none_ (.inl ⟨rfl, rfl⟩) (by omega) (by omega) (Nat.le_refl _) (by simp) rfl (by simp) (by omega) rfl) ?_
        refine rn rfl ?_
        refine goal_loop_keep (fun m σ => ∃ (q j : Int) (d p : Nat) (ys : List Str), q = d ∧ j = p ∧ 1 ≤ d ∧ k + 1 + d ≤ xs.length ∧ m = xs.length - (k + 1 + d) ∧ p ≤ k + d ∧ ys.length = xs.length ∧ ys.take p = compS (xs.take (k + 1 + d)) ∧ ys.drop (k + d) = xs.drop (k + d) ∧
            σ = ⟨[(5, .one (.int .i64 q)), (4, .one (.os 0 (k + 1) (xs.length - (k + 1)) (kc - (k + 1)))), (3, .one (.int .i64 j)), (0, .one (.os 0 0 xs.length kc))], [ownS ys], []⟩) (xs.length - (k + 1 + 1)) [5, 4, 3, 0] [] rfl
          ⟨_, _, 1, k + 1, xs, rfl, rfl, by omega, by omega, by omega, by omega, rfl, by rw [hst]; simp, rfl, rfl⟩ ?_
        rintro m σ ⟨q, j, d, p, ys, rfl, rfl, hd, hdl, rfl, hp, hyl, hyt, hyd, rfl⟩
        refine rn rfl ?_
        refine goal_cond rfl (fun h4 => ?_) (fun h4 => ?_) <;> (try simp only [gt_iff_lt, ge_iff_le, bne_iff_ne, ne_eq, bne_eq_false_iff_eq, beq_iff_eq, beq_eq_false_iff_ne, Bool.not_eq_true', Bool.not_eq_false', decide_eq_true_eq, decide_eq_false_iff_not, List.length_map] at h4)
        · obtain ⟨x, hx⟩ := at_some (xs := xs) (i := k + d + 1) (by omega)
          obtain ⟨z, hz⟩ := at_some (xs := xs) (i := k + d) (by omega)
          obtain ⟨old, hold⟩ := at_some (xs := ys) (i := p) (by omega)
          have hyx : ys[k + d + 1]? = some x := by
            have := congrArg (fun l => l[1]?) hyd
            simp only [List.getElem?_drop] at this
            rw [this]; exact hx
          have hyz : ys[k + d]? = some z := by
            have := congrArg (fun l => l[0]?) hyd
            simp only [List.getElem?_drop, Nat.add_zero] at this
            rw [this]; exact hz
          have hst2 := compS_succ hx hz
          have hw2 : IntKind.i64.wrap ((d : Int) - 1) = ((d - 1 : Nat) : Int) := by rw [wrap64 (by omega) (by omega)]; omega
          have e1 : k + 1 + d = k + d + 1 := by omega
          have e2 : k + 1 + (d - 1) = k + d := by omega
          rw [e1] at hyt
          refine rn rfl ?_
          refine goal_draw' [0] 10 rfl ?_
          refine drn [0, 1, 4, 5, 6] (by kernel_rfl) (by kernel_rfl) rfl rfl ?_
          refine AH_did 2 rfl (by kernel_rfl) (by kernel_rfl) (by kernel_rfl) rfl rfl (dA_indexOwn rfl rfl rfl rfl rfl rfl rfl rfl rfl (by omega) (by (try simp); omega)) ?_
          refine AH_did 3 rfl (by kernel_rfl) (by kernel_rfl) (by kernel_rfl) rfl rfl (dA_loadEl (eS x) rfl rfl rfl rfl (map_at (by simpa [e1] using hyx)) rfl rfl rfl) ?_
          refine AH_did 7 rfl (by kernel_rfl) (by kernel_rfl) (by kernel_rfl) rfl rfl (dA_indexOwn rfl rfl rfl rfl rfl rfl rfl rfl rfl (by rw [hw2]; omega) (by rw [hw2]; (try simp); omega)) ?_
          refine AH_did 8 rfl (by kernel_rfl) (by kernel_rfl) (by kernel_rfl) rfl rfl (dA_loadEl (eS z) rfl rfl rfl rfl (map_at (by rw [hw2]; simpa [e2] using hyz)) rfl rfl rfl) ?_
          refine drn [9] (by kernel_rfl) (by kernel_rfl) rfl rfl ?_
          refine AH_end (by kernel_rfl) ?_
          refine rn rfl ?_
          refine goal_cond rfl (fun h3 => ?_) (fun h3 => ?_) <;> simp only [bne_iff_ne, ne_eq, bne_eq_false_iff_eq, Bool.not_eq_true', Bool.not_eq_false', beq_iff_eq, beq_eq_false_iff_ne, decide_eq_true_eq, decide_eq_false_iff_not] at h3
          · rw [if_neg h3] at hst2
            refine rn rfl ?_
            refine goal_did rfl rfl (dA_indexOwn rfl rfl rfl rfl rfl rfl rfl rfl rfl (by omega) (by (try simp); omega)) ?_
            refine goal_did rfl rfl (dA_loadEl (eS x) rfl rfl rfl rfl (map_at (by simpa [e1] using hyx)) rfl rfl rfl) ?_
            refine goal_did rfl rfl (dA_indexOwn rfl rfl rfl rfl rfl rfl rfl rfl rfl (by omega) (by (try simp); omega)) ?_
            refine goal_did rfl rfl (dA_storeEl (eS old) ((ys.set p x).map eS) true rfl rfl rfl rfl rfl (map_at (by simpa using hold)) rfl rfl (by simp [eS]) (by rw [map_set]; simp [patch, eS]) (fun _ => noOwnR_map _ eS_noOwn _)) ?_
            refine rn rfl ?_
            refine round_keep (xs.length - (k + 1 + (d + 1))) [5, 4, 3, 0] [] (by omega) rfl ⟨_, _, d + 1, p + 1, ys.set p x, wrap64 (by omega) (by omega), wrap64 (by omega) (by omega), by omega, by omega, rfl, by omega, by simp [hyl], ?_, ?_, rfl⟩
            · rw [show k + 1 + (d + 1) = k + d + 1 + 1 by omega, hst2, ← hyt]
              have hlt := lt_of_some hold
              rw [← take_snoc (x := x) (by rw [List.getElem?_set_self hlt]), List.take_set_of_le (by omega)]
            · rw [List.drop_set_of_lt (by omega)]
              have := congrArg (List.drop 1) hyd
              rwa [List.drop_drop, List.drop_drop] at this
          · rw [if_pos h3, List.append_nil] at hst2
            refine rn rfl ?_
            refine round_keep (xs.length - (k + 1 + (d + 1))) [5, 4, 3, 0] [] (by omega) rfl ⟨_, _, d + 1, p, ys, wrap64 (by omega) (by omega), rfl, by omega, by omega, rfl, by omega, hyl, ?_, ?_, rfl⟩
            · rw [show k + 1 + (d + 1) = k + d + 1 + 1 by omega, hst2, hyt]
            · have := congrArg (List.drop 1) hyd
              rwa [List.drop_drop, List.drop_drop] at this
        · refine rn rfl (round_ext ?_)
          rw [show xs.take (k + 1 + d) = xs from List.take_of_length_le (by omega)] at hyt
          have hpl : (compS xs).length = p := by rw [← hyt]; simp; omega
          refine rn rfl ?_
          refine goal_did rfl rfl (dA_sliceOwn p xs.length kc p (xs.length - p) (kc - p) rfl rfl rfl rfl rfl rfl rfl (Bnd.some_ rfl rfl) Bnd.none_ (.inl ⟨rfl, rfl⟩) (by omega) (by omega) (Nat.le_refl _) (by simp [hyl]) rfl (by simp) (by omega) rfl) ?_
          refine goal_did rfl rfl (dA_clear ((compS xs ++ List.replicate (xs.length - p) []).map eS) true rfl rfl rfl rfl rfl rfl rfl rfl rfl rfl (by simp [hyl]; omega) ?_ (fun _ => noOwnR_map _ eS_noOwn _) rfl) ?_
          · show _ = patch (ys.map eS) p (List.replicate (xs.length - p) [C.str []])
            have e1 : List.replicate (xs.length - p) [C.str []] = (List.replicate (xs.length - p) ([] : Str)).map eS := by rw [List.map_replicate]; rfl
            have e2 : ∀ (l m : List Str) (q : Nat), patch (l.map eS) q (m.map eS) = (patch l q m).map eS := by intro l m q; simp [patch]
            rw [e1, e2]
            congr 1
            unfold patch
            rw [hyt, List.drop_eq_nil_of_le (by simp; omega), List.append_nil]
          refine rn rfl ?_
          refine goal_did rfl rfl (dA_sliceOwn 0 p kc 0 p kc rfl rfl rfl rfl rfl rfl rfl Bnd.none_ (Bnd.some_ rfl rfl) (.inl ⟨rfl, rfl⟩) (by omega) (by omega) (Nat.le_refl _) (by simp [hpl]) rfl rfl rfl rfl) ?_
          rw [hpl]
          exact rn rfl (fin_is [] rfl ⟨rfl, rfl⟩)
      · rw [if_neg h3] at hst
        refine rn rfl ?_
        refine round_keep (xs.length - (k + 1 + 1)) [3, 0] [] (by omega) rfl ⟨_, k + 1 + 1, wrap64 (by omega) (by omega), by omega, by omega, rfl, by rw [hst, take_snoc hb], rfl⟩
    · refine rn rfl (round_ext ?_)
      have he : compS xs = xs := by rw [List.take_of_length_le (by omega)] at hpre; exact hpre
      exact rn rfl (fin_is [] rfl ⟨by rw [he], by rw [he, Nat.sub_self]; simp; rfl⟩)

theorem iunion_ct (a b : List Str) (hl : a.length + b.length ≤ 12) : ACalls pk 74 [.one (.fs (a.map eS)), .one (.fs (b.map eS))] [] (fun r o => r = .one (.fs ((uniqS (a ++ b)).map eS)) ∧ o = []) := by
  have hc := concatS_ct [a, b] (by simp) (by simp; omega)
  have hfl : [a, b].flatten = a ++ b := by simp
  rw [hfl] at hc
  have hz : (a ++ b).length ≤ 12 := by simp; omega
  have hu : uniqS (a ++ b) = compS (isortL ltS (a ++ b)) := rfl
  rw [hu]
  generalize a ++ b = zs at *
  have hil := isortL_length ltS zs
  have hcl := compS_length (isortL ltS zs)
  refine acalls_of_body Try.func74 rfl (by kernel_rfl) rfl ?_
  refine rn rfl ?_
  refine goal_step (step_call [] rfl rfl rfl rfl rfl rfl (hc)) ?_
  rintro σ2 ⟨r, o', ⟨rfl, rfl⟩, hσ⟩
  obtain rfl := Option.some.inj hσ
  clear hσ
  refine rn rfl ?_
  refine rn rfl ?_
  refine goal_step (step_call [1] rfl rfl rfl rfl rfl rfl (sortSmallS_ct zs zs.length (by omega))) ?_
  rintro σ2 ⟨r, o', ⟨rfl, rfl⟩, hσ⟩
  obtain rfl := Option.some.inj hσ
  clear hσ
  refine rn rfl ?_
  generalize isortL ltS zs = ys at *
  refine goal_step (step_callE [1] rfl rfl rfl rfl rfl rfl (congrArg (fun x => [T.one (.os 0 0 x zs.length)]) hil.symm) (compactS_ct ys zs.length (by omega) (by omega) (by omega))) ?_
  rintro σ2 ⟨r, o', ⟨rfl, rfl⟩, hσ⟩
  obtain rfl := Option.some.inj hσ
  clear hσ
  refine rn rfl ?_
  have hA : T.one (C.fs (List.take (compS ys).length (List.drop 0 ((compS ys ++ List.replicate (ys.length - (compS ys).length) []).map eS)))) = T.one (.fs ((compS ys).map eS)) := by
    rw [List.drop_zero, List.map_append, List.take_append_of_le_length (by simp), List.take_of_length_le (by simp)]
  refine goal_step (step_callE [] rfl rfl rfl rfl rfl rfl (cons_eq hA rfl) (clipSd_ct (compS ys) (by omega))) ?_
  rintro σ2 ⟨r, o', ⟨rfl, rfl⟩, hσ⟩
  obtain rfl := Option.some.inj hσ
  clear hσ
  refine rn rfl ?_
  exact rn rfl (fin_is [] rfl ⟨rfl, rfl⟩)

theorem allowB_at {s : Sig} {n a : Nat} {m : Str} {p : Param} (ha : takesQ s m = (a : Int)) (hp : s[a]? = some p) : allowB s n m = (p.kind == 4 || openQ p a n) := by
  unfold allowB
  rw [ha]
  simp [hp]

theorem allowB_neg {s : Sig} {n : Nat} {m : Str} (ha : takesQ s m < 0) : allowB s n m = false := by
  unfold allowB
  have : ¬ 0 ≤ takesQ s m := by omega
  simp [this]

theorem iallows_ct (s : Sig) (n : Nat) (m : Str) (hs : OkS s) (hn : n ≤ 8) (hm : m.length ≤ 9223372036854775807) :
    ACalls pk 73 [.agg (eG s), .one (.int .i64 n), .one (.str m)] [] (fun r o => r = .one (.bool (okName m && allowB s n m)) ∧ o = []) := by
  have hl := hs.len
  have hP := placesQ_le s
  refine acalls_of_body Try.func73 rfl (by kernel_rfl) rfl ?_
  refine rn rfl ?_
  refine goal_step (step_call [] rfl rfl rfl rfl rfl rfl (itakes_ct s m (by omega))) ?_
  rintro σ2 ⟨r, o', ⟨rfl, rfl⟩, hσ⟩
  obtain rfl := Option.some.inj hσ
  clear hσ
  refine rn rfl ?_
  by_cases h0 : takesQ s m < 0
  · refine goal_guard rfl rfl rfl (fun _ => ?_) (fun h1 => by simp at h1 <;> omega)
    refine rn rfl (fin_is [] rfl ⟨?_, rfl⟩)
    rw [allowB_neg h0, Bool.and_false]
  refine goal_guard rfl rfl rfl (fun h1 => by simp at h1 <;> omega) (fun _ => ?_)
  refine rn rfl ?_
  refine goal_step (step_call [] rfl rfl rfl rfl rfl rfl (isName_ct m hm)) ?_
  rintro σ2 ⟨r, o', ⟨rfl, rfl⟩, hσ⟩
  obtain rfl := Option.some.inj hσ
  clear hσ
  refine rn rfl ?_
  refine goal_cond rfl (fun h1 => ?_) (fun h1 => ?_) <;> simp only [Bool.not_eq_true', Bool.not_eq_false'] at h1
  · refine rn rfl (fin_is [] rfl ⟨?_, rfl⟩)
    simp [h1]
  obtain ⟨p, hp, hlt, hk⟩ := takesQ_some h0
  obtain ⟨a, ha⟩ : ∃ a : Nat, takesQ s m = a := ⟨(takesQ s m).toNat, by omega⟩
  have hb := allowB_at (n := n) ha (by rw [ha] at hp; simpa using hp)
  rw [ha] at hp hlt
  rw [hb, h1, ha]
  simp only [Int.toNat_natCast] at hp
  have hw : IntKind.i64.wrap ((a : Int) + 1) = ((a + 1 : Nat) : Int) := by rw [wrap64 (by omega) (by omega)]; omega
  have hkk : p.kind = 1 ∨ p.kind = 3 ∨ p.kind = 4 := by
    rcases hk with ⟨h2, _⟩ | h2
    · rw [named_kind] at h2; omega
    · omega
  refine rn rfl ?_
  refine goal_did rfl rfl (dA_slice 0 (a + 1) ((s.take (a + 1)).map eQ) rfl rfl rfl rfl rfl Bnd.none_ (Bnd.some_ rfl hw) (rows_len eQ_len _) (by omega) (by simp; omega) rfl (by simp)) ?_
  refine rn rfl ?_
  refine goal_loop_keep (fun mm σ => ∃ (q L pc : Int) (i : Nat), q = i ∧ L = (a + 1 : Nat) ∧ pc = ((min i (placesQ s) : Nat) : Int) ∧ i ≤ a + 1 ∧ mm = a + 1 - i ∧ (i = a + 1 → ¬ (p.kind = 1 ∧ a < n)) ∧
      σ = ⟨[(27, .one (.int .i64 q)), (26, .one (.int .i64 L)), (25, .one (.fs ((s.take (a + 1)).map eQ))), (8, .one (.int .i64 pc)), (7, .one (.int .i64 a)), (1, .one (.int .i64 n))], [], []⟩) (a + 1) [27, 26, 25, 8, 7, 1] [] rfl
    ⟨_, _, _, 0, rfl, ?_, ?_, by omega, by omega, fun h2 => by omega, rfl⟩ ?_
  · simp; omega
  · simp
  rintro mm σ ⟨q, L, pc, i, rfl, rfl, rfl, hi, rfl, hno, rfl⟩
  refine rn rfl ?_
  refine goal_cond rfl (fun h2 => ?_) (fun h2 => ?_) <;> (try simp only [gt_iff_lt, ge_iff_le, bne_iff_ne, ne_eq, bne_eq_false_iff_eq, beq_iff_eq, beq_eq_false_iff_ne, Bool.not_eq_true', Bool.not_eq_false', decide_eq_true_eq, decide_eq_false_iff_not, List.length_map] at h2)
  · obtain ⟨x, hx⟩ := at_some (xs := s) (i := i) (by omega)
    have hxt : (s.take (a + 1))[i]? = some x := by rw [List.getElem?_take, if_pos (by omega)]; exact hx
    have hpi := hs.placed_iff hx
    refine rn rfl ?_
    refine goal_did rfl rfl (dA_index (eQ x) rfl rfl rfl rfl rfl rfl rfl (by omega) (by simp; omega) (map_at (by simpa using hxt)) rfl) ?_
    refine rt 8 rfl ?_
    refine goal_cutR (fun σ' => σ' = ⟨[(27, .one (.int .i64 i)), (26, .one (.int .i64 (a + 1 : Nat))), (25, .one (.fs ((s.take (a + 1)).map eQ))), (10, .one (.op 0 0 0)), (9, .one (.int .i64 i)), (8, .one (.int .i64 ((min (i + 1) (placesQ s) : Nat) : Int))), (7, .one (.int .i64 a)), (1, .one (.int .i64 n))], [some ⟨4, [eQ x], false, false, true⟩], []⟩) ?_ ?_
    · refine rn rfl ?_
      refine goal_step (step_call [] rfl rfl rfl rfl rfl rfl (iplaced_ct x)) ?_
      rintro σ2 ⟨r, o', ⟨rfl, rfl⟩, hσ⟩
      obtain rfl := Option.some.inj hσ
      clear hσ
      refine rn rfl ?_
      refine goal_cond rfl (fun h3 => ?_) (fun h3 => ?_) <;> (try simp only [gt_iff_lt, ge_iff_le, bne_iff_ne, ne_eq, bne_eq_false_iff_eq, beq_iff_eq, beq_eq_false_iff_ne, Bool.not_eq_true', Bool.not_eq_false', decide_eq_true_eq, decide_eq_false_iff_not, List.length_map] at h3)
      · have hip := hpi.1 h3
        have e : IntKind.i64.wrap (((min i (placesQ s) : Nat) : Int) + 1) = ((min (i + 1) (placesQ s) : Nat) : Int) := by rw [wrap64 (by omega) (by omega)]; omega
        rw [← e]
        refine rn rfl ?_
        exact cut_nrm [27, 26, 25, 10, 9, 8, 7, 1] [0] rfl rfl
      · have hip : ¬ i < placesQ s := fun h4 => by rw [hpi.2 h4] at h3; cases h3
        have e : min (i + 1) (placesQ s) = min i (placesQ s) := by omega
        rw [e]
        refine rn rfl ?_
        exact cut_nrm [27, 26, 25, 10, 9, 8, 7, 1] [0] rfl rfl
    rintro _ rfl
    refine rn rfl ?_
    refine goal_guard rfl rfl rfl (fun h3 => ?_) (fun h3 => ?_) <;> (try simp only [gt_iff_lt, ge_iff_le, bne_iff_ne, ne_eq, bne_eq_false_iff_eq, beq_iff_eq, beq_eq_false_iff_ne, Bool.not_eq_true', Bool.not_eq_false', decide_eq_true_eq, decide_eq_false_iff_not, List.length_map] at h3)
    · have hia : i = a := by omega
      subst hia
      rw [hx] at hp
      cases hp
      refine rn rfl ?_
      refine goal_guard rfl rfl rfl (fun h4 => ?_) (fun h4 => ?_) <;> (try simp only [gt_iff_lt, ge_iff_le, bne_iff_ne, ne_eq, bne_eq_false_iff_eq, beq_iff_eq, beq_eq_false_iff_ne, Bool.not_eq_true', Bool.not_eq_false', decide_eq_true_eq, decide_eq_false_iff_not, List.length_map] at h4)
      · have hip := hpi.1 (placed_kind.2 (.inr h4))
        refine rn rfl ?_
        refine goal_cond rfl (fun h5 => ?_) (fun h5 => ?_) <;> (try simp only [gt_iff_lt, ge_iff_le, bne_iff_ne, ne_eq, bne_eq_false_iff_eq, beq_iff_eq, beq_eq_false_iff_ne, Bool.not_eq_true', Bool.not_eq_false', decide_eq_true_eq, decide_eq_false_iff_not, List.length_map] at h5)
        · refine rn rfl (round_ret (fin_is [] rfl ⟨?_, rfl⟩))
          have h6 : openQ p i n = false := by
            cases ho : openQ p i n with
            | false => rfl
            | true => rw [open_kind] at ho; omega
          simp [h6, h4]
        · refine rn rfl ?_
          refine round_keep (i + 1 - (i + 1)) [27, 26, 25, 8, 7, 1] [] (by omega) rfl ⟨_, _, _, i + 1, wrap64 (by omega) (by omega), rfl, rfl, by omega, rfl, fun _ => by omega, rfl⟩
      · refine rn rfl ?_
        refine round_keep (i + 1 - (i + 1)) [27, 26, 25, 8, 7, 1] [] (by omega) rfl ⟨_, _, _, i + 1, wrap64 (by omega) (by omega), rfl, rfl, by omega, rfl, fun _ h5 => h4 h5.1, rfl⟩
    · refine rn rfl ?_
      refine round_keep (a + 1 - (i + 1)) [27, 26, 25, 8, 7, 1] [] (by omega) rfl ⟨_, _, _, i + 1, wrap64 (by omega) (by omega), rfl, rfl, by omega, rfl, fun h5 => by omega, rfl⟩
  · refine rn rfl (round_ext ?_)
    have := hno (by omega)
    refine rn rfl (fin_is [] rfl ⟨?_, rfl⟩)
    rcases hkk with h3 | h3 | h3
    · have : openQ p a n = true := open_kind.2 (.inr ⟨h3, by omega⟩)
      simp [this]
    · have : openQ p a n = true := open_kind.2 (.inl h3)
      simp [this]
    · simp [h3]

theorem sallows_ct (s : Sig) (n : Nat) (m : Str) (hl : s.length ≤ 1048576) (hn : n ≤ 8) : ACalls pk 71 [.agg (eG s), .one (.int .i64 n), .one (.str m)] [] (fun r o => r = .one (.bool (allowB s n m)) ∧ o = []) := by
  refine acalls_of_body Try.func71 rfl (by kernel_rfl) rfl ?_
  refine rn rfl ?_
  refine goal_step (step_call [] rfl rfl rfl rfl rfl rfl (stakes_ct s m (by omega))) ?_
  rintro σ2 ⟨r, o', ⟨rfl, rfl⟩, hσ⟩
  obtain rfl := Option.some.inj hσ
  clear hσ
  refine rn rfl ?_
  by_cases h0 : takesQ s m < 0
  · refine goal_guard rfl rfl rfl (fun h1 => by simp at h1 <;> omega) (fun _ => ?_)
    refine rn rfl (fin_is [] rfl ⟨?_, rfl⟩)
    rw [allowB_neg h0]
  obtain ⟨p, hp, hlt, hk⟩ := takesQ_some h0
  obtain ⟨a, ha⟩ : ∃ a : Nat, takesQ s m = a := ⟨(takesQ s m).toNat, by omega⟩
  rw [allowB_at (n := n) ha (by rw [ha] at hp; simpa using hp)]
  rw [ha] at hp hlt ⊢
  simp only [Int.toNat_natCast] at hp
  refine goal_guard rfl rfl rfl (fun _ => ?_) (fun h1 => by simp at h1 <;> omega)
  refine rn rfl ?_
  refine goal_did rfl rfl (dA_index (eQ p) rfl rfl rfl rfl rfl rfl rfl (by omega) (by (try simp); omega) (map_at (by simpa using hp)) rfl) ?_
  refine rn rfl ?_
  refine goal_guard rfl rfl rfl (fun h1 => ?_) (fun h1 => ?_) <;> (try simp only [gt_iff_lt, ge_iff_le, bne_iff_ne, ne_eq, bne_eq_false_iff_eq, beq_iff_eq, beq_eq_false_iff_ne, Bool.not_eq_true', Bool.not_eq_false', decide_eq_true_eq, decide_eq_false_iff_not, List.length_map] at h1)
  · refine rn rfl (fin_is [] rfl ⟨?_, rfl⟩)
    simp [h1]
  · refine rn rfl ?_
    refine goal_did rfl rfl (dA_index (eQ p) rfl rfl rfl rfl rfl rfl rfl (by omega) (by (try simp); omega) (map_at (by simpa using hp)) rfl) ?_
    refine rn rfl ?_
    refine goal_step (step_call [] rfl rfl rfl rfl rfl rfl (open_ct p a n)) ?_
    rintro σ2 ⟨r, o', ⟨rfl, rfl⟩, hσ⟩
    obtain rfl := Option.some.inj hσ
    clear hσ
    refine rn rfl ?_
    refine rn rfl (fin_is [] rfl ⟨?_, rfl⟩)
    simp [h1]

theorem shasText_ct (xs : List Str) (n : Str) (hb : xs.length ≤ 9223372036854775807) :
    ACalls pk 72 [.one (.fs (xs.map eS)), .one (.str n)] [] (fun r o => r = .one (.bool (decide (n ∈ xs))) ∧ o = []) := by
  refine acalls_of_body Try.func72 rfl (by kernel_rfl) rfl ?_
  refine rn rfl ?_
  refine goal_loop_keep (fun m σ => ∃ (q : Int) (i : Nat), q = i ∧ i ≤ xs.length ∧ m = xs.length - i ∧ n ∉ xs.take i ∧
      σ = ⟨[(5, .one (.int .i64 q)), (1, .one (.str n)), (0, .one (.fs (xs.map eS)))], [], []⟩) xs.length [5, 1, 0] [] rfl
    ⟨_, 0, rfl, by omega, by omega, by simp, rfl⟩ ?_
  rintro m σ ⟨q, i, rfl, hi, rfl, hidx, rfl⟩
  refine rn rfl ?_
  refine goal_cond rfl (fun h => ?_) (fun h => ?_) <;> (try simp only [gt_iff_lt, ge_iff_le, bne_iff_ne, ne_eq, bne_eq_false_iff_eq, beq_iff_eq, beq_eq_false_iff_ne, Bool.not_eq_true', Bool.not_eq_false', decide_eq_true_eq, decide_eq_false_iff_not, List.length_map] at h)
  · obtain ⟨p, hp⟩ := at_some (xs := xs) (i := i) (by omega)
    refine rn rfl ?_
    refine goal_did rfl rfl (dA_index (eS p) rfl rfl rfl rfl rfl rfl rfl (by omega) (by (try simp); omega) (map_at (by simpa using hp)) rfl) ?_
    refine rn rfl ?_
    refine goal_cond rfl (fun h2 => ?_) (fun h2 => ?_) <;> (try simp only [gt_iff_lt, ge_iff_le, bne_iff_ne, ne_eq, bne_eq_false_iff_eq, beq_iff_eq, beq_eq_false_iff_ne, Bool.not_eq_true', Bool.not_eq_false', decide_eq_true_eq, decide_eq_false_iff_not, List.length_map] at h2)
    · refine rn rfl (round_ret (fin_is [] rfl ⟨?_, rfl⟩))
      have : n ∈ xs := by rw [← h2]; exact List.mem_of_getElem? hp
      simp [this]
    · refine rn rfl ?_
      refine round_keep (xs.length - (i + 1)) [5, 1, 0] [] (by omega) rfl ⟨_, i + 1, wrap64 (by omega) (by omega), by omega, rfl, ?_, rfl⟩
      rw [← take_snoc hp]; simp only [List.mem_append, List.mem_singleton, not_or]; exact ⟨hidx, fun h0 => h2 h0.symm⟩
  · refine rn rfl (round_ext ?_)
    refine rn rfl (fin_is [] rfl ⟨?_, rfl⟩)
    rw [List.take_of_length_le (by omega)] at hidx
    simp [hidx]

theorem sallowsAt_ct (s : Sig) (n : Int) (m : Str) (hl : LenS s) (hm : m.length ≤ 9223372036854775807) :
    ACalls pk 31 [.agg (eG s), .one (.int .i64 n), .one (.str m)] [] (fun r o => r = .one (.bool (AllowsF s n m)) ∧ o = []) := by
  have hl' := hl
  obtain ⟨s1, s2⟩ := hl
  refine acalls_of_body Try.func31 rfl (by kernel_rfl) rfl ?_
  refine rn rfl ?_
  refine goal_step (step_call [] rfl rfl rfl rfl rfl rfl (goodCount_ct s n hl')) ?_
  rintro σ2 ⟨r, o', ⟨rfl, rfl⟩, hσ⟩
  obtain rfl := Option.some.inj hσ
  clear hσ
  refine rn rfl ?_
  refine goal_guard rfl rfl rfl (fun h1 => ?_) (fun h1 => ?_) <;> (try simp only [gt_iff_lt, ge_iff_le, bne_iff_ne, ne_eq, bne_eq_false_iff_eq, beq_iff_eq, beq_eq_false_iff_ne, Bool.not_eq_true', Bool.not_eq_false', decide_eq_true_eq, decide_eq_false_iff_not, List.length_map] at h1)
  · refine rn rfl (fin_is [] rfl ⟨?_, rfl⟩)
    simp [AllowsF, h1]
  obtain ⟨hok, k, rfl, hk, ht, hne⟩ := goodC_ok h1
  refine rn rfl ?_
  refine goal_step (step_call [] rfl rfl rfl rfl rfl rfl (validName_ct m hm)) ?_
  rintro σ2 ⟨r, o', ⟨rfl, rfl⟩, hσ⟩
  obtain rfl := Option.some.inj hσ
  clear hσ
  refine rn rfl ?_
  refine goal_guard rfl rfl rfl (fun h2 => ?_) (fun h2 => ?_) <;> (try simp only [gt_iff_lt, ge_iff_le, bne_iff_ne, ne_eq, bne_eq_false_iff_eq, beq_iff_eq, beq_eq_false_iff_ne, Bool.not_eq_true', Bool.not_eq_false', decide_eq_true_eq, decide_eq_false_iff_not, List.length_map] at h2)
  · refine rn rfl (fin_is [] rfl ⟨?_, rfl⟩)
    simp [AllowsF, h2]
  refine rn rfl ?_
  refine goal_step (step_call [] rfl rfl rfl rfl rfl rfl (sallows_ct s k m s1 hk)) ?_
  rintro σ2 ⟨r, o', ⟨rfl, rfl⟩, hσ⟩
  obtain rfl := Option.some.inj hσ
  clear hσ
  refine rn rfl ?_
  refine goal_cond rfl (fun h3 => ?_) (fun h3 => ?_) <;> (try simp only [gt_iff_lt, ge_iff_le, bne_iff_ne, ne_eq, bne_eq_false_iff_eq, beq_iff_eq, beq_eq_false_iff_ne, Bool.not_eq_true', Bool.not_eq_false', decide_eq_true_eq, decide_eq_false_iff_not, List.length_map] at h3)
  · refine rn rfl (fin_is [] rfl ⟨?_, rfl⟩)
    simp [AllowsF, h3]
  refine rn rfl ?_
  refine goal_step (step_call [] rfl rfl rfl rfl rfl rfl (sneeds_ct s k hok hk)) ?_
  rintro σ2 ⟨r, o', ⟨rfl, rfl⟩, hσ⟩
  obtain rfl := Option.some.inj hσ
  clear hσ
  refine rn rfl ?_
  have hlen := sortS_length (needNs s k)
  have hmem := sortS_mem (needNs s k) m
  have hnl := needNs_len s k
  have hol := hok.len
  have hA : AllowsF s k m = (decide (m ∈ sortS (needNs s k)) || decide ((sortS (needNs s k)).length < 8)) := by
    simp [AllowsF, h1, h2, h3, hmem, hlen]
  rw [hA]
  generalize sortS (needNs s k) = S at *
  refine rn rfl ?_
  refine goal_step (step_call [] rfl rfl rfl rfl rfl rfl (shasText_ct S m (by omega))) ?_
  rintro σ2 ⟨r, o', ⟨rfl, rfl⟩, hσ⟩
  obtain rfl := Option.some.inj hσ
  clear hσ
  refine rn rfl ?_
  refine goal_guard rfl rfl rfl (fun h4 => ?_) (fun h4 => ?_) <;> (try simp only [gt_iff_lt, ge_iff_le, bne_iff_ne, ne_eq, bne_eq_false_iff_eq, beq_iff_eq, beq_eq_false_iff_ne, Bool.not_eq_true', Bool.not_eq_false', decide_eq_true_eq, decide_eq_false_iff_not, List.length_map] at h4)
  · refine rn rfl (fin_is [] rfl ⟨?_, rfl⟩)
    simp [h4]
  · refine rn rfl (fin_is [] rfl ⟨?_, rfl⟩)
    simp [h4]; omega

theorem iallowsAt_ct (s : Sig) (n : Int) (m : Str) (hl : LenS s) (hm : m.length ≤ 9223372036854775807) :
    ACalls pk 32 [.agg (eG s), .one (.int .i64 n), .one (.str m)] [] (fun r o => r = .one (.bool (AllowsF s n m)) ∧ o = []) := by
  have hD := ineedsAtD_ct s n hl
  rw [needsF_snd] at hD
  refine acalls_of_body Try.func32 rfl (by kernel_rfl) rfl ?_
  refine rn rfl ?_
  refine goal_step (step_call [] rfl rfl rfl rfl rfl rfl (hD)) ?_
  rintro σ2 ⟨r, o', ⟨rfl, rfl⟩, hσ⟩
  obtain rfl := Option.some.inj hσ
  clear hσ
  refine rn rfl ?_
  refine goal_guard rfl rfl rfl (fun h1 => ?_) (fun h1 => ?_) <;> (try simp only [gt_iff_lt, ge_iff_le, bne_iff_ne, ne_eq, bne_eq_false_iff_eq, beq_iff_eq, beq_eq_false_iff_ne, Bool.not_eq_true', Bool.not_eq_false', decide_eq_true_eq, decide_eq_false_iff_not, List.length_map] at h1)
  · obtain ⟨hok, k, rfl, hk, ht, hne⟩ := goodC_ok h1
    rw [hne]
    refine rn rfl ?_
    refine goal_step (step_call [] rfl rfl rfl rfl rfl rfl (iallows_ct s k m hok hk hm)) ?_
    rintro σ2 ⟨r, o', ⟨rfl, rfl⟩, hσ⟩
    obtain rfl := Option.some.inj hσ
    clear hσ
    refine rn rfl ?_
    refine goal_guard rfl rfl rfl (fun h2 => ?_) (fun h2 => ?_) <;> (try simp only [gt_iff_lt, ge_iff_le, bne_iff_ne, ne_eq, bne_eq_false_iff_eq, beq_iff_eq, beq_eq_false_iff_ne, Bool.not_eq_true', Bool.not_eq_false', decide_eq_true_eq, decide_eq_false_iff_not, List.length_map] at h2)
    · simp only [Bool.and_eq_true] at h2
      have hlen := sortS_length (needNs s k)
      have hmem := sortS_mem (needNs s k) m
      have hnl := needNs_len s k
      have hol := hok.len
      have hnd : (sortS (needNs s k)).Nodup := by
        have := sortS_sorted (needNs_nodup hok k)
        exact SS.nodup this
      have hA : AllowsF s k m = decide ((uniqS (sortS (needNs s k) ++ [m])).length ≤ 8) := by
        rw [uniq_more hnd]
        by_cases h4 : m ∈ needNs s k
        · have : (needNs s k).length ≤ 8 := by omega
          simp [AllowsF, h1, h2, hmem, hlen, h4, this]
        · simp only [AllowsF, h1, h2, Int.toNat_natCast, hmem, hlen, h4, if_false, Bool.true_and]
          have : (needNs s k).contains m = false := by simpa using h4
          rw [this, Bool.false_or]
          congr 1
      rw [hA]
      have hul := uniqS_length (sortS (needNs s k) ++ [m])
      generalize sortS (needNs s k) = S at *
      refine rn rfl ?_
      refine goal_step (step_call [] rfl rfl rfl rfl rfl rfl (iunion_ct S [m] (by simp; omega))) ?_
      rintro σ2 ⟨r, o', ⟨rfl, rfl⟩, hσ⟩
      obtain rfl := Option.some.inj hσ
      clear hσ
      refine rn rfl ?_
      refine rn rfl (fin_is [] rfl ⟨?_, rfl⟩)
      simp; omega
    · refine rn rfl (fin_is [] rfl ⟨?_, rfl⟩)
      simp only [Bool.and_eq_false_iff] at h2
      rcases h2 with h2 | h2 <;> simp [AllowsF, h2]
  · refine rn rfl (fin_is [] rfl ⟨?_, rfl⟩)
    simp [AllowsF, h1]

theorem fnExactAllowsAt_ct (s : Sig) (n : Int) (m : Str) (hs : FitsS s) (_ : True) (hm : m.length ≤ 9223372036854775807) : ACalls pk 6 [.agg (eG s), .one (.int .i64 n), .one (.str m)] [] (fun r o => r = .one (.bool true) ∧ o = []) := by
  refine acalls_of_body Try.func6 rfl (by kernel_rfl) rfl ?_
  refine rn rfl ?_
  refine goal_cond rfl (fun h0 => ?_) (fun h0 => ?_) <;> (try simp only [gt_iff_lt, ge_iff_le, bne_iff_ne, ne_eq, bne_eq_false_iff_eq, beq_iff_eq, beq_eq_false_iff_ne, Bool.not_eq_true', Bool.not_eq_false', decide_eq_true_eq, decide_eq_false_iff_not, List.length_map] at h0)
  · exact rn rfl (fin_is [] rfl ⟨rfl, rfl⟩)
  refine rn rfl ?_
  refine goal_step (step_call [] rfl rfl rfl rfl rfl rfl (szSig_ct s 1048576 (by omega) (by omega) hs)) ?_
  rintro σ2 ⟨r, o', ⟨rfl, rfl⟩, hσ⟩
  obtain rfl := Option.some.inj hσ
  clear hσ
  refine rn rfl ?_
  refine goal_cond rfl (fun h => ?_) (fun h => ?_) <;> (try simp only [gt_iff_lt, ge_iff_le, bne_iff_ne, ne_eq, bne_eq_false_iff_eq, beq_iff_eq, beq_eq_false_iff_ne, Bool.not_eq_true', Bool.not_eq_false', decide_eq_true_eq, decide_eq_false_iff_not, List.length_map] at h)
  · exact rn rfl (fin_is [] rfl ⟨rfl, rfl⟩)
  obtain ⟨p0, p1⟩ := szParamS_ok (by omega) h
  have lp : LenS s := ⟨by omega, hs.names⟩
  have hi := iallowsAt_ct s n m lp hm
  have hsp := sallowsAt_ct s n m lp hm
  generalize AllowsF s n m = b at *
  refine rn rfl ?_
  refine goal_step (step_call [] rfl rfl rfl rfl rfl rfl (toSigD_ct s (by omega))) ?_
  rintro σ2 ⟨r, o', ⟨rfl, rfl⟩, hσ⟩
  obtain rfl := Option.some.inj hσ
  clear hσ
  refine rn rfl ?_
  refine goal_step (step_call [] rfl rfl rfl rfl rfl rfl (hsp)) ?_
  rintro σ2 ⟨r, o', ⟨rfl, rfl⟩, hσ⟩
  obtain rfl := Option.some.inj hσ
  clear hσ
  refine rn rfl ?_
  refine rn rfl ?_
  refine goal_step (step_call [] rfl rfl rfl rfl rfl rfl (toSig_ct s (by omega))) ?_
  rintro σ2 ⟨r, o', ⟨rfl, rfl⟩, hσ⟩
  obtain rfl := Option.some.inj hσ
  clear hσ
  refine rn rfl ?_
  refine rn rfl ?_
  refine goal_step (step_lendE [] rfl rfl rfl rfl rfl rfl rfl (cons_eq (asG s) rfl) (hi) (by rintro r o ⟨rfl, rfl⟩; exact ⟨rfl, rfl⟩)) ?_
  rintro σ2 ⟨r, o', ⟨rfl, rfl⟩, hσ⟩
  obtain rfl := Option.some.inj hσ
  clear hσ
  refine rn rfl ?_
  refine goal_cond rfl (fun h => by simp at h) (fun _ => ?_)
  refine rn rfl ?_
  refine goal_draw' [0, 2] 5 rfl ?_
  refine drn [0, 1] (by kernel_rfl) (by kernel_rfl) rfl rfl ?_
  refine AH_one (i := 2) (by kernel_rfl) (step_call [] rfl rfl rfl rfl rfl rfl (toSigD_ct s (by omega))) (by simp) ?_
  rintro σ2 ⟨r, o', ⟨rfl, rfl⟩, hσ⟩
  obtain rfl := Option.some.inj hσ
  clear hσ
  refine AH_one (i := 3) (by kernel_rfl) (step_lendE [] rfl rfl rfl rfl rfl rfl rfl (cons_eq (asG s) rfl) (eqSig_ct s (by omega)) (by rintro r o ⟨rfl, rfl⟩; exact ⟨rfl, rfl⟩)) (by simp) ?_
  rintro σ2 ⟨r, o', ⟨rfl, rfl⟩, hσ⟩
  obtain rfl := Option.some.inj hσ
  clear hσ
  refine drn [4] (by kernel_rfl) (by kernel_rfl) rfl rfl ?_
  refine AH_end (by kernel_rfl) ?_
  refine rn rfl ?_
  refine goal_cond rfl (fun h => by simp at h) (fun _ => ?_)
  exact rn rfl (fin_is [] rfl ⟨rfl, rfl⟩)

end Go.Proofs.Ytekdhmddibfidaa
