/- Part 3 of the proof: an abstract machine over the model; contracts of the functions that the law reaches. -/
import Derived.Test.YtkchcffmefbomaaDoorKETT2
set_option linter.unusedVariables false
set_option linter.unusedSimpArgs false
namespace Go.Proofs.YtkchcffmefbomaaDoor
open Go
set_option maxRecDepth 100000
set_option maxHeartbeats 1000000

def overN (ps qs : List Pair) : List Pair := qs.foldl (fun ps p => putP ps p.name p.value) ps

def overQ (f g : Flat) : Flat := ⟨f.places ++ g.places, overN f.named g.named⟩

theorem overN_len : ∀ (qs ps : List Pair), (overN ps qs).length ≤ ps.length + qs.length
  | [], ps => by simp [overN]
  | q :: qs, ps => by
    have h1 := overN_len qs (putP ps q.name q.value)
    have h2 := putP_length ps q.name q.value
    simp only [overN, List.foldl_cons, List.length_cons] at h1 ⊢
    omega

theorem overN_mem : ∀ {qs ps : List Pair} {p : Pair}, p ∈ overN ps qs → (∃ q ∈ ps, p.name = q.name) ∨ ∃ q ∈ qs, p.name = q.name
  | [], ps, p, h => .inl ⟨p, h, rfl⟩
  | q :: qs, ps, p, h => by
    rcases overN_mem (qs := qs) (ps := putP ps q.name q.value) h with ⟨r, hr, hn⟩ | ⟨r, hr, hn⟩
    · rcases putP_mem hr with h1 | ⟨r', hr', h1⟩
      · exact .inr ⟨q, by simp, by rw [hn, h1]⟩
      · exact .inl ⟨r', hr', by rw [hn, h1]⟩
    · exact .inr ⟨r, by simp [hr], hn⟩

theorem LenF.over {f g : Flat} (hf : LenF f) (hg : LenF g) : (overQ f g).places.length ≤ 16777216 ∧ (overQ f g).named.length ≤ 16777216 ∧ ∀ p ∈ (overQ f g).named, p.name.length ≤ 9223372036854775807 := by
  refine ⟨by have := hf.places; have := hg.places; simp [overQ]; omega, by have h := overN_len g.named f.named; have := hf.named; have := hg.named; simp only [overQ]; omega, fun p hp => ?_⟩
  rcases overN_mem hp with ⟨q, hq, hn⟩ | ⟨q, hq, hn⟩
  · rw [hn]; exact hf.names q hq
  · rw [hn]; exact hg.names q hq

/-- All of the memory, zs data. -/
def allD (w : World) (b : Nat) : Prop := b < w.heap.size

/-- A value of type 't' that can be read is some 'a', its cells told by 'enc'. -/
def Opens (P : Program) (t : TypeId) {α : Type} (enc : α → List C) (ok : α → Prop) : Prop :=
  ∀ (H : Type) (en : TypeId × Value → H) (w : World) (fuel : Nat) (cs : List Value) (x : DataW H × List MemPlace), DataW.trod en P w 0 (fun _ => true) true fuel t cs = some x →
    ∃ a : α, ok a ∧ CRp (allD w) w.heap [] (enc a) cs ∧ cs.length = (enc a).length

theorem opens_int {P : Program} {t : TypeId} (ht : P.underlying t = some (.int .i64)) : Opens P t (fun n : Int => [.int .i64 n]) (fun _ => True) := by
  intro H en w fuel cs x h
  obtain ⟨n, rfl, _, _⟩ := DataW.trod_int ht h
  exact ⟨n, trivial, by simp [CRp, CR], rfl⟩

theorem opens_bool {P : Program} {t : TypeId} (ht : P.underlying t = some .bool) : Opens P t (fun n : Bool => [.bool n]) (fun _ => True) := by
  intro H en w fuel cs x h
  obtain ⟨n, rfl, _⟩ := DataW.trod_bool ht h
  exact ⟨n, trivial, by simp [CRp, CR], rfl⟩

theorem opens_str {P : Program} {t : TypeId} (ht : P.underlying t = some .string) : Opens P t (fun s : Str => [.str s]) (fun s => s.length ≤ 9223372036854775807) := by
  intro H en w fuel cs x h
  obtain ⟨s, rfl, _, hl⟩ := DataW.trod_string ht h
  refine ⟨s.data.toList, ?_, ?_, rfl⟩
  · have h1 : s.size = s.data.toList.length := (Array.length_toList).symm
    show s.data.toList.length ≤ _
    rw [← h1]
    exact Nat.le_trans hl (by decide)
  · simp only [CRp, CR, and_true]

theorem opens_slice {P : Program} {t e : TypeId} {α : Type} {enc : α → List C} {ok : α → Prop} {sz : Nat} (ht : P.underlying t = some (.slice e)) (hc : P.cellsOf e = sz) (h0 : 0 < sz) (hl : ∀ a, (enc a).length = sz) (he : Opens P e enc ok) :
    Opens P t (fun xs : List α => [.fs (xs.map enc)]) (fun xs => xs.length ≤ 9223372036854775807 ∧ ∀ x ∈ xs, ok x) := by
  intro H en w fuel cs x h
  rcases DataW.trod_slice ht h with ⟨rfl, _⟩ | ⟨a, len, cap, elems, rest, n, _, rfl, _, _, hlc, hm, hlen, hel, _, _⟩
  · refine ⟨[], by simp, ?_, rfl⟩
    simp only [CRp, CR, List.map_nil, List.length_nil, and_true]
    exact ⟨none, 0, rfl, Nat.le_refl _, .inl trivial⟩
  · have each : ∀ i, i < len → ∃ cs' : List Value, w.cells? 0 (a.add (i * sz)) sz = some cs' ∧ ∃ b : α, ok b ∧ CRp (allD w) w.heap [] (enc b) cs' ∧ cs'.length = (enc b).length := by
      intro i hi
      have := hel i hi
      rw [hc] at this
      obtain ⟨y, hy⟩ : ∃ y, elems[i]? = some y := ⟨elems[i], by simp [hlen, hi]⟩
      rw [hy, Option.bind_eq_some_iff] at this
      obtain ⟨cs', h1, h2⟩ := this
      obtain ⟨b, hb⟩ := he H en w n cs' y h2
      exact ⟨cs', h1, b, hb⟩
    have hxs : ∀ k, k ≤ len → ∃ xs : List α, xs.length = k ∧ (∀ x ∈ xs, ok x) ∧ ∀ (i : Nat) (b : α), xs[i]? = some b → ∃ cs', w.cells? 0 (a.add (i * sz)) sz = some cs' ∧ CRp (allD w) w.heap [] (enc b) cs' := by
      intro k
      induction k with
      | zero => intro _; exact ⟨[], rfl, by simp, by simp⟩
      | succ k ih =>
        intro hk
        obtain ⟨xs, q1, q2, q3⟩ := ih (by omega)
        obtain ⟨cs', h1, b, hb1, hb2, _⟩ := each k (by omega)
        refine ⟨xs ++ [b], by simp [q1], ?_, ?_⟩
        · intro x hx
          rcases List.mem_append.1 hx with hx | hx
          · exact q2 x hx
          · simp at hx; subst hx; exact hb1
        · intro i b' hi
          rw [getElem?_app_one] at hi
          split at hi
          · exact q3 i b' hi
          · split at hi
            · rename_i heq
              simp at hi
              subst hi
              rw [heq, q1]
              exact ⟨cs', h1, hb2⟩
            · cases hi
    obtain ⟨xs, q1, q2, q3⟩ := hxs len (Nat.le_refl _)
    refine ⟨xs, ⟨?_, q2⟩, ?_, rfl⟩
    · rw [q1]; exact Nat.le_trans (Nat.le_trans hlc hm) (by decide)
    · simp only [CRp, CR, and_true]
      refine ⟨some a, cap, by simp [q1], by simpa [q1] using hlc, ?_⟩
      rcases Nat.eq_zero_or_pos len with hz | hz
      · left
        have : xs = [] := List.eq_nil_of_length_eq_zero (by omega)
        simp [this]
      · right
        obtain ⟨b0, hb0⟩ : ∃ b, xs[0]? = some b := ⟨xs[0], by simp [q1, hz]⟩
        obtain ⟨cs0, hc0, _⟩ := q3 0 b0 hb0
        have hcell0 := (World.cells?_some hc0).2.2 0 (by omega)
        have hl0 := (World.cells?_some hc0).1
        -- where the row lies
        obtain ⟨cells, tt, fr, hh, hs⟩ : ∃ cells tt fr, w.heap[a.block]? = some (.cells cells tt fr) ∧ a.spot = none := by
          have hv : ∃ v, w.cell? a = some v := by
            have h2 : a.add (0 * sz) = a := by simp [Addr.add]
            rw [h2] at hcell0
            have h3 : a.add 0 = a := by simp [Addr.add]
            rw [h3] at hcell0
            have : cs0[0]? ≠ none := by
              have h4 : cs0.length = sz := by
                have := World.cells?_some hc0
                first | exact this.1 | exact this.2.1
              rw [List.getElem?_eq_getElem (by omega)]; simp
            exact ⟨cs0[0]?.get (by cases hx : cs0[0]? with | none => exact absurd hx this | some v => rfl), by rw [hcell0]; simp⟩
          obtain ⟨v, hv⟩ := hv
          unfold World.cell? at hv
          split at hv
          · rename_i cells tt fr hh
            split at hv
            · cases hv
            · rename_i hsp
              exact ⟨cells, tt, fr, hh, by cases hq : a.spot with | none => rfl | some _ => rw [hq] at hsp; simp at hsp⟩
          · cases hv
        refine ⟨a, cells, tt, fr, sz, rfl, hs, (Array.getElem?_eq_some_iff.1 hh).1, hh, ?_⟩
        rw [CRr_iff]
        intro i r hi
        rw [List.getElem?_map] at hi
        cases hxi : xs[i]? with
        | none => rw [hxi] at hi; simp at hi
        | some b =>
          rw [hxi] at hi
          simp at hi
          subst hi
          obtain ⟨cs', hc', hr'⟩ := q3 i b hxi
          refine ⟨hl b, CRp.congr (fun j hj => ?_) hr'⟩
          rw [hl b] at hj
          have := (World.cells?_some hc').2.2 j hj
          rw [← this]
          have ha : (a.add (i * sz)).add j = ⟨a.block, a.off + i * sz + j, none⟩ := by rw [add_eq a _ hs, add_eq _ _ rfl]
          rw [ha, List.getElem?_drop]
          simp [World.cell?, hh, Nat.add_assoc]

/-- The fields of a struct, one by one. -/
def OpensF (P : Program) (fs : List (Nat × TypeId)) (off : Nat) {α : Type} (enc : α → List C) (ok : α → Prop) : Prop :=
  ∀ (H : Type) (en : TypeId × Value → H) (w : World) (fuel : Nat) (cs : List Value), (∀ f ∈ fs, ∃ x : DataW H × List MemPlace, DataW.trod en P w 0 (fun _ => true) true fuel f.2 ((cs.drop f.1).take (P.cellsOf f.2)) = some x) →
    ∃ a : α, ok a ∧ CRp (allD w) w.heap [] (enc a) (cs.drop off)

theorem opensF_nil {P : Program} {off : Nat} : OpensF P [] off (fun _ : Unit => []) (fun _ => True) := by
  intro H en w fuel cs _
  exact ⟨(), trivial, by simp [CRp]⟩

theorem opensF_cons {P : Program} {t : TypeId} {fs : List (Nat × TypeId)} {off off' : Nat} {α β : Type} {enc : α → List C} {enc' : β → List C} {ok : α → Prop} {ok' : β → Prop}
    (h1 : Opens P t enc ok) (hl : ∀ a, (enc a).length = off' - off) (hle : off ≤ off') (h2 : OpensF P fs off' enc' ok') : OpensF P ((off, t) :: fs) off (fun ab : α × β => enc ab.1 ++ enc' ab.2) (fun ab => ok ab.1 ∧ ok' ab.2) := by
  intro H en w fuel cs hf
  obtain ⟨x, hx⟩ := hf (off, t) (by simp)
  obtain ⟨a, ha, hr, hlen⟩ := h1 H en w fuel _ x hx
  obtain ⟨b, hb, hr'⟩ := h2 H en w fuel cs (fun f hf' => hf f (by simp [hf']))
  refine ⟨(a, b), ⟨ha, hb⟩, ?_⟩
  rw [CRp.app, hl a]
  refine ⟨?_, by rw [List.drop_drop, show off + (off' - off) = off' by omega]; exact hr'⟩
  have := CRp.more (r := (cs.drop off).drop (P.cellsOf t)) hr
  rwa [List.take_append_drop] at this

theorem opens_struct {P : Program} {t : TypeId} {fs : Array Field} {α : Type} {enc : α → List C} {ok : α → Prop} {sz : Nat} (ht : P.underlying t = some (.struct fs)) (hc : P.cellsOf t = sz) (hl : ∀ a, (enc a).length = sz)
    (h : OpensF P (fs.toList.map fun f => (f.offset, f.type)) 0 enc ok) : Opens P t enc ok := by
  intro H en w fuel cs x hx
  obtain ⟨xs, n, _, _, h1, h2, h3⟩ := DataW.trod_struct ht hx
  obtain ⟨a, ha, hr⟩ := h H en w n cs (fun f hf => by
    obtain ⟨g, hg, rfl⟩ := List.mem_map.1 hf
    obtain ⟨i, hi⟩ := List.getElem?_of_mem hg
    have hi' : fs[i]? = some g := by simpa using hi
    have := h3 i g hi'
    have hlt : i < xs.length := by rw [h2]; exact (Array.getElem?_eq_some_iff.1 hi').1
    exact ⟨xs[i], by rw [this]; simp [hlt]⟩)
  exact ⟨a, ha, by simpa using hr, by rw [h1, hc, hl a]⟩

section
open Go Go.ChangeShapes Go.WideShapes Go.ChangeAt Go.RowKit
theorem TIok.cellsOf {P : Program} {t : Nat} {ti : TI} (H : TIok P t ti) : P.cellsOf t = ti.size := by
  obtain ⟨i, z, hi, hs, _⟩ := H.info
  simp [Program.cellsOf, hi, hs]

section

variable {X : Pk} {t : Nat} {ti te : TI}

theorem xo_int (h : findTI X.L t = some ti) (hk : ti.kind = 4) (hik : ti.ik = .i64) : Opens X.P t (fun n : Int => [.int .i64 n]) (fun _ => True) := by
  have := (X.tiok h).int hk
  rw [hik] at this
  exact opens_int this

theorem xo_bool (h : findTI X.L t = some ti) (hk : ti.kind = 5) : Opens X.P t (fun n : Bool => [.bool n]) (fun _ => True) := opens_bool ((X.tiok h).bool hk)

theorem xo_str (h : findTI X.L t = some ti) (hk : ti.kind = 1) : Opens X.P t (fun s : Str => [.str s]) (fun s => s.length ≤ 9223372036854775807) := opens_str ((X.tiok h).string hk)

theorem xo_slice {α : Type} {enc : α → List C} {ok : α → Prop} (h : findTI X.L t = some ti) (hk : ti.kind = 2) (he : findTI X.L ti.elem = some te) (h0 : Nat.blt 0 te.size = true) (hl : ∀ a, (enc a).length = te.size) (hE : Opens X.P ti.elem enc ok) :
    Opens X.P t (fun xs : List α => [.fs (xs.map enc)]) (fun xs => xs.length ≤ 9223372036854775807 ∧ ∀ x ∈ xs, ok x) :=
  opens_slice ((X.tiok h).slice hk) (X.tiok he).cellsOf (by simpa [Nat.blt_eq] using h0) hl hE

theorem xo_struct {α : Type} {enc : α → List C} {ok : α → Prop} (h : findTI X.L t = some ti) (hk : ti.kind = 3) (hl : ∀ a, (enc a).length = ti.size) (hF : OpensF X.P ti.fields 0 enc ok) : Opens X.P t enc ok := by
  obtain ⟨fs, hu, hfs⟩ := (X.tiok h).struct hk
  exact opens_struct hu (X.tiok h).cellsOf hl (by rw [hfs]; exact hF)

end

theorem Opens.map {P : Program} {t : TypeId} {α β : Type} {enc : α → List C} {ok : α → Prop} {enc' : β → List C} {ok' : β → Prop} (h : Opens P t enc ok) (g : α → β) (he : ∀ a, enc' (g a) = enc a) (ho : ∀ a, ok a → ok' (g a)) : Opens P t enc' ok' := by
  intro H en w fuel cs x hx
  obtain ⟨a, h1, h2, h3⟩ := h H en w fuel cs x hx
  exact ⟨g a, ho a h1, by rw [he]; exact h2, by rw [he]; exact h3⟩

/-- A law's contract, zs a call from any memory. -/
theorem law_calls {X : Pk} {f : FuncId} {args : List T} {vals : Array Value} {w : World} (h : ACalls X f args [] (fun r o => r = .one (.bool true) ∧ o = [])) (hgl : GlobOk w []) (ha : TRs (allD w) w.heap [] args vals.toList) :
    Calls X.P f vals w fun e w' => e = .returned (.bool true) ∧ Below w.heap.size w w' := by
  have hsr : SR (allD w) w.heap [] [] := ⟨rfl, by simp, by simp, by simp, fun b hb => hb⟩
  refine (h.2 (allD w) [] w vals.toList hgl hsr ha (by simp)).mono ?_
  rintro en w' ⟨v, r, o', D', e', rfl, ⟨rfl, rfl⟩, htr, _, hext, _⟩
  simp only [TR, CR] at htr
  subst htr
  refine ⟨rfl, hext.os, hext.tape, hext.output, hext.size, fun k hk => hext.block k hk ?_⟩
  rintro ⟨id, a, esz, cap, n, he, _⟩
  simp at he
end

section
open Go Go.ChangeShapes
theorem cells_of_okWide {P : Program} {W : World} {r : Reach} {base : Nat} {t : TypeId} {v : Value} (hu : (∃ e, P.underlying t = some (.slice e)) ∨ (∃ k, P.underlying t = some (.int k)) ∨ P.underlying t = some .string)
    (h : Value.okWide P W r base t v) : v.cells.toList = [v] := by
  rcases hu with ⟨e, hu⟩ | ⟨k, hu⟩ | hu <;> cases v <;> first
    | rfl
    | (exfalso; simp [Value.okWide, hu, Cell.okWide, Cell.ok] at h)
end

section
open Go Go.ChangeShapes
structure FitsS (s : Sig) : Prop where
  len : s.length ≤ 9223372036854775807
  names : ∀ p ∈ s, p.name.length ≤ 9223372036854775807

def ParamOk (p : Param) : Prop := p.name.length ≤ 9223372036854775807

theorem openParam : Opens pk.P 77 eQ ParamOk :=
  Opens.map (xo_struct (α := Str × Int × Bool × Int × Unit) rfl rfl (fun _ => rfl) (opensF_cons (off' := 1) (xo_str rfl rfl) (fun _ => rfl) (by omega) (opensF_cons (off' := 2) (xo_int rfl rfl rfl) (fun _ => rfl) (by omega)
    (opensF_cons (off' := 3) (xo_bool rfl rfl) (fun _ => rfl) (by omega) (opensF_cons (off' := 4) (xo_int rfl rfl rfl) (fun _ => rfl) (by omega) opensF_nil)))))
    (fun x => ⟨x.1, x.2.1, x.2.2.1, x.2.2.2.1⟩) (fun _ => rfl) (fun _ h => h.1)

theorem openSig : Opens pk.P 32 eG FitsS :=
  Opens.map (xo_struct (α := List Param × Unit) rfl rfl (fun _ => rfl) (opensF_cons (off' := 1) (xo_slice rfl rfl rfl rfl (fun _ => rfl) openParam) (fun _ => rfl) (by omega) opensF_nil))
    (fun x => x.1) (fun _ => rfl) (fun _ h => ⟨h.1.1, h.1.2⟩)
end

theorem szParam_ct (p : Param) (k : Int) (hk : 0 ≤ k) (hk' : k ≤ 1048576) (hl : p.name.length ≤ 9223372036854775807) :
    ACalls pk 46 [.agg (eQ p), .one (.int .i64 k)] [] (fun r o => r = .one (.int .i64 (szLen p.name.length k)) ∧ o = []) := by
  refine acalls_of_body Tryd.func46 rfl (by kernel_rfl) rfl ?_
  refine rn rfl ?_
  have hw := wrap64 (n := k - p.name.length) (by omega) (by omega)
  refine goal_cond rfl (fun h => ?_) (fun h => ?_) <;> simp only [decide_eq_true_eq, decide_eq_false_iff_not, hw] at h
  · refine rn rfl (fin_is [] rfl ⟨?_, rfl⟩)
    simp only [szLen, h, if_true]
  · refine rn rfl (fin_is [] rfl ⟨?_, rfl⟩)
    simp only [szLen, h, if_false, hw]

def szAllQ : List Param → Int → Int
  | [], k => k
  | p :: ps, k => if szLen p.name.length k < 0 then -1 else szAllQ ps (szLen p.name.length k)

def szParamS (ps : List Param) (k : Int) : Int := if szLen ps.length k < 0 then -1 else szAllQ ps (szLen ps.length k)

theorem szParamS_ct (ps : List Param) (k : Int) (hk : 0 ≤ k) (hk' : k ≤ 1048576) (hl : ps.length ≤ 9223372036854775807) (hn : ∀ p ∈ ps, p.name.length ≤ 9223372036854775807) :
    ACalls pk 29 [.one (.fs (ps.map eQ)), .one (.int .i64 k)] [] (fun r o => r = .one (.int .i64 (szParamS ps k)) ∧ o = []) := by
  refine acalls_of_body Tryd.func29 rfl (by kernel_rfl) rfl ?_
  refine rn rfl ?_
  have hw := wrap64 (n := k - ps.length) (by omega) (by omega)
  refine goal_cond rfl (fun h => ?_) (fun h => ?_) <;> simp only [decide_eq_true_eq, decide_eq_false_iff_not, List.length_map, hw] at h
  · refine rn rfl (fin_is [] rfl ⟨?_, rfl⟩)
    simp [szParamS, szLen, h]
  · refine rn rfl ?_
    have hs : szLen ps.length k = k - ps.length := by simp only [szLen, h, if_false]
    refine goal_loop_keep (fun m σ => ∃ (n q : Int) (i : Nat), n = i ∧ i ≤ ps.length ∧ m = ps.length - i ∧ 0 ≤ q ∧ q ≤ 1048576 ∧ szParamS ps k = szAllQ (ps.drop i) q ∧
        σ = ⟨[(5, .one (.int .i64 n)), (1, .one (.int .i64 q)), (0, .one (.fs (ps.map eQ)))], [], []⟩) ps.length [5, 1, 0] [] rfl
      ⟨_, _, 0, rfl, by omega, by omega, ?_, ?_, ?_, rfl⟩ ?_
    · rw [List.length_map, hw]; omega
    · rw [List.length_map, hw]; omega
    · rw [List.length_map, hw, szParamS, if_neg (by omega), hs]; rfl
    rintro m σ ⟨n, q, i, rfl, hi, rfl, hq, hq', hidx, rfl⟩
    refine rn rfl ?_
    refine goal_cond rfl (fun h => ?_) (fun h => ?_) <;> simp only [decide_eq_true_eq, decide_eq_false_iff_not, List.length_map] at h
    · obtain ⟨p, hp⟩ := at_some (xs := ps) (i := i) (by omega)
      have hpm := hn p (List.mem_of_getElem? hp)
      refine rn rfl ?_
      refine goal_did rfl rfl (dA_index (eQ p) rfl rfl rfl rfl rfl rfl rfl (by omega) (by (try simp); omega) (map_at (by simpa using hp)) rfl) ?_
      refine rn rfl ?_
      refine goal_step (step_call [] rfl rfl rfl rfl rfl rfl (szParam_ct p q hq hq' hpm)) ?_
      rintro σ2 ⟨r, o', ⟨rfl, rfl⟩, hσ⟩
      obtain rfl := Option.some.inj hσ
      clear hσ
      refine rn rfl ?_
      refine rn rfl ?_
      refine goal_cond rfl (fun h2 => ?_) (fun h2 => ?_) <;> simp only [decide_eq_true_eq, decide_eq_false_iff_not] at h2
      · refine rn rfl ?_
        refine round_ret (fin_is [] rfl ⟨?_, rfl⟩)
        rw [hidx, drop_at hp]
        simp only [szAllQ, h2, if_true]
      · refine rn rfl ?_
        refine round_keep (ps.length - (i + 1)) [5, 1, 0] [] (by omega) rfl ⟨_, _, i + 1, ?_, by omega, rfl, by omega, ?_, ?_, rfl⟩
        · exact wrap64 (by omega) (by omega)
        · have := szLen_le p.name.length q hq; omega
        · rw [hidx, drop_at hp]
          simp only [szAllQ, h2, if_false]
    · refine rn rfl ?_
      refine round_ext ?_
      refine rn rfl (fin_is [] rfl ⟨?_, rfl⟩)
      rw [hidx, List.drop_eq_nil_of_le (by omega)]
      rfl

theorem szAllQ_le : ∀ (ps : List Param) (k : Int), 0 ≤ k → szAllQ ps k ≤ k ∧ (szAllQ ps k < 0 → szAllQ ps k = -1)
  | [], k, h => by simp only [szAllQ]; omega
  | p :: ps, k, h => by
    unfold szAllQ
    have h1 := szLen_le p.name.length k h
    split
    · omega
    · have := szAllQ_le ps (szLen p.name.length k) (by omega); omega

theorem szParamS_ok {s : Sig} {k : Int} (hk : 0 ≤ k) (h : ¬ szParamS s k < 0) : (s.length : Int) ≤ k ∧ szParamS s k ≤ k := by
  unfold szParamS at h ⊢
  split at h
  · omega
  · rename_i h1
    have e1 := szLen_ok h1
    have e2 := szLen_le s.length k hk
    have e3 := szAllQ_le s (szLen s.length k) (by omega)
    rw [if_neg h1]; omega

theorem szParamS_neg {s : Sig} {k : Int} (hk : 0 ≤ k) (h : szParamS s k < 0) : szParamS s k = -1 := by
  unfold szParamS at h ⊢
  split at h
  · rename_i h1; simp [h1]
  · rename_i h1
    have e3 := szAllQ_le s (szLen s.length k) (by omega)
    rw [if_neg h1]; exact e3.2 h

theorem szSig_ct (s : Sig) (k : Int) (hk : 0 ≤ k) (hk' : k ≤ 1048576) (hs : FitsS s) :
    ACalls pk 18 [.agg (eG s), .one (.int .i64 k)] [] (fun r o => r = .one (.int .i64 (szParamS s k)) ∧ o = []) := by
  refine acalls_of_body Tryd.func18 rfl (by kernel_rfl) rfl ?_
  refine rn rfl ?_
  refine goal_step (step_call [] rfl rfl rfl rfl rfl rfl (szParamS_ct s k hk hk' hs.len hs.names)) ?_
  rintro σ2 ⟨r, o', ⟨rfl, rfl⟩, hσ⟩
  obtain rfl := Option.some.inj hσ
  clear hσ
  refine rn rfl ?_
  refine rn rfl ?_
  refine goal_cond rfl (fun h => ?_) (fun h => ?_) <;> simp only [decide_eq_true_eq, decide_eq_false_iff_not] at h
  · refine rn rfl (fin_is [] rfl ⟨?_, rfl⟩)
    rw [szParamS_neg hk h]
  · exact rn rfl (fin_is [] rfl ⟨rfl, rfl⟩)

theorem toParam_ct (p : Param) : ACalls pk 52 [.agg (eQ p)] [] (fun r o => r = .agg (eQ p) ∧ o = []) := by
  refine acalls_of_body Tryd.func52 rfl (by kernel_rfl) rfl ?_
  refine rn rfl ?_
  exact rn rfl (fin_is [] rfl ⟨rfl, rfl⟩)

theorem toQS_ct (xs : List Param) (hl : xs.length ≤ 16777216) :
    ACalls pk 33 [.one (.fs (xs.map eQ))] [] (fun r o => r = .one (.os 0 0 xs.length xs.length) ∧ o = [ownQ xs]) := by
  refine acalls_of_body Tryd.func33 rfl (by kernel_rfl) rfl ?_
  refine rn rfl ?_
  refine goal_did rfl rfl (dA_make xs.length ((List.replicate xs.length zQ).map eQ) rfl rfl rfl (by simp) (by simp) rfl rfl rfl rfl rfl (by show 40 * xs.length ≤ _; omega) (by omega) (by rw [← rep_map]; rfl)) ?_
  refine rn rfl ?_
  refine goal_loop_keep (fun m σ => ∃ (n : Int) (i L : Nat) (ys : List Param), n = i ∧ L = xs.length ∧ i ≤ xs.length ∧ m = xs.length - i ∧ ys.length = xs.length ∧ ys.take i = xs.take i ∧
      σ = ⟨[(4, .one (.int .i64 n)), (3, .one (.os 0 0 L L)), (0, .one (.fs (xs.map eQ)))], [ownQ ys], []⟩) xs.length [4, 3, 0] [0] rfl
    ⟨_, 0, _, _, rfl, ?_, by omega, by omega, len_rep _ _, rfl, rfl⟩ ?_
  · simp
  rintro m σ ⟨n, i, L, ys, rfl, rfl, hi, rfl, hys, hpre, rfl⟩
  refine rn rfl ?_
  refine goal_cond rfl (fun h => ?_) (fun h => ?_) <;> (try simp only [gt_iff_lt, ge_iff_le, bne_iff_ne, ne_eq, bne_eq_false_iff_eq, beq_iff_eq, beq_eq_false_iff_ne, Bool.not_eq_true', Bool.not_eq_false', decide_eq_true_eq, decide_eq_false_iff_not, List.length_map] at h)
  · have hlt : i < xs.length := by omega
    obtain ⟨x, hx⟩ := at_some hlt
    obtain ⟨y, hy⟩ := at_some (xs := ys) (i := i) (by omega)
    refine rn rfl ?_
    refine goal_did rfl rfl (dA_index (eQ x) rfl rfl rfl rfl rfl rfl rfl (by omega) (by (try simp); omega) (map_at (by simpa using hx)) rfl) ?_
    refine rn rfl ?_
    refine goal_step (step_call [] rfl rfl rfl rfl rfl rfl (toParam_ct x)) ?_
    rintro σ2 ⟨r, o', ⟨rfl, rfl⟩, hσ⟩
    obtain rfl := Option.some.inj hσ
    clear hσ
    refine rn rfl ?_
    refine goal_did rfl rfl (dA_indexOwn rfl rfl rfl rfl rfl rfl rfl rfl rfl (by omega) (by omega)) ?_
    refine goal_did rfl rfl (dA_storeEl (eQ y) ((ys.set i x).map eQ) true rfl rfl rfl rfl rfl (map_at (by simpa using hy)) rfl rfl (by simp [eQ]) (by rw [map_set]; simp [patch, eQ]) (fun _ => noOwnR_map _ eQ_noOwn _)) ?_
    refine rn rfl ?_
    refine round_keep (xs.length - (i + 1)) [4, 3, 0] [0] (by omega) rfl ⟨_, i + 1, xs.length, ys.set i x, ?_, rfl, by omega, rfl, by simp [hys], take_set_step xs ys i x hx hys hpre, rfl⟩
    exact wrap64 (by omega) (by omega)
  · refine rn rfl ?_
    refine round_ext ?_
    refine rn rfl (fin_is [0] rfl ⟨?_, ?_⟩)
    · rfl
    · rw [show i = xs.length by omega, List.take_length, ← hys, List.take_length] at hpre
      rw [hpre]; rfl

def rG (s : Sig) : T := .agg [.os 0 0 s.length s.length]

def oG (s : Sig) : List (Option AObj) := [ownQ s]

theorem toSig_ct (s : Sig) (hs : s.length ≤ 16777216) : ACalls pk 22 [.agg (eG s)] [] (fun r o => r = rG s ∧ o = oG s) := by
  refine acalls_of_body Tryd.func22 rfl (by kernel_rfl) rfl ?_
  refine rn rfl ?_
  refine goal_step (step_call [] rfl rfl rfl rfl rfl rfl (toQS_ct s hs)) ?_
  rintro σ2 ⟨r, o', ⟨rfl, rfl⟩, hσ⟩
  obtain rfl := Option.some.inj hσ
  clear hσ
  refine rn rfl ?_
  exact rn rfl (fin_is [3] rfl ⟨rfl, rfl⟩)

theorem eqParam_ct (p q : Param) : ACalls pk 59 [.agg (eQ p), .agg (eQ q)] [] (fun r o => r = .one (.bool (decide (p = q))) ∧ o = []) := by
  obtain ⟨a, b, c, d⟩ := p
  obtain ⟨a', b', c', d'⟩ := q
  refine acalls_of_body Tryd.func59 rfl (by kernel_rfl) rfl ?_
  refine rn rfl ?_
  refine goal_cond rfl (fun h => ?_) (fun h => ?_)
  · simp at h
    refine rn rfl (fin_is [] rfl ⟨?_, rfl⟩)
    simp [h]
  · simp at h
    refine rn rfl ?_
    refine goal_cond rfl (fun h2 => ?_) (fun h2 => ?_) <;> simp only [bne_iff_ne, ne_eq, bne_eq_false_iff_eq] at h2
    · refine rn rfl (fin_is [] rfl ⟨?_, rfl⟩)
      simp [h2]
    · refine rn rfl ?_
      refine goal_cond rfl (fun h3 => ?_) (fun h3 => ?_)
      · refine rn rfl (fin_is [] rfl ⟨?_, rfl⟩)
        simp at h3; simp [h3]
      · refine rn rfl ?_
        refine goal_cond rfl (fun h4 => ?_) (fun h4 => ?_) <;> simp only [bne_iff_ne, ne_eq, bne_eq_false_iff_eq] at h4
        · refine rn rfl (fin_is [] rfl ⟨?_, rfl⟩)
          simp [h4]
        · refine rn rfl (fin_is [] rfl ⟨?_, rfl⟩)
          simp at h3; simp [h, h2, h3, h4]

theorem eqParamS_ct (xs ys : List Param) (hx : xs.length ≤ 9223372036854775807) :
    ACalls pk 45 [.one (.fs (xs.map eQ)), .one (.fs (ys.map eQ))] [] (fun r o => r = .one (.bool (decide (xs = ys))) ∧ o = []) := by
  refine acalls_of_body Tryd.func45 rfl (by kernel_rfl) rfl ?_
  refine rn rfl ?_
  refine goal_cond rfl (fun h => ?_) (fun h => ?_) <;> (try simp only [gt_iff_lt, ge_iff_le, bne_iff_ne, ne_eq, bne_eq_false_iff_eq, beq_iff_eq, beq_eq_false_iff_ne, Bool.not_eq_true', Bool.not_eq_false', decide_eq_true_eq, decide_eq_false_iff_not, List.length_map] at h)
  · refine rn rfl (fin_is [] rfl ⟨?_, rfl⟩)
    have : xs ≠ ys := fun h0 => h (by rw [h0])
    simp [this]
  · have hlen : xs.length = ys.length := by omega
    refine rn rfl ?_
    refine goal_loop_keep (fun m σ => ∃ (n : Int) (i : Nat), n = i ∧ i ≤ xs.length ∧ m = xs.length - i ∧ xs.take i = ys.take i ∧
        σ = ⟨[(5, .one (.int .i64 n)), (1, .one (.fs (ys.map eQ))), (0, .one (.fs (xs.map eQ)))], [], []⟩) xs.length [5, 1, 0] [] rfl
      ⟨_, 0, rfl, by omega, by omega, rfl, rfl⟩ ?_
    rintro m σ ⟨n, i, rfl, hi, rfl, hpre, rfl⟩
    refine rn rfl ?_
    refine goal_cond rfl (fun h => ?_) (fun h => ?_) <;> (try simp only [gt_iff_lt, ge_iff_le, bne_iff_ne, ne_eq, bne_eq_false_iff_eq, beq_iff_eq, beq_eq_false_iff_ne, Bool.not_eq_true', Bool.not_eq_false', decide_eq_true_eq, decide_eq_false_iff_not, List.length_map] at h)
    · obtain ⟨x, hxi⟩ := at_some (xs := xs) (i := i) (by omega)
      obtain ⟨y, hyi⟩ := at_some (xs := ys) (i := i) (by omega)
      refine rn rfl ?_
      refine goal_draw' [] 10 rfl ?_
      refine drn [0, 1, 4, 5] (by kernel_rfl) (by kernel_rfl) rfl rfl ?_
      refine AH_did 2 rfl (by kernel_rfl) (by kernel_rfl) (by kernel_rfl) rfl rfl (dA_index (eQ x) rfl rfl rfl rfl rfl rfl rfl (by omega) (by (try simp); omega) (map_at (by simpa using hxi)) rfl) ?_
      refine AH_did 6 rfl (by kernel_rfl) (by kernel_rfl) (by kernel_rfl) rfl rfl (dA_index (eQ y) rfl rfl rfl rfl rfl rfl rfl (by omega) (by (try simp); omega) (map_at (by simpa using hyi)) rfl) ?_
      refine drn [3, 7] (by kernel_rfl) (by kernel_rfl) rfl rfl ?_
      refine AH_one (i := 8) (by kernel_rfl) (step_call [] rfl rfl rfl rfl rfl rfl (eqParam_ct x y)) (by simp) ?_
      rintro σ2 ⟨r, o', ⟨rfl, rfl⟩, hσ⟩
      obtain rfl := Option.some.inj hσ
      clear hσ
      refine drn [9] (by kernel_rfl) (by kernel_rfl) rfl rfl ?_
      refine AH_end (by kernel_rfl) ?_
      refine rn rfl ?_
      have hstep := take_eq_step hpre hxi hyi
      refine goal_cond rfl (fun h2 => ?_) (fun h2 => ?_) <;> simp only [bne_iff_ne, ne_eq, bne_eq_false_iff_eq, Bool.not_eq_true', Bool.not_eq_false', decide_eq_true_eq, decide_eq_false_iff_not, beq_iff_eq, beq_eq_false_iff_ne] at h2
      · refine rn rfl ?_
        refine round_ret (fin_is [] rfl ⟨?_, rfl⟩)
        have : xs ≠ ys := fun h0 => h2 (hstep.1 (by rw [h0]))
        simp [this]
      · refine rn rfl ?_
        refine round_keep (xs.length - (i + 1)) [5, 1, 0] [] (by omega) rfl ⟨_, i + 1, ?_, by omega, rfl, hstep.2 h2, rfl⟩
        exact wrap64 (by omega) (by omega)
    · refine rn rfl ?_
      refine round_ext ?_
      refine rn rfl (fin_is [] rfl ⟨?_, rfl⟩)
      rw [show i = xs.length by omega, List.take_length, hlen, List.take_length] at hpre
      simp [hpre]

theorem eqSig_ct (s : Sig) (hs : s.length ≤ 16777216) : ACalls pk 28 [.agg (eG s), .agg (eG s)] [] (fun r o => r = .one (.bool true) ∧ o = []) := by
  refine acalls_of_body Tryd.func28 rfl (by kernel_rfl) rfl ?_
  refine rn rfl ?_
  refine goal_step (step_call [] rfl rfl rfl rfl rfl rfl (eqParamS_ct s s (by omega))) ?_
  rintro σ2 ⟨r, o', ⟨rfl, rfl⟩, hσ⟩
  obtain rfl := Option.some.inj hσ
  clear hσ
  refine rn rfl ?_
  refine goal_cond rfl (fun h2 => by simp at h2) (fun _ => ?_)
  exact rn rfl (fin_is [] rfl ⟨rfl, rfl⟩)

theorem asG (s : Sig) : T.agg [C.fs (List.take s.length (List.drop 0 (s.map eQ)))] = T.agg (eG s) := by
  rw [takeAll eQ _ _ rfl]; rfl

theorem toSigD_ct (s : Sig) (h0 : s.length ≤ 16777216) : ACalls pk 22 [.agg (eG s)] [] (fun r o => r = .agg (eG s) ∧ o = []) :=
  (toSig_ct s h0).told [] (by rintro r o ⟨rfl, rfl⟩; exact ⟨_, _, rfl, asG s, rfl⟩)

theorem eU_len (f : Fnc) : (eU f).length = 2 := rfl

theorem eU_noOwn (f : Fnc) : noOwnL (eU f) = true := rfl

def uIs (n : Str) (f : Fnc) : Bool := f.name == n

theorem lookC_ct (f : Fnc) (n : Str) : ACalls pk 35 [.agg (eU f), .one (.fp [.str n])] [] (fun r o => r = .one (.bool (uIs n f)) ∧ o = []) := by
  refine acalls_of_body Tryd.func35 rfl (by kernel_rfl) rfl ?_
  refine rn rfl ?_
  exact rn rfl (fin_is [] rfl ⟨rfl, rfl⟩)

theorem indexU_ct (xs : List Fnc) (hb : xs.length ≤ 9223372036854775807) (pred : Fnc → Bool) (f : FuncId) (cs : List C)
    (hcl : ∀ p, ACalls pk f [.agg (eU p), .one (.fp cs)] [] (fun r o => r = .one (.bool (pred p)) ∧ o = [])) :
    ACalls pk 34 [.one (.fs (xs.map eU)), .one (.fn f [.fp cs])] [] (fun r o => r = .one (.int .i64 (idxI pred xs 0)) ∧ o = []) := by
  refine acalls_of_body Tryd.func34 rfl (by kernel_rfl) rfl ?_
  refine rn rfl ?_
  refine goal_loop_keep (fun m σ => ∃ (n L : Int) (i : Nat), n = i ∧ L = xs.length ∧ i ≤ xs.length ∧ m = xs.length - i ∧ idxI pred xs 0 = idxI pred (xs.drop i) i ∧
      σ = ⟨[(8, .one (.int .i64 n)), (7, .one (.int .i64 L)), (1, .one (.fn f [.fp cs])), (0, .one (.fs (xs.map eU)))], [], []⟩) xs.length [8, 7, 1, 0] [] rfl
    ⟨_, _, 0, rfl, by simp, by omega, by omega, by simp, rfl⟩ ?_
  rintro m σ ⟨n, L, i, rfl, rfl, hi, rfl, hidx, rfl⟩
  refine rn rfl ?_
  refine goal_cond rfl (fun h => ?_) (fun h => ?_) <;> (try simp only [gt_iff_lt, ge_iff_le, bne_iff_ne, ne_eq, bne_eq_false_iff_eq, beq_iff_eq, beq_eq_false_iff_ne, Bool.not_eq_true', Bool.not_eq_false', decide_eq_true_eq, decide_eq_false_iff_not, List.length_map] at h)
  · obtain ⟨p, hp⟩ := at_some (xs := xs) (i := i) (by omega)
    refine rn rfl ?_
    refine goal_did rfl rfl (dA_index (eU p) rfl rfl rfl rfl rfl rfl rfl (by omega) (by (try simp); omega) (map_at (by simpa using hp)) rfl) ?_
    refine rn rfl ?_
    refine goal_step (step_call [] rfl rfl rfl rfl rfl rfl (hcl p)) ?_
    rintro σ2 ⟨r, o', ⟨rfl, rfl⟩, hσ⟩
    obtain rfl := Option.some.inj hσ
    clear hσ
    refine rn rfl ?_
    refine goal_cond rfl (fun h2 => ?_) (fun h2 => ?_)
    · refine rn rfl (round_ret (fin_is [] rfl ⟨?_, rfl⟩))
      rw [hidx, drop_at hp]; simp [idxI, h2]
    · refine rn rfl ?_
      refine round_keep (xs.length - (i + 1)) [8, 7, 1, 0] [] (by omega) rfl ⟨_, _, i + 1, wrap64 (by omega) (by omega), rfl, by omega, rfl, ?_, rfl⟩
      rw [hidx, drop_at hp]; simp [idxI, h2]
  · refine rn rfl (round_ext ?_)
    refine rn rfl (fin_is [] rfl ⟨?_, rfl⟩)
    rw [hidx, List.drop_eq_nil_of_le (by omega)]; rfl

theorem lookUp_ct (l : List Fnc) (n : Str) (hb : l.length ≤ 9223372036854775807) : ACalls pk 23 [.one (.fs (l.map eU)), .one (.str n)] [] (fun r o => r = .one (.int .i64 (idxI (uIs n) l 0)) ∧ o = []) := by
  refine acalls_of_body Tryd.func23 rfl (by kernel_rfl) rfl ?_
  refine rn rfl ?_
  refine goal_step (step_call [] rfl rfl rfl rfl rfl rfl (indexU_ct l hb (uIs n) _ _ (fun p => lookC_ct p n))) ?_
  rintro σ2 ⟨r, o', ⟨rfl, rfl⟩, hσ⟩
  obtain rfl := Option.some.inj hσ
  clear hσ
  refine rn rfl ?_
  exact rn rfl (fin_is [] rfl ⟨rfl, rfl⟩)

theorem sfindFunc_ct (xs : List Fnc) (n : Str) (hb : xs.length ≤ 9223372036854775807) :
    ACalls pk 20 [.one (.fs (xs.map eU)), .one (.str n)] [] (fun r o => r = .one (.int .i64 (idxI (uIs n) xs 0)) ∧ o = []) := by
  refine acalls_of_body Tryd.func20 rfl (by kernel_rfl) rfl ?_
  refine rn rfl ?_
  refine goal_loop_keep (fun m σ => ∃ (q : Int) (i : Nat), q = i ∧ i ≤ xs.length ∧ m = xs.length - i ∧ idxI (uIs n) xs 0 = idxI (uIs n) (xs.drop i) i ∧
      σ = ⟨[(5, .one (.int .i64 q)), (1, .one (.str n)), (0, .one (.fs (xs.map eU)))], [], []⟩) xs.length [5, 1, 0] [] rfl
    ⟨_, 0, rfl, by omega, by omega, by simp, rfl⟩ ?_
  rintro m σ ⟨q, i, rfl, hi, rfl, hidx, rfl⟩
  refine rn rfl ?_
  refine goal_cond rfl (fun h => ?_) (fun h => ?_) <;> (try simp only [gt_iff_lt, ge_iff_le, bne_iff_ne, ne_eq, bne_eq_false_iff_eq, beq_iff_eq, beq_eq_false_iff_ne, Bool.not_eq_true', Bool.not_eq_false', decide_eq_true_eq, decide_eq_false_iff_not, List.length_map] at h)
  · obtain ⟨p, hp⟩ := at_some (xs := xs) (i := i) (by omega)
    refine rn rfl ?_
    refine goal_did rfl rfl (dA_index (eU p) rfl rfl rfl rfl rfl rfl rfl (by omega) (by (try simp); omega) (map_at (by simpa using hp)) rfl) ?_
    refine rn rfl ?_
    refine goal_cond rfl (fun h2 => ?_) (fun h2 => ?_) <;> (try simp only [gt_iff_lt, ge_iff_le, bne_iff_ne, ne_eq, bne_eq_false_iff_eq, beq_iff_eq, beq_eq_false_iff_ne, Bool.not_eq_true', Bool.not_eq_false', decide_eq_true_eq, decide_eq_false_iff_not, List.length_map] at h2)
    · refine rn rfl (round_ret (fin_is [] rfl ⟨?_, rfl⟩))
      rw [hidx, drop_at hp]; simp [idxI, uIs, h2]
    · refine rn rfl ?_
      refine round_keep (xs.length - (i + 1)) [5, 1, 0] [] (by omega) rfl ⟨_, i + 1, wrap64 (by omega) (by omega), by omega, rfl, ?_, rfl⟩
      rw [hidx, drop_at hp]; simp [idxI, uIs, h2]
  · refine rn rfl (round_ext ?_)
    refine rn rfl (fin_is [] rfl ⟨?_, rfl⟩)
    rw [hidx, List.drop_eq_nil_of_le (by omega)]; rfl

structure LenT (l : List Fnc) : Prop where
  len : l.length ≤ 1048576
  fns : ∀ f ∈ l, LenU f

def goodAt (l : List Fnc) (j : Nat) : Bool := match l[j]? with
  | some f => okU f && !((l.take j).any (uIs f.name))
  | none => true

def okT (l : List Fnc) : Bool := (List.range l.length).all (goodAt l) && decide (l.length ≤ 5)

def TabT (l : List Fnc) : Str := (l.map fun f => FuT f ++ [10]).flatten

def TabF (l : List Fnc) : Str := if okT l = true then TabT l else []

theorem goodAt_at {l : List Fnc} {j : Nat} {f : Fnc} (h : l[j]? = some f) : goodAt l j = (okU f && !((l.take j).any (uIs f.name))) := by unfold goodAt; rw [h]

theorem okT_no {l : List Fnc} {j : Nat} (hj : j < l.length) (h : goodAt l j = false) : okT l = false := by
  unfold okT
  have : (List.range l.length).all (goodAt l) = false := by
    rw [List.all_eq_false]; exact ⟨j, List.mem_range.2 hj, by simp [h]⟩
  rw [this]; rfl

theorem okT_end {l : List Fnc} (h : ∀ j, j < l.length → goodAt l j = true) : okT l = decide (l.length ≤ 5) := by
  unfold okT
  have : (List.range l.length).all (goodAt l) = true := by
    rw [List.all_eq_true]; exact fun j hj => h j (List.mem_range.1 hj)
  rw [this]; rfl

theorem okT_parts {l : List Fnc} (h : okT l = true) : l.length ≤ 5 ∧ ∀ f ∈ l, okU f = true := by
  unfold okT at h
  simp only [Bool.and_eq_true, List.all_eq_true, decide_eq_true_eq] at h
  refine ⟨h.2, fun f hf => ?_⟩
  obtain ⟨j, hj⟩ := List.getElem?_of_mem hf
  have := h.1 j (List.mem_range.2 (lt_of_some hj))
  rw [goodAt_at hj] at this
  simp only [Bool.and_eq_true] at this
  exact this.1

theorem FuF_nil {f : Fnc} : (FuF f == []) = !okU f := by
  unfold FuF
  cases h : okU f with
  | true => simp [FuT]
  | false => rfl

theorem ivalidTable_ct (l : List Fnc) (hl : LenT l) : ACalls pk 13 [.one (.fs (l.map eU))] [] (fun r o => r = .one (.bool (okT l)) ∧ o = []) := by
  have h20 := hl.len
  refine acalls_of_body Tryd.func13 rfl (by kernel_rfl) rfl ?_
  refine rn rfl ?_
  refine goal_loop_keep (fun m σ => ∃ (n L : Int) (i : Nat), n = i ∧ L = l.length ∧ i ≤ l.length ∧ m = l.length - i ∧ (∀ j, j < i → goodAt l j = true) ∧
      σ = ⟨[(7, .one (.int .i64 n)), (6, .one (.int .i64 L)), (5, .one (.fs (l.map eU))), (2, .one (.bool false)), (0, .one (.fs (l.map eU)))], [], []⟩) l.length [7, 6, 5, 2, 0] [] rfl
    ⟨_, _, 0, rfl, by simp, by omega, by omega, fun j hj => by omega, rfl⟩ ?_
  rintro m σ ⟨n, L, i, rfl, rfl, hi, rfl, hg, rfl⟩
  refine rn rfl ?_
  refine goal_cond rfl (fun h => ?_) (fun h => ?_) <;> (try simp only [gt_iff_lt, ge_iff_le, bne_iff_ne, ne_eq, bne_eq_false_iff_eq, beq_iff_eq, beq_eq_false_iff_ne, Bool.not_eq_true', Bool.not_eq_false', decide_eq_true_eq, decide_eq_false_iff_not, List.length_map] at h)
  · obtain ⟨f, hf⟩ := at_some (xs := l) (i := i) (by omega)
    have hfm := hl.fns f (List.mem_of_getElem? hf)
    have hnil := FuF_nil (f := f)
    have hga := goodAt_at hf
    have hT := iFuncText_ct f hfm
    generalize FuF f = t at *
    refine rn rfl ?_
    refine goal_did rfl rfl (dA_index (eU f) rfl rfl rfl rfl rfl rfl rfl (by omega) (by (try simp); omega) (map_at (by simpa using hf)) rfl) ?_
    refine rn rfl ?_
    refine goal_draw' [0] 12 rfl ?_
    refine drn [0] (by kernel_rfl) (by kernel_rfl) rfl rfl ?_
    refine AH_one (i := 1) (by kernel_rfl) (step_call [] rfl rfl rfl rfl rfl rfl (hT)) (by simp) ?_
    rintro σ2 ⟨r, o', ⟨rfl, rfl⟩, hσ⟩
    obtain rfl := Option.some.inj hσ
    clear hσ
    refine drn [2, 3] (by kernel_rfl) (by kernel_rfl) rfl rfl ?_
    refine AH_guard (i := 4) rfl rfl rfl (fun h1 => ?_) (fun h1 => ?_) <;> (try simp only [gt_iff_lt, ge_iff_le, bne_iff_ne, ne_eq, bne_eq_false_iff_eq, beq_iff_eq, beq_eq_false_iff_ne, Bool.not_eq_true', Bool.not_eq_false', decide_eq_true_eq, decide_eq_false_iff_not, List.length_map] at h1)
    · have hu : okU f = false := by
        rw [show (t == []) = true by simp [h1]] at hnil
        simpa using hnil
      rw [hu, Bool.false_and] at hga
      have hno := okT_no (lt_of_some hf) hga
      refine drn [4, 5, 6, 7, 8, 9, 10, 11] (by kernel_rfl) (by kernel_rfl) rfl rfl ?_
      refine AH_end (by kernel_rfl) ?_
      refine rn rfl ?_
      refine rn rfl ?_
      refine round_ret (fin_is [] rfl ⟨?_, rfl⟩)
      rw [hno]
    · have hu : okU f = true := by
        rw [show (t == []) = false by simp [h1]] at hnil
        simpa using hnil
      rw [hu, Bool.true_and] at hga
      refine drn [4, 5, 7, 8] (by kernel_rfl) (by kernel_rfl) rfl rfl ?_
      refine AH_did 6 rfl (by kernel_rfl) (by kernel_rfl) (by kernel_rfl) rfl rfl (dA_slice 0 i ((l.take i).map eU) rfl rfl rfl rfl rfl Bnd.none_ (Bnd.some_ rfl rfl) (rows_len eU_len _) (by omega) (by simp; omega) rfl (by simp)) ?_
      refine AH_one (i := 9) (by kernel_rfl) (step_call [] rfl rfl rfl rfl rfl rfl (lookUp_ct (l.take i) f.name (by simp; omega))) (by simp) ?_
      rintro σ2 ⟨r, o', ⟨rfl, rfl⟩, hσ⟩
      obtain rfl := Option.some.inj hσ
      clear hσ
      refine drn [10, 11] (by kernel_rfl) (by kernel_rfl) rfl rfl ?_
      refine AH_end (by kernel_rfl) ?_
      refine rn rfl ?_
      cases ha : (l.take i).any (uIs f.name) with
      | true =>
        have hge : 0 ≤ idxI (uIs f.name) (l.take i) 0 := idxI_ge.2 ha
        rw [ha] at hga
        have hno := okT_no (lt_of_some hf) hga
        refine goal_cond rfl (fun _ => ?_) (fun h2 => by simp at h2; omega)
        refine rn rfl ?_
        refine round_ret (fin_is [] rfl ⟨?_, rfl⟩)
        rw [hno]
      | false =>
        have hge : idxI (uIs f.name) (l.take i) 0 = -1 := idxI_none.2 ha
        rw [ha] at hga
        rw [hge]
        refine goal_cond rfl (fun h2 => by simp at h2) (fun _ => ?_)
        refine rn rfl ?_
        refine round_keep (l.length - (i + 1)) [7, 6, 5, 2, 0] [] (by omega) rfl ⟨_, _, i + 1, wrap64 (by omega) (by omega), rfl, by omega, rfl, fun j hj => ?_, rfl⟩
        by_cases hji : j < i
        · exact hg j hji
        · rw [show j = i by omega]; exact hga
  · refine rn rfl ?_
    refine round_ext ?_
    refine rn rfl (fin_is [] rfl ⟨?_, rfl⟩)
    rw [okT_end fun j hj => hg j (by omega), List.length_map]
    congr 2
    rw [decide_eq_decide]
    omega

theorem svalidTable_ct (l : List Fnc) (hl : LenT l) : ACalls pk 10 [.one (.fs (l.map eU))] [] (fun r o => r = .one (.bool (okT l)) ∧ o = []) := by
  have h20 := hl.len
  refine acalls_of_body Tryd.func10 rfl (by kernel_rfl) rfl ?_
  refine rn rfl ?_
  refine goal_loop_keep (fun m σ => ∃ (n : Int) (i : Nat), n = i ∧ i ≤ l.length ∧ m = l.length - i ∧ (∀ j, j < i → goodAt l j = true) ∧
      σ = ⟨[(3, .one (.int .i64 n)), (2, .one (.bool false)), (0, .one (.fs (l.map eU)))], [], []⟩) l.length [3, 2, 0] [] rfl
    ⟨_, 0, rfl, by omega, by omega, fun j hj => by omega, rfl⟩ ?_
  rintro m σ ⟨n, i, rfl, hi, rfl, hg, rfl⟩
  refine rn rfl ?_
  refine goal_cond rfl (fun h => ?_) (fun h => ?_) <;> (try simp only [gt_iff_lt, ge_iff_le, bne_iff_ne, ne_eq, bne_eq_false_iff_eq, beq_iff_eq, beq_eq_false_iff_ne, Bool.not_eq_true', Bool.not_eq_false', decide_eq_true_eq, decide_eq_false_iff_not, List.length_map] at h)
  · obtain ⟨f, hf⟩ := at_some (xs := l) (i := i) (by omega)
    have hfm := hl.fns f (List.mem_of_getElem? hf)
    have hga := goodAt_at hf
    have hT := svalidFunc_ct f hfm
    refine rn rfl ?_
    refine goal_draw' [] 18 rfl ?_
    refine drn [0, 1] (by kernel_rfl) (by kernel_rfl) rfl rfl ?_
    refine AH_did 2 rfl (by kernel_rfl) (by kernel_rfl) (by kernel_rfl) rfl rfl (dA_index (eU f) rfl rfl rfl rfl rfl rfl rfl (by omega) (by (try simp); omega) (map_at (by simpa using hf)) rfl) ?_
    refine drn [3] (by kernel_rfl) (by kernel_rfl) rfl rfl ?_
    refine AH_one (i := 4) (by kernel_rfl) (step_call [] rfl rfl rfl rfl rfl rfl (hT)) (by simp) ?_
    rintro σ2 ⟨r, o', ⟨rfl, rfl⟩, hσ⟩
    obtain rfl := Option.some.inj hσ
    clear hσ
    refine drn [5, 6] (by kernel_rfl) (by kernel_rfl) rfl rfl ?_
    refine AH_guard (i := 7) rfl rfl rfl (fun h1 => ?_) (fun h1 => ?_) <;> (try simp only [gt_iff_lt, ge_iff_le, bne_iff_ne, ne_eq, bne_eq_false_iff_eq, beq_iff_eq, beq_eq_false_iff_ne, Bool.not_eq_true', Bool.not_eq_false', decide_eq_true_eq, decide_eq_false_iff_not, List.length_map] at h1)
    · have hu : okU f = false := by simpa using h1
      rw [hu, Bool.false_and] at hga
      have hno := okT_no (lt_of_some hf) hga
      refine drn [7, 8, 9, 10, 11, 12, 13, 14, 15, 16, 17] (by kernel_rfl) (by kernel_rfl) rfl rfl ?_
      refine AH_end (by kernel_rfl) ?_
      refine rn rfl ?_
      refine rn rfl ?_
      refine round_ret (fin_is [] rfl ⟨?_, rfl⟩)
      rw [hno]
    · have hu : okU f = true := by simpa using h1
      rw [hu, Bool.true_and] at hga
      refine drn [7, 8, 10, 11] (by kernel_rfl) (by kernel_rfl) rfl rfl ?_
      refine AH_did 9 rfl (by kernel_rfl) (by kernel_rfl) (by kernel_rfl) rfl rfl (dA_slice 0 i ((l.take i).map eU) rfl rfl rfl rfl rfl Bnd.none_ (Bnd.some_ rfl rfl) (rows_len eU_len _) (by omega) (by simp; omega) rfl (by simp)) ?_
      refine AH_did 12 rfl (by kernel_rfl) (by kernel_rfl) (by kernel_rfl) rfl rfl (dA_index (eU f) rfl rfl rfl rfl rfl rfl rfl (by omega) (by (try simp); omega) (map_at (by simpa using hf)) rfl) ?_
      refine drn [13, 14] (by kernel_rfl) (by kernel_rfl) rfl rfl ?_
      refine AH_one (i := 15) (by kernel_rfl) (step_call [] rfl rfl rfl rfl rfl rfl (sfindFunc_ct (l.take i) f.name (by simp; omega))) (by simp) ?_
      rintro σ2 ⟨r, o', ⟨rfl, rfl⟩, hσ⟩
      obtain rfl := Option.some.inj hσ
      clear hσ
      refine drn [16, 17] (by kernel_rfl) (by kernel_rfl) rfl rfl ?_
      refine AH_end (by kernel_rfl) ?_
      refine rn rfl ?_
      cases ha : (l.take i).any (uIs f.name) with
      | true =>
        have hge : 0 ≤ idxI (uIs f.name) (l.take i) 0 := idxI_ge.2 ha
        rw [ha] at hga
        have hno := okT_no (lt_of_some hf) hga
        refine goal_cond rfl (fun _ => ?_) (fun h2 => by simp at h2; omega)
        refine rn rfl ?_
        refine round_ret (fin_is [] rfl ⟨?_, rfl⟩)
        rw [hno]
      | false =>
        have hge : idxI (uIs f.name) (l.take i) 0 = -1 := idxI_none.2 ha
        rw [ha] at hga
        rw [hge]
        refine goal_cond rfl (fun h2 => by simp at h2) (fun _ => ?_)
        refine rn rfl ?_
        refine round_keep (l.length - (i + 1)) [3, 2, 0] [] (by omega) rfl ⟨_, i + 1, wrap64 (by omega) (by omega), by omega, rfl, fun j hj => ?_, rfl⟩
        by_cases hji : j < i
        · exact hg j hji
        · rw [show j = i by omega]; exact hga
  · refine rn rfl ?_
    refine round_ext ?_
    refine rn rfl (fin_is [] rfl ⟨?_, rfl⟩)
    rw [okT_end fun j hj => hg j (by omega), List.length_map]
    congr 2
    rw [decide_eq_decide]
    omega

theorem TabT_snoc (l : List Fnc) (f : Fnc) : TabT (l ++ [f]) = TabT l ++ (FuT f ++ [10]) := by unfold TabT; simp

theorem FuT_len {f : Fnc} (h : okU f = true) : (FuT f).length ≤ 1100 := by
  have := nameLen (Bool.and_eq_true_iff.1 h).1
  have := SgF_le f.sig
  unfold FuT
  simp
  omega

theorem TabT_len : ∀ (l : List Fnc), (∀ f ∈ l, okU f = true) → (TabT l).length ≤ 1101 * l.length
  | [], _ => by simp [TabT]
  | f :: l, h => by
    have h1 := FuT_len (h f (by simp))
    have h2 := TabT_len l (fun g hg => h g (by simp [hg]))
    have e : TabT (f :: l) = FuT f ++ [10] ++ TabT l := by unfold TabT; simp
    rw [e]
    simp only [List.length_append, List.length_cons, List.length_nil]
    omega

theorem stableText_ct (l : List Fnc) (h : okT l = true) : ACalls pk 11 [.one (.fs (l.map eU))] [] (fun r o => r = .one (.str (TabT l)) ∧ o = []) := by
  obtain ⟨h5, hok⟩ := okT_parts h
  refine acalls_of_body Tryd.func11 rfl (by kernel_rfl) rfl ?_
  refine rn rfl ?_
  refine goal_loop_keep (fun m σ => ∃ (n : Int) (i : Nat) (t : Str), n = i ∧ i ≤ l.length ∧ m = l.length - i ∧ t = TabT (l.take i) ∧
      σ = ⟨[(4, .one (.int .i64 n)), (3, .one (.str t)), (0, .one (.fs (l.map eU)))], [], []⟩) l.length [4, 3, 0] [] rfl
    ⟨_, 0, [], rfl, by omega, by omega, rfl, rfl⟩ ?_
  rintro m σ ⟨n, i, t, rfl, hi, rfl, ht, rfl⟩
  refine rn rfl ?_
  refine goal_cond rfl (fun hc => ?_) (fun hc => ?_) <;> (try simp only [gt_iff_lt, ge_iff_le, bne_iff_ne, ne_eq, bne_eq_false_iff_eq, beq_iff_eq, beq_eq_false_iff_ne, Bool.not_eq_true', Bool.not_eq_false', decide_eq_true_eq, decide_eq_false_iff_not, List.length_map] at hc)
  · obtain ⟨f, hf⟩ := at_some (xs := l) (i := i) (by omega)
    have hu := hok f (List.mem_of_getElem? hf)
    have hfl := FuT_len hu
    have htl : t.length ≤ 1101 * 5 := by
      rw [ht]
      have := TabT_len (l.take i) (fun g hg => hok g (List.mem_of_mem_take hg))
      simp only [List.length_take] at this
      omega
    refine rn rfl ?_
    refine goal_did rfl rfl (dA_index (eU f) rfl rfl rfl rfl rfl rfl rfl (by omega) (by (try simp); omega) (map_at (by simpa using hf)) rfl) ?_
    refine rn rfl ?_
    refine goal_step (step_call [] rfl rfl rfl rfl rfl rfl (sfuncText_ct f hu)) ?_
    rintro σ2 ⟨r, o', ⟨rfl, rfl⟩, hσ⟩
    obtain rfl := Option.some.inj hσ
    clear hσ
    refine rn rfl ?_
    refine goal_did rfl rfl (dA_concat (t ++ FuT f) rfl rfl rfl (by (try simp); omega) rfl rfl) ?_
    refine rn rfl ?_
    refine goal_did rfl rfl (dA_concat (t ++ FuT f ++ [10]) rfl rfl rfl (by (try simp); omega) rfl rfl) ?_
    refine rn rfl ?_
    refine rn rfl ?_
    refine round_keep (l.length - (i + 1)) [4, 3, 0] [] (by omega) rfl ⟨_, i + 1, _, wrap64 (by omega) (by omega), by omega, rfl, ?_, rfl⟩
    rw [← take_snoc hf, TabT_snoc, ht, List.append_assoc]
  · rw [show i = l.length by omega, List.take_length] at ht
    subst ht
    refine rn rfl ?_
    refine round_ext ?_
    exact rn rfl (fin_is [] rfl ⟨rfl, rfl⟩)

theorem sTableText_ct (l : List Fnc) (hl : LenT l) : ACalls pk 5 [.one (.fs (l.map eU))] [] (fun r o => r = .one (.str (TabF l)) ∧ o = []) := by
  refine acalls_of_body Tryd.func5 rfl (by kernel_rfl) rfl ?_
  refine rn rfl ?_
  refine goal_step (step_call [] rfl rfl rfl rfl rfl rfl (svalidTable_ct l hl)) ?_
  rintro σ2 ⟨r, o', ⟨rfl, rfl⟩, hσ⟩
  obtain rfl := Option.some.inj hσ
  clear hσ
  refine rn rfl ?_
  cases ho : okT l with
  | false =>
    have e : TabF l = [] := by unfold TabF; rw [ho]; rfl
    rw [e]
    refine goal_cond rfl (fun _ => ?_) (fun h => by simp at h)
    exact rn rfl (fin_is [] rfl ⟨rfl, rfl⟩)
  | true =>
    have e : TabF l = TabT l := by unfold TabF; rw [ho]; rfl
    rw [e]
    refine goal_cond rfl (fun h => by simp at h) (fun _ => ?_)
    refine rn rfl ?_
    refine goal_step (step_call [] rfl rfl rfl rfl rfl rfl (stableText_ct l ho)) ?_
    rintro σ2 ⟨r, o', ⟨rfl, rfl⟩, hσ⟩
    obtain rfl := Option.some.inj hσ
    clear hσ
    refine rn rfl ?_
    exact rn rfl (fin_is [] rfl ⟨rfl, rfl⟩)

section
open Go Go.ChangeShapes
structure FitsU (f : Fnc) : Prop where
  name : f.name.length ≤ 9223372036854775807
  sig : FitsS f.sig

structure FitsT (l : List Fnc) : Prop where
  len : l.length ≤ 9223372036854775807
  fns : ∀ f ∈ l, FitsU f

theorem openFunc : Opens pk.P 34 eU FitsU :=
  Opens.map (xo_struct (α := Str × Sig × Unit) rfl rfl (fun _ => rfl) (opensF_cons (off' := 1) (xo_str rfl rfl) (fun _ => rfl) (by omega) (opensF_cons (off' := 2) openSig (fun _ => rfl) (by omega) opensF_nil)))
    (fun x => ⟨x.1, x.2.1⟩) (fun _ => rfl) (fun _ h => ⟨h.1, h.2.1⟩)

theorem openFuncs : Opens pk.P 22 (fun l : List Fnc => [.fs (l.map eU)]) FitsT :=
  Opens.map (xo_slice rfl rfl rfl rfl (fun _ => rfl) openFunc) (fun x => x) (fun _ => rfl) (fun _ h => ⟨h.1, h.2⟩)

def szU (f : Fnc) (k : Int) : Int := if szLen f.name.length k < 0 then -1 else szParamS f.sig (szLen f.name.length k)

theorem szFunc_ct (f : Fnc) (k : Int) (hk : 0 ≤ k) (hk' : k ≤ 1048576) (hf : FitsU f) : ACalls pk 9 [.agg (eU f), .one (.int .i64 k)] [] (fun r o => r = .one (.int .i64 (szU f k)) ∧ o = []) := by
  have h1 := hf.name
  refine acalls_of_body Tryd.func9 rfl (by kernel_rfl) rfl ?_
  refine rn rfl ?_
  have hw := wrap64 (n := k - f.name.length) (by omega) (by omega)
  refine goal_cond rfl (fun h => ?_) (fun h => ?_) <;> simp only [decide_eq_true_eq, decide_eq_false_iff_not, hw] at h
  · refine rn rfl (fin_is [] rfl ⟨?_, rfl⟩)
    simp only [szU, szLen, h, if_true]
    rfl
  · have e : szLen f.name.length k = k - f.name.length := by simp only [szLen, h, if_false]
    have e2 : szU f k = szParamS f.sig (k - f.name.length) := by unfold szU; rw [e, if_neg h]
    rw [e2]
    refine rn rfl ?_
    refine goal_step (step_callE [] rfl rfl rfl rfl rfl rfl ((by rw [hw]; rfl)) (szSig_ct f.sig (k - f.name.length) (by omega) (by omega) hf.sig)) ?_
    rintro σ2 ⟨r, o', ⟨rfl, rfl⟩, hσ⟩
    obtain rfl := Option.some.inj hσ
    clear hσ
    refine rn rfl ?_
    refine goal_cond rfl (fun h => ?_) (fun h => ?_) <;> simp only [decide_eq_true_eq, decide_eq_false_iff_not] at h
    · refine rn rfl (fin_is [] rfl ⟨?_, rfl⟩)
      rw [szParamS_neg (by omega) h]
    · exact rn rfl (fin_is [] rfl ⟨rfl, rfl⟩)

theorem szU_le {f : Fnc} {k : Int} (hk : 0 ≤ k) : szU f k ≤ k ∧ (szU f k < 0 → szU f k = -1) ∧ (¬ szU f k < 0 → (f.sig.length : Int) ≤ k) := by
  unfold szU
  have h1 := szLen_le f.name.length k hk
  split
  · omega
  · rename_i h2
    refine ⟨?_, fun h => szParamS_neg (by omega) h, fun h => ?_⟩
    · by_cases h3 : szParamS f.sig (szLen f.name.length k) < 0
      · omega
      · have := szParamS_ok (by omega) h3; omega
    · have := szParamS_ok (by omega) h; omega

def szAllU : List Fnc → Int → Int
  | [], k => k
  | f :: l, k => if szU f k < 0 then -1 else szAllU l (szU f k)

def szUS (l : List Fnc) (k : Int) : Int := if szLen l.length k < 0 then -1 else szAllU l (szLen l.length k)

theorem szAllU_ok : ∀ (l : List Fnc) (k : Int), 0 ≤ k → ¬ szAllU l k < 0 → ∀ f ∈ l, (f.sig.length : Int) ≤ k
  | [], _, _, _ => by simp
  | f :: l, k, hk, h => by
    unfold szAllU at h
    obtain ⟨h1, h2, h3⟩ := szU_le (f := f) hk
    split at h
    · omega
    · rename_i hn
      intro g hg
      rcases List.mem_cons.1 hg with rfl | hg
      · exact h3 hn
      · have := szAllU_ok l _ (by omega) h g hg; omega

theorem szUS_ok {l : List Fnc} {k : Int} (hk : 0 ≤ k) (h : ¬ szUS l k < 0) : (l.length : Int) ≤ k ∧ ∀ f ∈ l, (f.sig.length : Int) ≤ k := by
  unfold szUS at h
  split at h
  · omega
  · rename_i h1
    have e1 := szLen_ok h1
    have e2 := szLen_le l.length k hk
    refine ⟨by omega, fun f hf => ?_⟩
    have := szAllU_ok l _ (by omega) h f hf
    omega

theorem szFuncS_ct (l : List Fnc) (k : Int) (hk : 0 ≤ k) (hk' : k ≤ 1048576) (hl : FitsT l) :
    ACalls pk 4 [.one (.fs (l.map eU)), .one (.int .i64 k)] [] (fun r o => r = .one (.int .i64 (szUS l k)) ∧ o = []) := by
  have hll := hl.len
  refine acalls_of_body Tryd.func4 rfl (by kernel_rfl) rfl ?_
  refine rn rfl ?_
  have hw := wrap64 (n := k - l.length) (by omega) (by omega)
  refine goal_cond rfl (fun h => ?_) (fun h => ?_) <;> simp only [decide_eq_true_eq, decide_eq_false_iff_not, List.length_map, hw] at h
  · refine rn rfl (fin_is [] rfl ⟨?_, rfl⟩)
    simp [szUS, szLen, h]
  · refine rn rfl ?_
    have hs : szLen l.length k = k - l.length := by simp only [szLen, h, if_false]
    refine goal_loop_keep (fun m σ => ∃ (n q : Int) (i : Nat), n = i ∧ i ≤ l.length ∧ m = l.length - i ∧ 0 ≤ q ∧ q ≤ 1048576 ∧ szUS l k = szAllU (l.drop i) q ∧
        σ = ⟨[(5, .one (.int .i64 n)), (1, .one (.int .i64 q)), (0, .one (.fs (l.map eU)))], [], []⟩) l.length [5, 1, 0] [] rfl
      ⟨_, _, 0, rfl, by omega, by omega, ?_, ?_, ?_, rfl⟩ ?_
    · rw [List.length_map, hw]; omega
    · rw [List.length_map, hw]; omega
    · rw [List.length_map, hw, szUS, if_neg (by omega), hs]; rfl
    rintro m σ ⟨n, q, i, rfl, hi, rfl, hq, hq', hidx, rfl⟩
    refine rn rfl ?_
    refine goal_cond rfl (fun h => ?_) (fun h => ?_) <;> simp only [decide_eq_true_eq, decide_eq_false_iff_not, List.length_map] at h
    · obtain ⟨f, hf⟩ := at_some (xs := l) (i := i) (by omega)
      have hfm := hl.fns f (List.mem_of_getElem? hf)
      obtain ⟨z1, z2, z3⟩ := szU_le (f := f) hq
      refine rn rfl ?_
      refine goal_did rfl rfl (dA_index (eU f) rfl rfl rfl rfl rfl rfl rfl (by omega) (by (try simp); omega) (map_at (by simpa using hf)) rfl) ?_
      refine rn rfl ?_
      refine goal_step (step_call [] rfl rfl rfl rfl rfl rfl (szFunc_ct f q hq hq' hfm)) ?_
      rintro σ2 ⟨r, o', ⟨rfl, rfl⟩, hσ⟩
      obtain rfl := Option.some.inj hσ
      clear hσ
      refine rn rfl ?_
      refine rn rfl ?_
      refine goal_cond rfl (fun h2 => ?_) (fun h2 => ?_) <;> simp only [decide_eq_true_eq, decide_eq_false_iff_not] at h2
      · refine rn rfl ?_
        refine round_ret (fin_is [] rfl ⟨?_, rfl⟩)
        rw [hidx, drop_at hf]
        simp only [szAllU, h2, if_true]
      · refine rn rfl ?_
        refine round_keep (l.length - (i + 1)) [5, 1, 0] [] (by omega) rfl ⟨_, _, i + 1, ?_, by omega, rfl, by omega, ?_, ?_, rfl⟩
        · exact wrap64 (by omega) (by omega)
        · omega
        · rw [hidx, drop_at hf]
          simp only [szAllU, h2, if_false]
    · refine rn rfl ?_
      refine round_ext ?_
      refine rn rfl (fin_is [] rfl ⟨?_, rfl⟩)
      rw [hidx, List.drop_eq_nil_of_le (by omega)]
      rfl

theorem toFunc_ct (f : Fnc) (h : f.sig.length ≤ 16777216) : ACalls pk 12 [.agg (eU f)] [] (fun r o => r = .agg (eU f) ∧ o = []) := by
  refine acalls_of_body Tryd.func12 rfl (by kernel_rfl) rfl ?_
  refine rn rfl ?_
  refine goal_step (step_call [] rfl rfl rfl rfl rfl rfl (toSigD_ct f.sig h)) ?_
  rintro σ2 ⟨r, o', ⟨rfl, rfl⟩, hσ⟩
  obtain rfl := Option.some.inj hσ
  clear hσ
  refine rn rfl ?_
  exact rn rfl (fin_is [] rfl ⟨rfl, rfl⟩)

theorem eqFunc_ct (f : Fnc) (h : f.sig.length ≤ 16777216) : ACalls pk 17 [.agg (eU f), .agg (eU f)] [] (fun r o => r = .one (.bool true) ∧ o = []) := by
  refine acalls_of_body Tryd.func17 rfl (by kernel_rfl) rfl ?_
  refine rn rfl ?_
  refine goal_cond rfl (fun h => by simp at h) (fun _ => ?_)
  refine rn rfl ?_
  refine goal_step (step_call [] rfl rfl rfl rfl rfl rfl (eqSig_ct f.sig h)) ?_
  rintro σ2 ⟨r, o', ⟨rfl, rfl⟩, hσ⟩
  obtain rfl := Option.some.inj hσ
  clear hσ
  refine rn rfl ?_
  refine rn rfl ?_
  refine goal_cond rfl (fun h => by simp at h) (fun _ => ?_)
  exact rn rfl (fin_is [] rfl ⟨rfl, rfl⟩)

def rowU0 (_ : Unit) : List C := [.str [], nilSl]

def rowsU (l : List Fnc) (i : Nat) : List (List C) := (l.take i).map eU ++ (List.replicate (l.length - i) ()).map rowU0

def ownU0 (rows : List (List C)) : Option AObj := some ⟨2, rows, true, false, false⟩

theorem rowsU_len (l : List Fnc) (i : Nat) (h : i ≤ l.length) : (rowsU l i).length = l.length := by unfold rowsU; simp; omega

theorem rowsU_at {l : List Fnc} {i : Nat} {f : Fnc} (h : l[i]? = some f) : (rowsU l i)[i]? = some [.str [], nilSl] ∧ (rowsU l i).set i (eU f) = rowsU l (i + 1) := by
  have hi := lt_of_some h
  have hl : ((l.take i).map eU).length = i := by simp; omega
  have hr : (List.replicate (l.length - i) ()).map rowU0 = [.str [], nilSl] :: (List.replicate (l.length - (i + 1)) ()).map rowU0 := by
    rw [show l.length - i = (l.length - (i + 1)) + 1 by omega, List.replicate_succ]; rfl
  unfold rowsU
  rw [hr]
  constructor
  · rw [List.getElem?_append_right (by omega), hl, Nat.sub_self]; rfl
  · rw [List.set_append_right _ _ (by omega), hl, Nat.sub_self, ← take_snoc h]; simp

theorem rowsU_noOwn (l : List Fnc) (i : Nat) : noOwnR (rowsU l i) = true := by
  unfold rowsU
  have h1 := noOwnR_map _ eU_noOwn (l.take i)
  have h2 := noOwnR_map rowU0 (fun _ => rfl) (List.replicate (l.length - i) ())
  generalize (l.take i).map eU = a at *
  generalize (List.replicate (l.length - i) ()).map rowU0 = b at *
  induction a with
  | nil => simpa using h2
  | cons x a ih =>
    simp only [noOwnR, Bool.and_eq_true] at h1
    simp only [List.cons_append, noOwnR, Bool.and_eq_true]
    exact ⟨h1.1, ih h1.2⟩

theorem toFuncS_ct (l : List Fnc) (hl : l.length ≤ 16777216) (hs : ∀ f ∈ l, f.sig.length ≤ 16777216) :
    ACalls pk 6 [.one (.fs (l.map eU))] [] (fun r o => r = .one (.os 0 0 l.length l.length) ∧ o = [ownU0 (l.map eU)]) := by
  refine acalls_of_body Tryd.func6 rfl (by kernel_rfl) rfl ?_
  refine rn rfl ?_
  refine goal_did rfl rfl (dA_make l.length ((List.replicate l.length ()).map rowU0) rfl rfl rfl (by simp) (by simp) rfl rfl rfl rfl rfl (by show 40 * l.length ≤ _; omega) (by omega) (by rw [← rep_map]; rfl)) ?_
  refine rn rfl ?_
  refine goal_loop_keep (fun m σ => ∃ (n : Int) (i L : Nat) (rows : List (List C)), n = i ∧ L = l.length ∧ i ≤ l.length ∧ m = l.length - i ∧ rows = rowsU l i ∧
      σ = ⟨[(4, .one (.int .i64 n)), (3, .one (.os 0 0 L L)), (0, .one (.fs (l.map eU)))], [ownU0 rows], []⟩) l.length [4, 3, 0] [0] rfl
    ⟨_, 0, _, _, rfl, ?_, by omega, by omega, by simp [rowsU], rfl⟩ ?_
  · simp
  rintro m σ ⟨n, i, L, rows, rfl, rfl, hi, rfl, hrows, rfl⟩
  have hrl := rowsU_len l i hi
  rw [← hrows] at hrl
  refine rn rfl ?_
  refine goal_cond rfl (fun h => ?_) (fun h => ?_) <;> (try simp only [gt_iff_lt, ge_iff_le, bne_iff_ne, ne_eq, bne_eq_false_iff_eq, beq_iff_eq, beq_eq_false_iff_ne, Bool.not_eq_true', Bool.not_eq_false', decide_eq_true_eq, decide_eq_false_iff_not, List.length_map] at h)
  · obtain ⟨f, hf⟩ := at_some (xs := l) (i := i) (by omega)
    obtain ⟨r1, r2⟩ := rowsU_at hf
    rw [← hrows] at r1 r2
    refine rn rfl ?_
    refine goal_did rfl rfl (dA_index (eU f) rfl rfl rfl rfl rfl rfl rfl (by omega) (by (try simp); omega) (map_at (by simpa using hf)) rfl) ?_
    refine rn rfl ?_
    refine goal_step (step_call [] rfl rfl rfl rfl rfl rfl (toFunc_ct f (hs f (List.mem_of_getElem? hf)))) ?_
    rintro σ2 ⟨r, o', ⟨rfl, rfl⟩, hσ⟩
    obtain rfl := Option.some.inj hσ
    clear hσ
    refine rn rfl ?_
    refine goal_did rfl rfl (dA_indexOwn rfl rfl rfl rfl rfl rfl rfl rfl rfl (by omega) (by omega)) ?_
    refine goal_did rfl rfl (dA_storeEl [.str [], nilSl] (rows.set i (eU f)) true rfl rfl rfl rfl rfl (by simpa using r1) rfl rfl (by simp [eU]) (by simp [patch, eU]) (fun _ => by rw [r2]; exact rowsU_noOwn _ _)) ?_
    refine rn rfl ?_
    refine round_keep (l.length - (i + 1)) [4, 3, 0] [0] (by omega) rfl ⟨_, i + 1, l.length, rows.set i (eU f), ?_, rfl, by omega, rfl, r2, rfl⟩
    exact wrap64 (by omega) (by omega)
  · have e : rows = l.map eU := by rw [hrows, show i = l.length by omega]; unfold rowsU; simp
    rw [e]
    refine rn rfl ?_
    refine round_ext ?_
    exact rn rfl (fin_is [0] rfl ⟨rfl, rfl⟩)

theorem toFuncSD_ct (l : List Fnc) (hl : l.length ≤ 16777216) (hs : ∀ f ∈ l, f.sig.length ≤ 16777216) :
    ACalls pk 6 [.one (.fs (l.map eU))] [] (fun r o => r = .one (.fs (l.map eU)) ∧ o = []) :=
  (toFuncS_ct l hl hs).told [] (by rintro r o ⟨rfl, rfl⟩; exact ⟨_, _, rfl, by rw [takeAll eU _ _ rfl], rfl⟩)

theorem eqFuncS_ct (l : List Fnc) (hl : l.length ≤ 16777216) (hs : ∀ f ∈ l, f.sig.length ≤ 16777216) :
    ACalls pk 8 [.one (.fs (l.map eU)), .one (.fs (l.map eU))] [] (fun r o => r = .one (.bool true) ∧ o = []) := by
  refine acalls_of_body Tryd.func8 rfl (by kernel_rfl) rfl ?_
  refine rn rfl ?_
  refine goal_cond rfl (fun h => by simp at h) (fun _ => ?_)
  refine rn rfl ?_
  refine goal_loop_keep (fun m σ => ∃ (n : Int) (i : Nat), n = i ∧ i ≤ l.length ∧ m = l.length - i ∧
      σ = ⟨[(5, .one (.int .i64 n)), (1, .one (.fs (l.map eU))), (0, .one (.fs (l.map eU)))], [], []⟩) l.length [5, 1, 0] [] rfl
    ⟨_, 0, rfl, by omega, by omega, rfl⟩ ?_
  rintro m σ ⟨n, i, rfl, hi, rfl, rfl⟩
  refine rn rfl ?_
  refine goal_cond rfl (fun h => ?_) (fun h => ?_) <;> (try simp only [gt_iff_lt, ge_iff_le, bne_iff_ne, ne_eq, bne_eq_false_iff_eq, beq_iff_eq, beq_eq_false_iff_ne, Bool.not_eq_true', Bool.not_eq_false', decide_eq_true_eq, decide_eq_false_iff_not, List.length_map] at h)
  · obtain ⟨f, hf⟩ := at_some (xs := l) (i := i) (by omega)
    refine rn rfl ?_
    refine goal_draw' [] 10 rfl ?_
    refine drn [0, 1, 4, 5] (by kernel_rfl) (by kernel_rfl) rfl rfl ?_
    refine AH_did 2 rfl (by kernel_rfl) (by kernel_rfl) (by kernel_rfl) rfl rfl (dA_index (eU f) rfl rfl rfl rfl rfl rfl rfl (by omega) (by (try simp); omega) (map_at (by simpa using hf)) rfl) ?_
    refine drn [3] (by kernel_rfl) (by kernel_rfl) rfl rfl ?_
    refine AH_did 6 rfl (by kernel_rfl) (by kernel_rfl) (by kernel_rfl) rfl rfl (dA_index (eU f) rfl rfl rfl rfl rfl rfl rfl (by omega) (by (try simp); omega) (map_at (by simpa using hf)) rfl) ?_
    refine drn [7] (by kernel_rfl) (by kernel_rfl) rfl rfl ?_
    refine AH_one (i := 8) (by kernel_rfl) (step_call [] rfl rfl rfl rfl rfl rfl (eqFunc_ct f (hs f (List.mem_of_getElem? hf)))) (by simp) ?_
    rintro σ2 ⟨r, o', ⟨rfl, rfl⟩, hσ⟩
    obtain rfl := Option.some.inj hσ
    clear hσ
    refine drn [9] (by kernel_rfl) (by kernel_rfl) rfl rfl ?_
    refine AH_end (by kernel_rfl) ?_
    refine rn rfl ?_
    refine rn rfl ?_
    refine goal_cond rfl (fun h => by simp at h) (fun _ => ?_)
    refine rn rfl ?_
    refine round_keep (l.length - (i + 1)) [5, 1, 0] [] (by omega) rfl ⟨_, i + 1, wrap64 (by omega) (by omega), by omega, rfl, rfl⟩
  · refine rn rfl ?_
    refine round_ext ?_
    exact rn rfl (fin_is [] rfl ⟨rfl, rfl⟩)
end

section
open Go Go.RowKit
theorem acalls_plain2 {X : Pk} {f : FuncId} {args : List T} {Φ : T → Prop} (hc : Callable X.P f)
    (h : ∀ (D : Nat → Prop) (w : World) (vals : List Value), GlobOk w [] → (∀ b, D b → b < w.heap.size) → TRs D w.heap [] args vals → Calls X.P f vals.toArray w fun en w' => ∃ v r, en = .returned v ∧ Below w.heap.size w w' ∧ Φ r ∧ TR D w'.heap [] r v) :
    ACalls X f args [] (fun r o => Φ r ∧ o = []) := by
  refine ⟨hc, fun D e w vals hG hS hT hb => ?_⟩
  have he : e = [] := List.eq_nil_of_length_eq_zero (by rw [hS.len]; rfl)
  subst he
  refine (h D w vals hG hS.dom hT).mono ?_
  rintro en w' ⟨v, r, rfl, bel, hr, hv⟩
  exact ⟨v, r, [], D, [], rfl, ⟨hr, rfl⟩, hv, ⟨rfl, by simp, by simp, by simp, fun b hb => Nat.lt_of_lt_of_le (hS.dom b hb) bel.size⟩,
    ⟨bel.os, bel.tape, bel.output, bel.size, fun b hb _ => bel.block b hb⟩, by simp, fun _ h _ => h, by simp, by simp⟩

theorem glob_below {w w1 : World} (h : GlobOk w []) (hb : Below w.heap.size w w1) : GlobOk w1 [] := fun g hg => by
  obtain ⟨h1, ob, h2, h3⟩ := h g hg
  exact ⟨h1, ob, by rw [hb.block g (Array.getElem?_eq_some_iff.1 h2).1]; exact h2, h3⟩

theorem fixes_below {D : Nat → Prop} {w w1 : World} (hD : ∀ b, D b → b < w.heap.size) (hb : Below w.heap.size w w1) : Fixes D D w.heap w1.heap := fun b h => ⟨h, hb.block b (hD b h)⟩

theorem leads_nil : Leads [] [] := fun id l h => by simp at h

theorem calls_ct {f : FuncId} {args : List T} {vals : List Value} {R : T} {D : Nat → Prop} {w w1 : World} (h : ACalls pk f args [] (fun r o => r = R ∧ o = [])) (hG : GlobOk w []) (hD : ∀ b, D b → b < w.heap.size) (hb : Below w.heap.size w w1)
    (ha : TRs D w.heap [] args vals) : Calls pk.P f vals.toArray w1 fun e w2 => ∃ v D', e = .returned v ∧ TR D' w2.heap [] R v ∧ Below w1.heap.size w1 w2 := by
  have ha1 := TRs.mono (fixes_below hD hb) leads_nil _ _ ha
  have hsr : SR D w1.heap [] [] := ⟨rfl, by simp, by simp, by simp, fun b h => Nat.lt_of_lt_of_le (hD b h) hb.size⟩
  refine (h.2 D [] w1 vals (glob_below hG hb) hsr ha1 (by simp)).mono ?_
  rintro en w2 ⟨v, r, o', D', e', rfl, ⟨rfl, rfl⟩, htr, hsr', hext, _⟩
  have he : e' = [] := List.eq_nil_of_length_eq_zero (by rw [hsr'.len]; rfl)
  subst he
  refine ⟨v, D', rfl, htr, hext.os, hext.tape, hext.output, hext.size, fun k hk => hext.block k hk ?_⟩
  rintro ⟨id, a, esz, cap, n, he, _⟩
  simp at he

theorem calls_bool {f : FuncId} {args : List T} {vals : List Value} {b : Bool} {D : Nat → Prop} {w w1 : World} (h : ACalls pk f args [] (fun r o => r = .one (.bool b) ∧ o = [])) (hG : GlobOk w []) (hD : ∀ b, D b → b < w.heap.size) (hb : Below w.heap.size w w1)
    (ha : TRs D w.heap [] args vals) : Calls pk.P f vals.toArray w1 fun e w2 => e = .returned (.bool b) ∧ Below w1.heap.size w1 w2 := by
  refine (calls_ct h hG hD hb ha).mono ?_
  rintro en w2 ⟨v, D', rfl, htr, hbel⟩
  simp only [TR, CR] at htr
  subst htr
  exact ⟨rfl, hbel⟩

theorem calls_str {f : FuncId} {args : List T} {vals : List Value} {s : Str} {D : Nat → Prop} {w w1 : World} (h : ACalls pk f args [] (fun r o => r = .one (.str s) ∧ o = [])) (hG : GlobOk w []) (hD : ∀ b, D b → b < w.heap.size) (hb : Below w.heap.size w w1)
    (ha : TRs D w.heap [] args vals) : Calls pk.P f vals.toArray w1 fun e w2 => e = .returned (.string ⟨s.toArray⟩) ∧ Below w1.heap.size w1 w2 := by
  refine (calls_ct h hG hD hb ha).mono ?_
  rintro en w2 ⟨v, D', rfl, htr, hbel⟩
  simp only [TR, CR] at htr
  subst htr
  exact ⟨rfl, hbel⟩

theorem lays_ws : Go.Proofs.Lays.n166 Tryd.prog lays_n156_ren := { lays_n156 with }

theorem lays_st : Go.Proofs.Lays.n169 Tryd.prog lays_n156_ren := { lays_n156 with }

theorem writeString_calls (B b : Nat) (bs : List Value) (s : ByteArray) (w : World) (h : Lib.IsBuilder 45 5 B b bs w) (hlen : bs.length + s.size ≤ 140737488355328) (hBw : B ≤ w.heap.size) :
    Calls Tryd.prog 14 #[.pointer (some ⟨b, 0, none⟩), .string s] w fun e w' => e = .returned (.tuple #[.int .i64 s.size, .nilIface]) ∧ (Lib.BuilderAt 45 5 B b (.pointer (some ⟨b, 0, none⟩)) (bs ++ Lib.strCells s) w' ∧ Below B w w') :=
  Go.Proofs.Any.Builder_WriteString lays_ws build_ex B b bs s w h hlen hBw

theorem builderString_calls (B b : Nat) (l : List UInt8) (w : World) (h : Lib.IsBuilder 45 5 B b (Lib.byteCells l) w) (hBw : B ≤ w.heap.size) :
    Calls Tryd.prog 16 #[.pointer (some ⟨b, 0, none⟩)] w fun e w' => e = .returned (.string ⟨l.toArray⟩) ∧ Below B w w' :=
  Go.Proofs.Any.Builder_String_any lays_st build_ex B b l w h hBw

theorem builderAt_keep {T e : TypeId} {B b : Nat} {p : Value} {bs : List Value} {w w' : World} (h : Lib.BuilderAt T e B b p bs w) (hk : ∀ i, i < w.heap.size → w'.heap[i]? = w.heap[i]?) : Lib.BuilderAt T e B b p bs w' := by
  obtain ⟨hB, v, hb, ho, hn⟩ := h
  refine ⟨hB, v, by rw [hk b (Array.getElem?_eq_some_iff.1 hb).1]; exact hb, ⟨ho.1, ?_⟩, hn⟩
  rcases ho.2 with h1 | ⟨g, cap, cur, h1, h2, h3, h4⟩
  · exact .inl h1
  · exact .inr ⟨g, cap, cur, h1, h2, by rw [hk g (Array.getElem?_eq_some_iff.1 h3).1]; exact h3, h4⟩

theorem isBuilder_keep {T e : TypeId} {B b : Nat} {bs : List Value} {w w' : World} (h : Lib.IsBuilder T e B b bs w) (hk : ∀ i, i < w.heap.size → w'.heap[i]? = w.heap[i]?) : Lib.IsBuilder T e B b bs w' := by
  rcases h with h | h
  · exact .inl (builderAt_keep h hk)
  · exact .inr (builderAt_keep h hk)

theorem iTableText_ct (l : List Fnc) (hl : LenT l) : ACalls pk 7 [.one (.fs (l.map eU))] [] (fun r o => r = .one (.str (TabF l)) ∧ o = []) := by
  have hV := ivalidTable_ct l hl
  refine acalls_plain2 ⟨_, Tryd.func7, rfl, by kernel_rfl⟩ fun D w vals hG hD hT => ?_
  have hT0 := hT
  simp only [TRs, TR] at hT0
  obtain ⟨v0, r, rfl, hx, rfl⟩ := hT0
  have fin : ∀ (en : Ending) (w' : World), en = .returned (.string ⟨(TabF l).toArray⟩) → Below w.heap.size w w' → ∃ v r, en = .returned v ∧ Below w.heap.size w w' ∧ r = T.one (.str (TabF l)) ∧ TR D w'.heap [] r v := fun en w' h1 h2 =>
    ⟨_, _, h1, h2, rfl, by simp only [TR, CR]⟩
  have u3 := run_underlying Tryd.underlying3
  have e13 : ∀ args w, (callFunc 13 args).run Tryd.prog w = .ok (.enter 13 args) w := enters_of Tryd.func13 (by kernel_rfl) rfl
  have e15 : ∀ args w, (callFunc 15 args).run Tryd.prog w = .ok (.enter 15 args) w := enters_of Tryd.func15 (by kernel_rfl) rfl
  have e14 : ∀ args w, (callFunc 14 args).run Tryd.prog w = .ok (.enter 14 args) w := enters_of Tryd.func14 (by kernel_rfl) rfl
  have e16 : ∀ args w, (callFunc 16 args).run Tryd.prog w = .ok (.enter 16 args) w := enters_of Tryd.func16 (by kernel_rfl) rfl
  suffices hs : Calls Tryd.prog 7 #[v0] w fun en w' => en = .returned (.string ⟨(TabF l).toArray⟩) ∧ Below w.heap.size w w' from hs.mono fun en w' h => fin en w' h.1 h.2
  cases ho : okT l with
  | false =>
    have e0 : TabF l = [] := by unfold TabF; rw [ho]; rfl
    rw [e0]
    rw [ho] at hV
    go_enter Tryd.func7, Tryd.ntmps7
    go_wp2_with fail
    refine (calls_bool hV hG hD (Below.refl _ _) hT).mono ?_
    rintro e w1 ⟨rfl, hb1⟩
    go_wp2
    go_ret
    exact ⟨rfl, hb1⟩
  | true =>
    obtain ⟨h5, hok⟩ := okT_parts ho
    have e0 : TabF l = TabT l := by unfold TabF; rw [ho]; rfl
    rw [e0]
    rw [ho] at hV
    have hx0 := hx
    simp only [CR] at hx
    obtain ⟨A, cap, rfl, hcap, hA⟩ := hx
    simp only [List.length_map] at hcap hT ⊢
    go_enter Tryd.func7, Tryd.ntmps7
    go_wp2_with fail
    refine (calls_bool hV hG hD (Below.refl _ _) hT).mono ?_
    rintro e w1 ⟨rfl, hb1⟩
    go_wp2_with fail
    go_loopw [11] (fun i wr => ∃ k : Nat, k ≤ l.length ∧ i = .int .i64 k ∧ Hid (Lib.IsBuilder 45 5 w1.heap.size w1.heap.size (Lib.byteCells (TabT (l.take k))) wr) ∧ Hid (Below w1.heap.size w1 wr)) (fun i _ => l.length - (intOf i).toNat)
    case atStart => exact ⟨0, Nat.zero_le _, rfl, by rw [List.take_zero]; exact Lib.fresh_isBuilder _ _ w1, (Below.refl _ _).alloc (Nat.le_refl _) _⟩
    case round =>
      obtain ⟨k, hk, rfl, HB, HW⟩ := hrel
      by_cases hkn : k < l.length
      · obtain ⟨f, hf⟩ := at_some (xs := l) (i := k) hkn
        obtain ⟨a, cells, t, fr, esz, rfl, hsp, hDa, hcells, hrows⟩ : ∃ a cells t fr esz, A = some a ∧ a.spot = none ∧ D a.block ∧ w.heap[a.block]? = some (Obj.cells cells t fr) ∧ CRr D w.heap [] esz (l.map eU) (cells.toList.drop a.off) := by
          rcases hA with hA | hA
          · rw [List.map_eq_nil_iff] at hA; rw [hA] at hkn; simp at hkn
          · exact hA
        obtain ⟨hesz, hrow⟩ := hrows.get (map_at (enc := eU) hf)
        have hesz2 : esz = 2 := hesz.symm
        subst hesz2
        obtain ⟨b, off, sp⟩ := a
        simp only at hsp
        subst hsp
        simp only at hDa hcells hrow
        rw [List.drop_drop] at hrow
        have hrow0 := hrow
        simp only [eU, CRp] at hrow
        obtain ⟨y1, rest, hdr, hy1⟩ : ∃ y1 rest, (cells.toList.drop (off + k * 2)) = Value.string ⟨f.name.toArray⟩ :: y1 :: rest ∧ CR D w.heap [] (.fs (f.sig.map eQ)) y1 := by
          match h : cells.toList.drop (off + k * 2), hrow with
          | [], h1 => simp [CRp] at h1
          | [x], h1 => simp [CRp] at h1
          | x :: y :: r, h1 =>
            simp only [CRp, and_true] at h1
            refine ⟨y, r, ?_, h1.2⟩
            have := h1.1
            simp only [CR] at this
            rw [this]
        have g0 : cells[off + k * 2]? = some (Value.string ⟨f.name.toArray⟩) := by
          have := congrArg (fun l => l[0]?) hdr
          simpa using this
        have g1 : cells[off + k * 2 + 1]? = some y1 := by
          have := congrArg (fun l => l[1]?) hdr
          simpa using this
        have hbw : Below w.heap.size w wr := hb1.trans (HW.out.mono hb1.size)
        have hwr : wr.heap[b]? = some (Obj.cells cells t fr) := by rw [hbw.block b (hD b hDa)]; exact hcells
        clear hrow hrow0 hdr hA hrows hV
        have c0 : wr.cell? ⟨b, off + k * 2, none⟩ = some (Value.string ⟨f.name.toArray⟩) := by rw [Lib.cell_of_heap hwr]; exact g0
        have c1 : wr.cell? ⟨b, off + k * 2 + 1, none⟩ = some y1 := by rw [Lib.cell_of_heap hwr]; exact g1
        have hTf : TRs D w.heap [] [.agg (eU f)] [Value.agg #[Value.string ⟨f.name.toArray⟩, y1]] := by
          simp only [TRs, TR, eU]
          refine ⟨_, _, rfl, ⟨_, rfl, rfl, ?_⟩, rfl⟩
          simp only [CRp, and_true]
          exact ⟨by simp only [CR], hy1⟩
        have hy2 := hy1
        simp only [CR] at hy2
        obtain ⟨A2, c2, rfl, -⟩ := hy2
        simp only [List.length_map] at hTf
        have hu := hok f (List.mem_of_getElem? hf)
        have eF : FuF f = FuT f := by unfold FuF; rw [hu]; rfl
        have hFT := iFuncText_ct f (hl.fns f (List.mem_of_getElem? hf))
        rw [eF] at hFT
        have hfl := FuT_len hu
        have htl : (TabT (l.take k)).length ≤ 1101 * 5 := by
          have := TabT_len (l.take k) (fun g hg => hok g (List.mem_of_mem_take hg))
          simp only [List.length_take] at this
          omega
        go_wp2_with fail
        refine (calls_str hFT hG hD (hbw.alloc hbw.size _) hTf).mono ?_
        rintro e w2 ⟨rfl, hb2⟩
        have hk2 : ∀ i, i < wr.heap.size → w2.heap[i]? = wr.heap[i]? := fun i hi => by
          rw [hb2.block i (by simp; omega), Lib.alloc_old _ _ _ hi]
        have H2 : Hid (Lib.IsBuilder 45 5 w1.heap.size w1.heap.size (Lib.byteCells (TabT (l.take k))) w2) := isBuilder_keep HB.out hk2
        have hs2 : wr.heap.size ≤ w2.heap.size := by have := hb2.size; simp at this; omega
        have W2 : Hid (Below w1.heap.size w1 w2) := ((HW.out.alloc HW.out.size _).trans (hb2.mono (by have := HW.out.size; simp; omega)))
        have hsz : w1.heap.size ≤ w2.heap.size := W2.out.size
        clear hk2 hb2
        go_wp2_with fail
        have hdat : ((⟨(FuT f).toArray⟩ : ByteArray) ++ ⟨#[10]⟩).data.toList = FuT f ++ [10] := by simp
        have hsize : ((⟨(FuT f).toArray⟩ : ByteArray) ++ ⟨#[10]⟩).size = (FuT f).length + 1 := by
          rw [Lib.size_eq, hdat]; simp
        refine (writeString_calls w1.heap.size w1.heap.size _ _ w2 H2.out (by rw [Lib.byteCells_length, hsize]; omega) hsz).mono ?_
        rintro e w3 ⟨rfl, h3, hb3⟩
        have hnext : Lib.byteCells (TabT (l.take k)) ++ Lib.strCells ((⟨(FuT f).toArray⟩ : ByteArray) ++ ⟨#[10]⟩) = Lib.byteCells (TabT (l.take (k + 1))) := by
          rw [Lib.strCells_eq, hdat, ← Lib.byteCells_append, ← take_snoc hf, TabT_snoc]
        rw [hnext] at h3
        have H3 : Hid (Lib.IsBuilder 45 5 w1.heap.size w1.heap.size (Lib.byteCells (TabT (l.take (k + 1)))) w3) := Or.inr h3
        have W3 : Hid (Below w1.heap.size w1 w3) := W2.out.trans hb3
        clear h3 hb3 hnext
        go_wp2
        exact ⟨⟨k + 1, by omega, by go_num, H3, W3⟩, by simp [intOf]; omega⟩
      · have hke : k = l.length := by omega
        subst hke
        have HB2 : Hid (Lib.IsBuilder 45 5 w1.heap.size w1.heap.size (Lib.byteCells (TabT l)) wr) := by
          have := HB.out
          rw [List.take_length] at this
          exact this
        have hsz : w1.heap.size ≤ wr.heap.size := HW.out.size
        clear HB
        go_wp2_with fail
        refine (builderString_calls w1.heap.size w1.heap.size _ wr HB2.out hsz).mono ?_
        rintro e w5 ⟨rfl, hb5⟩
        have W5 : Hid (Below w.heap.size w w5) := hb1.trans ((HW.out.trans hb5).mono hb1.size)
        clear hb5
        go_wp2
        go_ret
        exact ⟨rfl, W5.out⟩
end

theorem fnExactTableText_ct (l : List Fnc) (hl : FitsT l) : ACalls pk 3 [.one (.fs (l.map eU))] [] (fun r o => r = .one (.bool true) ∧ o = []) := by
  refine acalls_of_body Tryd.func3 rfl (by kernel_rfl) rfl ?_
  refine rn rfl ?_
  refine goal_step (step_call [] rfl rfl rfl rfl rfl rfl (szFuncS_ct l 1048576 (by omega) (by omega) hl)) ?_
  rintro σ2 ⟨r, o', ⟨rfl, rfl⟩, hσ⟩
  obtain rfl := Option.some.inj hσ
  clear hσ
  refine rn rfl ?_
  refine goal_cond rfl (fun h => ?_) (fun h => ?_) <;> (try simp only [gt_iff_lt, ge_iff_le, bne_iff_ne, ne_eq, bne_eq_false_iff_eq, beq_iff_eq, beq_eq_false_iff_ne, Bool.not_eq_true', Bool.not_eq_false', decide_eq_true_eq, decide_eq_false_iff_not, List.length_map] at h)
  · exact rn rfl (fin_is [] rfl ⟨rfl, rfl⟩)
  · obtain ⟨z1, z2⟩ := szUS_ok (by omega) (by omega : ¬ szUS l 1048576 < 0)
    have hT : LenT l := ⟨by omega, fun f hf => ⟨(hl.fns f hf).name, (hl.fns f hf).sig.len, (hl.fns f hf).sig.names⟩⟩
    have ht := toFuncSD_ct l (by omega) (fun f hf => by have := z2 f hf; omega)
    have he := eqFuncS_ct l (by omega) (fun f hf => by have := z2 f hf; omega)
    refine rn rfl ?_
    refine goal_step (step_call [] rfl rfl rfl rfl rfl rfl (ht)) ?_
    rintro σ2 ⟨r, o', ⟨rfl, rfl⟩, hσ⟩
    obtain rfl := Option.some.inj hσ
    clear hσ
    refine rn rfl ?_
    refine goal_step (step_call [] rfl rfl rfl rfl rfl rfl (sTableText_ct l hT)) ?_
    rintro σ2 ⟨r, o', ⟨rfl, rfl⟩, hσ⟩
    obtain rfl := Option.some.inj hσ
    clear hσ
    refine rn rfl ?_
    refine goal_step (step_call [] rfl rfl rfl rfl rfl rfl (ht)) ?_
    rintro σ2 ⟨r, o', ⟨rfl, rfl⟩, hσ⟩
    obtain rfl := Option.some.inj hσ
    clear hσ
    refine rn rfl ?_
    refine goal_step (step_call [] rfl rfl rfl rfl rfl rfl (iTableText_ct l hT)) ?_
    rintro σ2 ⟨r, o', ⟨rfl, rfl⟩, hσ⟩
    obtain rfl := Option.some.inj hσ
    clear hσ
    refine rn rfl ?_
    refine goal_cond rfl (fun h => by simp at h) (fun _ => ?_)
    refine rn rfl ?_
    refine goal_step (step_call [] rfl rfl rfl rfl rfl rfl (ht)) ?_
    rintro σ2 ⟨r, o', ⟨rfl, rfl⟩, hσ⟩
    obtain rfl := Option.some.inj hσ
    clear hσ
    refine rn rfl ?_
    refine goal_step (step_call [] rfl rfl rfl rfl rfl rfl (he)) ?_
    rintro σ2 ⟨r, o', ⟨rfl, rfl⟩, hσ⟩
    obtain rfl := Option.some.inj hσ
    clear hσ
    refine rn rfl ?_
    refine goal_cond rfl (fun h => by simp at h) (fun _ => ?_)
    exact rn rfl (fin_is [] rfl ⟨rfl, rfl⟩)

section
open Go Go.ChangeShapes Go.WideShapes Go.ChangeAt Go.RowKit
theorem var_heap {P : Program} {W : World} {name : String} {g : Nat} {cs : Array Value} (hn : P.globalNamed name = some g) (h : W.var? P name = some cs) : ∃ t fr, W.heap[g]? = some (.cells cs t fr) := by
  unfold World.var? at h
  rw [hn, Option.bind_some] at h
  split at h
  · rename_i cs' t fr hh
    cases h
    exact ⟨t, fr, hh⟩
  · cases h

theorem glob_entry {W : World} {a b : String × DataW Unit} {r : List (String × DataW Unit)} (hsh : W.ShapedOpen Tryd.prog)
    (hL : laidMet Tryd.prog (a :: b :: ("internal/strconv.uint64pow10", Rows.laid_internal_strconv_uint64pow10) :: r) W) : GlobOk W [] := by
  have hp : Lib.TabIs Tryd.prog W "internal/strconv.uint64pow10" .u64 Lib.pow10Tab := Lib.tabIs_of_head (g := gPow) (t := 98) (e := 91) (n := 20) (by kernel_rfl) (by kernel_rfl) (by kernel_rfl) (by kernel_rfl) (by kernel_rfl) (by kernel_rfl) (show laidMet _ (("internal/strconv.uint64pow10", Lib.tabData .u64 Lib.pow10Tab) :: _) W from hL.tail.tail)
  obtain ⟨m, hm⟩ := Go.Proofs.cell_of_shapedOpen_int (g := 0) (zero := #[.int .i64 0]) (t := 3) hsh (of_decide_eq_true (by kernel_rfl)) (by kernel_rfl) rfl (by kernel_rfl) (by kernel_rfl) Tryd.underlying3
  obtain ⟨t3, f3, e3⟩ := var_heap (g := gPow) (by kernel_rfl) hp
  intro g hg
  refine ⟨by rintro ⟨id, ad, esz, cap, n, he, _⟩; simp at he, ?_⟩
  simp only [GL, List.mem_cons, List.not_mem_nil, or_false] at hg
  rcases hg with rfl | rfl
  · unfold World.cell? at hm
    split at hm
    · rename_i cs t fr hh
      split at hm
      · cases hm
      · exact ⟨_, hh, cs, t, fr, rfl, fun _ => ⟨m, by simpa using hm⟩, fun h => absurd h (by decide), fun h => absurd h (by decide)⟩
    · cases hm
  · exact ⟨_, e3, _, _, _, rfl, fun h => absurd h (by decide), fun h => absurd h (by decide), fun _ => rfl⟩
end

end Go.Proofs.YtkchcffmefbomaaDoor
