/- Frozen objects read as data; objects renumbered; contracts. -/
import Derived.Test.YtkjbjgndinjdpaaH
set_option linter.unusedVariables false
set_option linter.unusedSimpArgs false
namespace Go.Proofs.Ytkjbjgndinjdpaa
open Go

def nilB : Value → Bool
  | .slice none 0 0 => true
  | _ => false

def mapC (f : C → C) : List C → List C
  | [] => []
  | c :: cs => f c :: mapC f cs
def mapR (f : C → C) : List (List C) → List (List C)
  | [] => []
  | r :: rs => mapC f r :: mapR f rs
/-- A cell, told to somebody who knows of the objects that 'mp' numbers; what is frozen is told as data. -/
def reC (mp : Nat → Option Nat) (o : List (Option AObj)) : Nat → C → C
  | 0, _ => .junk
  | n + 1, c => match c with
    | .os id off len kc => match mp id with
      | some j => .os j off len kc
      | none => match nth o id with
        | some (some ⟨_, elems, true, true, _⟩) => .fs ((elems.drop off).take len)
        | some (some ⟨_, elems, false, true, _⟩) => match noOwnR (mapR (reC mp o n) ((elems.drop off).take len)) with
          | true => .fs (mapR (reC mp o n) ((elems.drop off).take len))
          | false => .junk
        | _ => .junk
    | .op id i off => match mp id with
      | some j => .op j i off
      | none => match nth o id with
        | some (some ⟨_, [row], _, true, true⟩) => match i with
          | 0 => match noOwnL (mapC (reC mp o n) (row.drop off)) with
            | true => .fp (mapC (reC mp o n) (row.drop off))
            | false => .junk
          | _ + 1 => .junk
        | _ => .junk
    | .fn f caps => .fn f (mapC (reC mp o n) caps)
    | .v x => match nilB x with
      | true => .fs []
      | false => .v x
    | .fs xs => .fs xs
    | .fp cs => .fp cs
    | .bool b => .bool b
    | .int k n => .int k n
    | .str s => .str s
    | .junk => .junk
abbrev reL (mp : Nat → Option Nat) (o : List (Option AObj)) (n : Nat) : List C → List C := mapC (reC mp o n)
abbrev reR (mp : Nat → Option Nat) (o : List (Option AObj)) (n : Nat) : List (List C) → List (List C) := mapR (reC mp o n)
mutual
def reT (mp : Nat → Option Nat) (o : List (Option AObj)) (n : Nat) : T → T
  | .one c => .one (reC mp o n c)
  | .agg cs => .agg (reL mp o n cs)
  | .tup ts => .tup (reTs mp o n ts)
  | .junk => .junk
def reTs (mp : Nat → Option Nat) (o : List (Option AObj)) (n : Nat) : List T → List T
  | [] => []
  | t :: ts => reT mp o n t :: reTs mp o n ts
end

theorem mapC_length (f : C → C) : ∀ cs, (mapC f cs).length = cs.length
  | [] => by simp [mapC]
  | c :: cs => by simp [mapC, mapC_length f cs]
theorem mapR_length (f : C → C) : ∀ cs, (mapR f cs).length = cs.length
  | [] => by simp [mapR]
  | c :: cs => by simp [mapR, mapR_length f cs]
theorem reL_length (mp : Nat → Option Nat) (o : List (Option AObj)) (n : Nat) (cs : List C) : (reL mp o n cs).length = cs.length := mapC_length _ cs
theorem reR_length (mp : Nat → Option Nat) (o : List (Option AObj)) (n : Nat) (cs : List (List C)) : (reR mp o n cs).length = cs.length := mapR_length _ cs

section
variable {D : Nat → Prop} {h : Array Obj} {e e1 : List ALoc} {o : List (Option AObj)} {mp : Nat → Option Nat}

theorem noOwnR_mem : ∀ {rs : List (List C)}, noOwnR rs = true ↔ ∀ r ∈ rs, noOwnL r = true
  | [] => by simp [noOwnR]
  | r :: rs => by simp [noOwnR, noOwnR_mem (rs := rs)]
theorem noOwnR_drop {rs : List (List C)} (n : Nat) (H : noOwnR rs = true) : noOwnR (rs.drop n) = true := by
  rw [noOwnR_mem] at H ⊢; exact fun r hr => H r (List.mem_of_mem_drop hr)
theorem noOwnR_take {rs : List (List C)} (n : Nat) (H : noOwnR rs = true) : noOwnR (rs.take n) = true := by
  rw [noOwnR_mem] at H ⊢; exact fun r hr => H r (List.mem_of_mem_take hr)

/-- A frozen object as a slice of data. -/
theorem frozen_slice {ob : AObj} {a : Option Addr} {cap nn off len kc : Nat} {rows : List (List C)} {y : Value} (hob : ObjR D h e ob a cap nn) (hfz : ob.fz = true)
    (hy : ∃ A c, y = .slice A len c ∧ len ≤ kc ∧ kc ≤ c ∧ off + len ≤ nn ∧ (c = 0 ∨ ∃ b, a = some b ∧ A = some ⟨b.block, b.off + off * ob.esz, none⟩ ∧ off + c ≤ cap))
    (hl : rows.length = len) (hr : ∀ vs, CRr D h e ob.esz ((ob.elems.drop off).take len) vs → CRr D h [] ob.esz rows vs) : CR D h e1 (.fs rows) y := by
  obtain ⟨A, c, rfl, h1, h2, h3, h4⟩ := hy
  simp only [CR]
  refine ⟨A, c, by rw [hl], by omega, ?_⟩
  rcases h4 with h4 | ⟨b, rfl, rfl, h5⟩
  · left
    have : rows.length = 0 := by omega
    exact List.eq_nil_of_length_eq_zero this
  · right
    obtain ⟨hn, _, hs, hD, cells, t, hh, hcap, hsz, hrr⟩ := hob
    refine ⟨_, cells, t, (0, 0), ob.esz, rfl, rfl, hD hfz, hh, hr _ ?_⟩
    have := CRr.take len (CRr.drop off hrr)
    rw [List.drop_drop] at this
    exact this

theorem mapC_spec {f : C → C} (hf : ∀ (c : C) (y : Value), CR D h e c y → CR D h e1 (f c) y) : ∀ (cs : List C) (vs : List Value), CRp D h e cs vs → CRp D h e1 (mapC f cs) vs
  | [], vs, hc => by simp [mapC, CRp]
  | c :: cs, [], hc => by simp [CRp] at hc
  | c :: cs, v :: vs, hc => by
    simp only [mapC, CRp] at hc ⊢
    exact ⟨hf c v hc.1, mapC_spec hf cs vs hc.2⟩
theorem mapR_spec {f : C → C} (hf : ∀ (c : C) (y : Value), CR D h e c y → CR D h e1 (f c) y) (esz : Nat) : ∀ (rs : List (List C)) (vs : List Value), CRr D h e esz rs vs → CRr D h e1 esz (mapR f rs) vs
  | [], vs, hc => by simp [mapR, CRr]
  | r :: rs, vs, hc => by
    simp only [mapR, CRr] at hc ⊢
    exact ⟨by rw [mapC_length]; exact hc.1, mapC_spec hf r vs hc.2.1, mapR_spec hf esz rs _ hc.2.2⟩
theorem reC_spec (H : SR D h e o) (hm : ∀ (id j : Nat) (l : ALoc), mp id = some j → e[id]? = some l → e1[j]? = some l) : ∀ (n : Nat) (c : C) (y : Value), CR D h e c y → CR D h e1 (reC mp o n c) y
  | 0, c, y, hc => by simp only [reC, CR]; exact hc.cell
  | n + 1, c, y, hc => by
    have ih := reC_spec H hm n
    cases c with
    | os id off len kc =>
      have hcell := hc.cell
      simp only [reC]
      split
      · rename_i j hj
        simp only [CR] at hc ⊢
        cases he : e[id]? with
        | none => rw [he] at hc; exact hc.elim
        | some l => rw [he] at hc; rw [hm id j l hj he]; exact hc
      · split
        · rename_i esz elems box hn
          rw [nth_eq] at hn
          obtain ⟨a, cap, nn, he, hob⟩ := H.objs id _ hn
          simp only [CR, he] at hc
          have hrl : ((elems.drop off).take len).length = len := by
            obtain ⟨A, c, _, _, _, h3, _⟩ := hc
            have := hob.1; simp only at this
            simp; omega
          exact frozen_slice hob rfl hc hrl (fun vs hv => CRr.env e [] esz _ vs (noOwnR_take _ (noOwnR_drop _ (hob.2.1 rfl))) hv)
        · rename_i esz elems box hn
          rw [nth_eq] at hn
          split
          · rename_i hno
            obtain ⟨a, cap, nn, he, hob⟩ := H.objs id _ hn
            simp only [CR, he] at hc
            have hrl : (mapR (reC mp o n) ((elems.drop off).take len)).length = len := by
              obtain ⟨A, c, _, _, _, h3, _⟩ := hc
              have := hob.1; simp only at this
              rw [mapR_length]; simp; omega
            exact frozen_slice hob rfl hc hrl (fun vs hv => CRr.env e1 [] esz _ vs hno (mapR_spec ih esz _ vs hv))
          · simp only [CR]; exact hcell
        · simp only [CR]; exact hcell
    | op id i off =>
      have hcell := hc.cell
      simp only [reC]
      split
      · rename_i j hj
        simp only [CR] at hc ⊢
        cases he : e[id]? with
        | none => rw [he] at hc; exact hc.elim
        | some l => rw [he] at hc; rw [hm id j l hj he]; exact hc
      · split
        · rename_i esz row cl hn
          rw [nth_eq] at hn
          split
          · split
            · rename_i hno
              obtain ⟨a, cap, nn, he, hob⟩ := H.objs id _ hn
              simp only [CR, he] at hc
              obtain ⟨b, rfl, rfl⟩ := hc
              obtain ⟨_, _, hs, hD, cells, t, hh, hcap, hsz, hrr⟩ := hob
              simp only [CRr] at hrr
              simp only [CR]
              refine ⟨_, cells, t, (0, 0), rfl, rfl, hD rfl, hh, ?_⟩
              have := CRp.drop off hrr.2.1
              rw [List.drop_drop] at this
              have h2 := mapC_spec ih _ _ this
              simp only [Nat.zero_mul, Nat.add_zero]
              exact CRp.env e1 [] _ _ hno h2
            · simp only [CR]; exact hcell
          · simp only [CR]; exact hcell
        · simp only [CR]; exact hcell
    | fn f caps =>
      simp only [reC, CR] at hc ⊢
      obtain ⟨vs, hy, hl, hr⟩ := hc
      exact ⟨vs, hy, by rw [mapC_length]; exact hl, mapC_spec ih caps _ hr⟩
    | v x =>
      simp only [reC]
      split
      · rename_i hx
        simp only [CR] at hc ⊢
        obtain ⟨rfl, _⟩ := hc
        unfold nilB at hx
        split at hx
        · exact ⟨none, 0, rfl, by simp, .inl trivial⟩
        · cases hx
      · simpa only [CR] using hc
    | fs xs => simpa only [reC, CR] using hc
    | fp cs => simpa only [reC, CR] using hc
    | bool b => simpa only [reC, CR] using hc
    | int k m => simpa only [reC, CR] using hc
    | str s => simpa only [reC, CR] using hc
    | junk => simpa only [reC, CR] using hc
theorem reL_spec (H : SR D h e o) (hm : ∀ (id j : Nat) (l : ALoc), mp id = some j → e[id]? = some l → e1[j]? = some l) (n : Nat) (cs : List C) (vs : List Value) (hc : CRp D h e cs vs) : CRp D h e1 (reL mp o n cs) vs :=
  mapC_spec (reC_spec H hm n) cs vs hc
theorem reR_spec (H : SR D h e o) (hm : ∀ (id j : Nat) (l : ALoc), mp id = some j → e[id]? = some l → e1[j]? = some l) (n esz : Nat) (rs : List (List C)) (vs : List Value) (hc : CRr D h e esz rs vs) : CRr D h e1 esz (reR mp o n rs) vs :=
  mapR_spec (reC_spec H hm n) esz rs vs hc
mutual
theorem reT_spec (H : SR D h e o) (hm : ∀ (id j : Nat) (l : ALoc), mp id = some j → e[id]? = some l → e1[j]? = some l) (n : Nat) : ∀ (t : T) (y : Value), TR D h e t y → TR D h e1 (reT mp o n t) y
  | .one c, y, hc => by simp only [reT, TR] at hc ⊢; exact reC_spec H hm n c y hc
  | .agg cs, y, hc => by
    simp only [reT, TR] at hc ⊢
    obtain ⟨vs, hy, hl, hr⟩ := hc
    exact ⟨vs, hy, by rw [reL_length]; exact hl, reL_spec H hm n cs _ hr⟩
  | .tup ts, y, hc => by
    simp only [reT, TR] at hc ⊢
    obtain ⟨vs, hy, hr⟩ := hc
    exact ⟨vs, hy, reTs_spec H hm n ts _ hr⟩
  | .junk, y, hc => by simp [reT, TR]
theorem reTs_spec (H : SR D h e o) (hm : ∀ (id j : Nat) (l : ALoc), mp id = some j → e[id]? = some l → e1[j]? = some l) (n : Nat) : ∀ (ts : List T) (vs : List Value), TRs D h e ts vs → TRs D h e1 (reTs mp o n ts) vs
  | [], vs, hc => by simpa [reTs, TRs] using hc
  | t :: ts, vs, hc => by
    simp only [reTs, TRs] at hc ⊢
    obtain ⟨x, r, rfl, h1, h2⟩ := hc
    exact ⟨x, r, rfl, reT_spec H hm n t x h1, reTs_spec H hm n ts r h2⟩
end
end
end Go.Proofs.Ytkjbjgndinjdpaa
