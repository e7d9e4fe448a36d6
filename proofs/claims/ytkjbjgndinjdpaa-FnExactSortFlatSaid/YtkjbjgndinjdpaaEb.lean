/- Arguments of the laws; from a contract to a call. -/
import Derived.Test.YtkjbjgndinjdpaaEa
import Derived.Below
import Derived.Carry
set_option linter.unusedVariables false
set_option linter.unusedSimpArgs false
namespace Go.Proofs.Ytkjbjgndinjdpaa
open Go Go.ChangeShapes Go.WideShapes Go.ChangeAt Go.RowKit
set_option maxRecDepth 100000

theorem TIok.cellsOf {P : Program} {t : Nat} {ti : TI} (H : TIok P t ti) : P.cellsOf t = ti.size := by
  obtain ⟨i, z, hi, hs, _⟩ := H.info
  simp [Program.cellsOf, hi, hs]
section
variable {X : Pk} {t : Nat} {ti te : TI}
theorem xo_int (h : findTI X.L t = some ti) (hk : ti.kind = 4) (hik : ti.ik = .i64) : Opens X.P t (fun n : Int => [.int .i64 n]) (fun _ => True) := by
  have := (X.tiok h).int hk
  rw [hik] at this
  exact opens_int this
theorem xo_bool (h : findTI X.L t = some ti) (hk : ti.kind = 5) : Opens X.P t (fun n : Bool => [.bool n]) (fun _ => True) := opens_bool ((X.tiok h).bool hk)
theorem xo_str (h : findTI X.L t = some ti) (hk : ti.kind = 1) : Opens X.P t (fun s : Str => [.str s]) (fun s => s.length ≤ 9223372036854775807) := opens_str ((X.tiok h).string hk)
theorem xo_slice {α : Type} {enc : α → List C} {ok : α → Prop} (h : findTI X.L t = some ti) (hk : ti.kind = 2) (he : findTI X.L ti.elem = some te) (h0 : Nat.blt 0 te.size = true) (hl : ∀ a, (enc a).length = te.size) (hE : Opens X.P ti.elem enc ok) :
    Opens X.P t (fun xs : List α => [.fs (xs.map enc)]) (fun xs => xs.length ≤ 9223372036854775807 ∧ ∀ x ∈ xs, ok x) :=
  opens_slice ((X.tiok h).slice hk) (X.tiok he).cellsOf (by simpa [Nat.blt_eq] using h0) hl hE
theorem xo_struct {α : Type} {enc : α → List C} {ok : α → Prop} (h : findTI X.L t = some ti) (hk : ti.kind = 3) (hl : ∀ a, (enc a).length = ti.size) (hF : OpensF X.P ti.fields 0 enc ok) : Opens X.P t enc ok := by
  obtain ⟨fs, hu, hfs⟩ := (X.tiok h).struct hk
  exact opens_struct hu (X.tiok h).cellsOf hl (by rw [hfs]; exact hF)
end
theorem Opens.map {P : Program} {t : TypeId} {α β : Type} {enc : α → List C} {ok : α → Prop} {enc' : β → List C} {ok' : β → Prop} (h : Opens P t enc ok) (g : α → β) (he : ∀ a, enc' (g a) = enc a) (ho : ∀ a, ok a → ok' (g a)) : Opens P t enc' ok' := by
  intro H en w fuel cs x hx
  obtain ⟨a, h1, h2, h3⟩ := h H en w fuel cs x hx
  exact ⟨g a, ho a h1, by rw [he]; exact h2, by rw [he]; exact h3⟩

/-- A law's contract, as a call from any memory. -/
theorem law_calls {X : Pk} {f : FuncId} {args : List T} {vals : Array Value} {w : World} (h : ACalls X f args [] (fun r o => r = .one (.bool true) ∧ o = [])) (ha : TRs (allD w) w.heap [] args vals.toList) :
    Calls X.P f vals w fun e w' => e = .returned (.bool true) ∧ Below w.heap.size w w' := by
  have hsr : SR (allD w) w.heap [] [] := ⟨rfl, by simp, by simp, by simp, fun b hb => hb⟩
  refine (h.2 (allD w) [] w vals.toList hsr ha (by simp)).mono ?_
  rintro en w' ⟨v, r, o', D', e', rfl, ⟨rfl, rfl⟩, htr, _, hext, _⟩
  simp only [TR, CR] at htr
  subst htr
  refine ⟨rfl, hext.os, hext.tape, hext.output, hext.size, fun k hk => hext.block k hk ?_⟩
  rintro ⟨id, a, esz, cap, n, he, _⟩
  simp at he
end Go.Proofs.Ytkjbjgndinjdpaa
