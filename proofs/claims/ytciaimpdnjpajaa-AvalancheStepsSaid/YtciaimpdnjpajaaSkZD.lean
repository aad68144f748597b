/-
  Arrays that are handed in, opened.
-/
import Derived.Test.YtciaimpdnjpajaaSkQ
namespace Go.Ab
open Go Go.RowKit

def fld (t o : Nat) : Field := { name := "", type := t, offset := o, embedded := false, tag := "", pkgPath := "", byteOffset := 0 }
section
variable {P : Program} {t : TypeId}
theorem Opens.array {tot n sz : Nat} {e : TypeId} {fl : List Field} {α : Type} {f : α → List AVal} {Pa : α → Prop} (ht : P.underlying t = some (.array n e)) (hc : P.cellsOf t = tot) (he : P.cellsOf e = sz)
    (hl : fl = (List.range n).map fun i => fld e (i * sz)) (h : OpensFs P tot 0 fl f Pa) : Opens P t f Pa := by
  constructor
  intro H enc w base spare held fuel cs x hx
  obtain ⟨xs, m, rfl, _, hlen, hxs, hf⟩ := DataW.trod_array ht hx
  have := h.op (cs := cs) (by rw [hlen, hc]) fun i fd hi => by
    rw [hl, List.getElem?_map] at hi
    have hin : i < n := by
      cases hr : (List.range n)[i]? with
      | none => rw [hr] at hi; cases hi
      | some j => have := (List.getElem?_eq_some_iff.1 hr).1; simpa using this
    rw [List.getElem?_range hin] at hi
    obtain rfl := Option.some.inj hi
    have := hf i hin
    rw [List.getElem?_eq_getElem (by omega), he] at this
    refine ⟨xs[i], ?_⟩
    simp only [fld, he]
    exact this
  simpa using this
theorem okWide_array {w : World} {r : Reach} {base : Nat} {v : Value} {n : Nat} {e : TypeId} (ht : P.underlying t = some (.array n e)) (h : Value.okWide P w r base t v) : ∃ cs, v = .agg cs := by
  simp only [Value.okWide, ht] at h
  obtain ⟨cs, h1, _⟩ := h
  exact ⟨cs, h1⟩
theorem OpensV.array {n : Nat} {e : TypeId} {α : Type} {f : α → List AVal} {Pa : α → Prop} (ht : P.underlying t = some (.array n e)) (h : Opens P t f Pa) : OpensV P t (fun a => .agg (f a)) Pa := by
  constructor
  intro H enc w base b0 r spare held v d ps hval ⟨fuel, hf⟩
  obtain ⟨cs, rfl⟩ := okWide_array ht hval
  obtain ⟨a, h1, h2⟩ := h.op hf
  refine ⟨a, h1, .agg cs (f a) (by simpa [Value.cells] using h2.1) fun i u c hu hc => h2.2 i u c (by simpa [Value.cells] using hu) hc⟩
end
end Go.Ab
