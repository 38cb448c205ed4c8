/- Reading the program's data: links and networks. No condition. -/
import Derived.Test.YtijicdmpidbacaaPl8
import Derived.Test.YtijicdmpidbacaaSp
namespace Go.Proofs.Ytijicdmpidbacaa.Pl
open Go Go.RowKit Go.WideShapes Go.ChangeShapes Go.ChangeAt Go.Joins Go.Deep
theorem one3 : Try.prog.cellsOf 3 = 1 := by kernel_rfl
theorem cells35 : Try.prog.cellsOf 35 = 4 := by kernel_rfl
theorem list4 {β : Type} {l : List β} (h : l.length = 4) : ∃ a b c d, l = [a, b, c, d] := by
  match l, h with
  | [a, b, c, d], _ => exact ⟨a, b, c, d, rfl⟩
theorem reads_link : Reads Try.prog Link 35 := fun H enc w b sp hd n cs z h => by
  obtain ⟨xs, n', _, rfl, hl, hlen, hf⟩ := DataW.trod_struct Try.underlying35 h
  rw [cells35] at hl
  obtain ⟨c0, c1, c2, c3, rfl⟩ := list4 hl
  obtain ⟨y0, y1, y2, y3, rfl⟩ := list4 (l := xs) hlen
  · have h0 : DataW.trod enc Try.prog w b sp hd n' 3 [c0] = some y0 := by simpa [one3] using hf 0 _ rfl
    have h1 : DataW.trod enc Try.prog w b sp hd n' 3 [c1] = some y1 := by simpa [one3] using hf 1 _ rfl
    have h2 : DataW.trod enc Try.prog w b sp hd n' 3 [c2] = some y2 := by simpa [one3] using hf 2 _ rfl
    have h3 : DataW.trod enc Try.prog w b sp hd n' 3 [c3] = some y3 := by simpa [one3] using hf 3 _ rfl
    obtain ⟨x0, e0, _⟩ := DataW.trod_int Try.underlying3 h0
    obtain ⟨x1, e1, _⟩ := DataW.trod_int Try.underlying3 h1
    obtain ⟨x2, e2, _⟩ := DataW.trod_int Try.underlying3 h2
    obtain ⟨x3, e3, _⟩ := DataW.trod_int Try.underlying3 h3
    simp at e0 e1 e2 e3
    subst e0; subst e1; subst e2; subst e3
    exact ⟨⟨x0, x1, x2, x3⟩, rfl⟩
theorem reads_links : Reads Try.prog (List Link) 22 := reads_slice Try.underlying22 cells35 reads_link
end Go.Proofs.Ytijicdmpidbacaa.Pl
