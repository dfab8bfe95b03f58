/-
  Decode and Seek of chapter 7, where bytes are some cells and where they are none.
-/
import Derived.Test.YtgmnpgohkabfcaaBlockXSeek
namespace Go.Proofs.Ytgmnpgohkabfcaa.Bl
open Go.RowKit L Oct
def RetYes (w : World) (l : List Cl) (e : Ending) (w' : World) : Prop := ∃ v, e = .returned (.tuple #[v, .int .i64 0]) ∧ Own w' w.heap.size 36 4 v l.length (cls l) ∧ Below w.heap.size w w'
theorem ret_yes {w : World} {b : List UInt8} {l : List Cl} (hl : DecOk b l) {e : Ending} {w' : World} (h : RetDec w b e w') : RetYes w l e w' := by
  obtain ⟨hb, ⟨m, v, hm, rfl, ho⟩ | ⟨hno, rfl⟩⟩ := h
  · obtain rfl := decOk_one hm hl
    exact ⟨v, rfl, ho, hb⟩
  · exact (hno l hl).elim
theorem ret_no {w : World} {b : List UInt8} (hn : ∀ l, ¬ DecOk b l) {e : Ending} {w' : World} (h : RetDec w b e w') : e = .returned (.tuple #[.slice none 0 0, .int .i64 3]) ∧ Below w.heap.size w w' := by
  obtain ⟨hb, ⟨m, v, hm, rfl, ho⟩ | ⟨hno, rfl⟩⟩ := h
  · exact (hn m hm).elim
  · exact ⟨rfl, hb⟩
theorem seek_yes {w : World} {b : List UInt8} {l : List Cl} {key : ByteArray} {q : Int} (hl : DecOk b l) {e : Ending} {w' : World} (h : RetSeek w b key q e w') : e = .returned (.tuple #[(seekC l key q).1.agg, .bool (seekC l key q).2, .int .i64 0]) ∧ Below w.heap.size w w' := by
  obtain ⟨hb, ⟨m, hm, rfl⟩ | ⟨hno, rfl⟩⟩ := h
  · obtain rfl := decOk_one hm hl
    exact ⟨rfl, hb⟩
  · exact (hno l hl).elim
theorem seek_no {w : World} {b : List UInt8} {key : ByteArray} {q : Int} (hn : ∀ l, ¬ DecOk b l) {e : Ending} {w' : World} (h : RetSeek w b key q e w') : e = .returned (.tuple #[zeroC, .bool false, .int .i64 3]) ∧ Below w.heap.size w w' := by
  obtain ⟨hb, ⟨m, hm, rfl⟩ | ⟨hno, rfl⟩⟩ := h
  · exact (hn m hm).elim
  · exact ⟨rfl, hb⟩
end Go.Proofs.Ytgmnpgohkabfcaa.Bl
