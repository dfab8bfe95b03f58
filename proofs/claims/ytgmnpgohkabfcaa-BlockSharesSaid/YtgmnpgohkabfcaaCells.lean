/-
  Cells of the store (api.Cell): a key, a value, whether it is gone, a number; slices of them, and what they read.
-/
import Derived.Test.YtgmnpgohkabfcaaFetch
namespace Go.Proofs.Ytgmnpgohkabfcaa.Bl
open Go.RowKit L
/-- a cell -/
structure Cl where
  key : ByteArray
  val : ByteArray
  del : Bool
  seq : Int
instance : Inhabited Cl := ⟨⟨ByteArray.empty, ByteArray.empty, false, 0⟩⟩
def Cl.vals (c : Cl) : List Value := [.string c.key, .string c.val, .bool c.del, .int .i64 c.seq]
def Cl.agg (c : Cl) : Value := .agg #[.string c.key, .string c.val, .bool c.del, .int .i64 c.seq]
def cls : List Cl → List Value
  | [] => []
  | c :: r => .string c.key :: .string c.val :: .bool c.del :: .int .i64 c.seq :: cls r
theorem cls_length : ∀ l : List Cl, (cls l).length = l.length * 4
  | [] => rfl
  | c :: r => by simp only [cls, List.length_cons, cls_length r]; omega
theorem cls_append : ∀ a b : List Cl, cls (a ++ b) = cls a ++ cls b
  | [], _ => rfl
  | c :: r, b => by simp only [cls, List.cons_append, cls_append r b]
theorem cls_one : ∀ (l : List Cl), ∀ u ∈ cls l, u.oneCell' = true
  | [], u, h => by cases h
  | c :: r, u, h => by
    simp only [cls, List.mem_cons] at h
    rcases h with rfl | rfl | rfl | rfl | h
    · rfl
    · rfl
    · rfl
    · rfl
    · exact cls_one r u h
theorem cls_get : ∀ (l : List Cl) (k j : Nat), k < l.length → j < 4 → (cls l).getD (k * 4 + j) undef = (l.getD k default).vals.getD j undef
  | c :: r, 0, j, _, hj => by
    match j, hj with
    | 0, _ => rfl
    | 1, _ => rfl
    | 2, _ => rfl
    | 3, _ => rfl
  | c :: r, k + 1, j, hk, hj => by
    have := cls_get r k j (by simpa using hk) hj
    rw [show (k + 1) * 4 + j = k * 4 + j + 1 + 1 + 1 + 1 from by omega]
    simpa [cls, List.getD] using this
/-- the cells of a cell at an address -/
structure CellAt (w : World) (A : Addr) (c : Cl) : Prop where
  key : w.cell? A = some (.string c.key)
  val : w.cell? ⟨A.block, A.off + 1, none⟩ = some (.string c.val)
  del : w.cell? ⟨A.block, A.off + 2, none⟩ = some (.bool c.del)
  seq : w.cell? ⟨A.block, A.off + 3, none⟩ = some (.int .i64 c.seq)
theorem _root_.Go.Proofs.Ytgmnpgohkabfcaa.L.Sl.atCl {P : Program} {w : World} {v : Value} {l : List Cl} (h : Sl w 4 v l.length (cls l)) {t e : TypeId} (ht : P.underlying t = some (.slice e)) (hs : (P.info? e).map (fun i => i.size) = some 4) (k : Nat) (i : Int) (hi : i = (k : Int)) (hk : k < l.length) :
    ∃ (A : Addr) (c : Cl), (∀ w' : World, (Instr.indexAt t v (.int .i64 i)).run P w' = .ok (.pointer (some A)) w') ∧ some A.block = v.ownBlock ∧ CellAt w A c ∧ Hid (c = l.getD k default) := by
  subst hi
  obtain ⟨A, hA, hblk, hcell⟩ := run_indexAt_sl (P := P) h ht hs .i64 (k : Int) (by omega) (by omega)
  have h0 := hcell 0 (by omega)
  have h1 := hcell 1 (by omega)
  have h2 := hcell 2 (by omega)
  have h3 := hcell 3 (by omega)
  simp only [Int.toNat_natCast] at h0 h1 h2 h3
  rw [cls_get l k _ hk (by omega)] at h0 h1 h2 h3
  exact ⟨A, _, hA, hblk, ⟨h0, h1, h2, h3⟩, Lib.hid rfl⟩
theorem CellAt.below' {w w' : World} {A : Addr} {c : Cl} (h : CellAt w A c) (hb : Below w.heap.size w w') : CellAt w' A c := by
  have hlt := World.block_lt_of_cell? w _ h.key
  exact ⟨(hb.cell hlt).trans h.key, (hb.cell (p := ⟨A.block, A.off + 1, none⟩) hlt).trans h.val, (hb.cell (p := ⟨A.block, A.off + 2, none⟩) hlt).trans h.del, (hb.cell (p := ⟨A.block, A.off + 3, none⟩) hlt).trans h.seq⟩
end Go.Proofs.Ytgmnpgohkabfcaa.Bl
