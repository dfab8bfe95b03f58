/-
  The reference's disk (chapter 3) in memory: its own cells, a row of files, and the files' bytes, which are read alone.
-/
import Derived.Test.YtfkingloapohjaaF5
import Derived.Test.YtfkingloapohjaaF3
namespace Go.Proofs.Ytfkingloapohjaa.Dsk
open Go.RowKit L Oct
instance : Inhabited AF := ⟨⟨ByteArray.empty, [], 0⟩⟩
instance : Inhabited (AF × Value) := ⟨(default, undef)⟩
/-- the cells of files -/
def rcl : List (AF × Value) → List Value
  | [] => []
  | p :: r => .string p.1.name :: p.2 :: .int .i64 p.1.lasts :: rcl r
theorem rcl_length : ∀ l, (rcl l).length = l.length * 3
  | [] => rfl
  | p :: r => by simp only [rcl, List.length_cons, rcl_length r]; omega
theorem rcl_append : ∀ a b, rcl (a ++ b) = rcl a ++ rcl b
  | [], _ => rfl
  | p :: r, b => by simp only [rcl, List.cons_append, rcl_append r b]
theorem rcl_get : ∀ (l : List (AF × Value)) (k : Nat), k < l.length → (rcl l).getD (k * 3) undef = .string (l.getD k default).1.name ∧ (rcl l).getD (k * 3 + 1) undef = (l.getD k default).2 ∧ (rcl l).getD (k * 3 + 2) undef = .int .i64 (l.getD k default).1.lasts
  | p :: r, 0, _ => ⟨rfl, rfl, rfl⟩
  | p :: r, k + 1, hk => by
    have := rcl_get r k (by simpa using hk)
    rw [show (k + 1) * 3 + 1 = k * 3 + 1 + 1 + 1 + 1 from by omega, show (k + 1) * 3 + 2 = k * 3 + 2 + 1 + 1 + 1 from by omega, show (k + 1) * 3 = k * 3 + 1 + 1 + 1 from by omega]
    simpa [rcl, List.getD] using this
theorem rcl_take (l : List (AF × Value)) (k : Nat) (hk : k ≤ l.length) : (rcl l).take (k * 3) = rcl (l.take k) := by
  have h := rcl_append (l.take k) (l.drop k)
  rw [List.take_append_drop] at h
  rw [h, List.take_left' (by rw [rcl_length, List.length_take]; omega)]
theorem rcl_drop (l : List (AF × Value)) (k : Nat) (hk : k ≤ l.length) : (rcl l).drop (k * 3) = rcl (l.drop k) := by
  have h := rcl_append (l.take k) (l.drop k)
  rw [List.take_append_drop] at h
  rw [h, List.drop_left' (by rw [rcl_length, List.length_take]; omega)]
theorem rcl_setB : ∀ (l : List (AF × Value)) (k : Nat) (f : AF) (u : Value), k < l.length → f.name = (l.getD k default).1.name → f.lasts = (l.getD k default).1.lasts → (rcl l).set (k * 3 + 1) u = rcl (l.set k (f, u))
  | p :: r, 0, f, u, _, h1, h2 => by
    have h1' : f.name = p.1.name := h1
    have h2' : f.lasts = p.1.lasts := h2
    simp [rcl, h1', h2']
  | p :: r, k + 1, f, u, hk, h1, h2 => by
    have := rcl_setB r k f u (by simpa using hk) (by simpa using h1) (by simpa using h2)
    rw [show (k + 1) * 3 + 1 = k * 3 + 1 + 1 + 1 + 1 from by omega]
    simpa [rcl] using this
theorem rcl_setL : ∀ (l : List (AF × Value)) (k : Nat) (f : AF), k < l.length → f.name = (l.getD k default).1.name → (rcl l).set (k * 3 + 2) (.int .i64 f.lasts) = rcl (l.set k (f, (l.getD k default).2))
  | p :: r, 0, f, _, h1 => by
    have h1' : f.name = p.1.name := h1
    simp [rcl, h1']
  | p :: r, k + 1, f, hk, h1 => by
    have := rcl_setL r k f (by simpa using hk) (by simpa using h1)
    rw [show (k + 1) * 3 + 2 = k * 3 + 2 + 1 + 1 + 1 from by omega]
    simpa [rcl] using this
/-- every value is a slice, that is one cell -/
def SlcV (l : List (AF × Value)) : Prop := ∀ p ∈ l, p.2.oneCell' = true
theorem rcl_one : ∀ l, SlcV l → ∀ u ∈ rcl l, u.oneCell' = true
  | [], _, u, h => by cases h
  | p :: r, hs, u, h => by
    simp only [rcl, List.mem_cons] at h
    rcases h with rfl | rfl | rfl | h
    · rfl
    · exact hs p (List.mem_cons_self ..)
    · rfl
    · exact rcl_one r (fun q hq => hs q (List.mem_cons_of_mem _ hq)) u h
/-- bytes of files, read alone -/
def InB (l : List (AF × Value)) : Asrt where
  at_ F w := (∀ p ∈ l, Sl w 1 p.2 p.1.data.length (u8s p.1.data)) ∧ ∀ k, F k ↔ ∃ p ∈ l, p.2.ownBlock = some k ∧ 0 < p.1.data.length
  stay := by
    rintro F w w' ⟨h1, h2⟩ hk
    refine ⟨fun p hp => ?_, h2⟩
    by_cases hl : 0 < p.1.data.length
    · exact (h1 p hp).kept fun b hb => hk b ((h2 b).2 ⟨p, hp, hb, hl⟩)
    · exact (h1 p hp).none (by omega)
  lt := by
    rintro F w ⟨h1, h2⟩ k hk
    obtain ⟨p, hp, hb, hl⟩ := (h2 k).1 hk
    exact (h1 p hp).lt (by omega) k hb
section
variable {W0 w w' : World} {R : Asrt} {l m : List (AF × Value)} {v : Value} {n : Nat}
theorem _root_.Go.Proofs.Ytfkingloapohjaa.L.Hold.inB (h : Hold W0 ((InB l).sep R) w) : ∀ p ∈ l, Sl w 1 p.2 p.1.data.length (u8s p.1.data) := by
  obtain ⟨F, ⟨h1, _⟩, _⟩ := h.take
  exact h1
theorem inB_slc (h : Hold W0 ((InB l).sep R) w) : SlcV l := fun p hp => (h.inB p hp).one
theorem inB_sub (h : Hold W0 ((InB l).sep R) w) (hm : ∀ p ∈ m, ∃ q ∈ l, p.2 = q.2 ∧ p.1.data = q.1.data) : Hold W0 ((InB m).sep R) w := by
  obtain ⟨h1, F, hF, F1, F2, h2, h3, ⟨h4, h5⟩, h6⟩ := h
  have hsub : ∀ k, (∃ p ∈ m, p.2.ownBlock = some k ∧ 0 < p.1.data.length) → F1 k := by
    rintro k ⟨p, hp, hb, hl⟩
    obtain ⟨q, hq, e1, e2⟩ := hm p hp
    exact (h5 k).2 ⟨q, hq, by rw [← e1]; exact hb, by rw [← e2]; exact hl⟩
  refine ⟨h1, fun k => (∃ p ∈ m, p.2.ownBlock = some k ∧ 0 < p.1.data.length) ∨ F2 k, ?_, _, F2, fun k => Iff.rfl, fun k hk => h3 k (hsub k hk), ⟨fun p hp => ?_, fun k => Iff.rfl⟩, h6⟩
  · rintro k (hk | hk)
    · exact hF k ((h2 k).2 (.inl (hsub k hk)))
    · exact hF k ((h2 k).2 (.inr hk))
  · obtain ⟨q, hq, e1, e2⟩ := hm p hp
    rw [e1, e2]
    exact h4 q hq
/-- bytes that were made become a file's -/
theorem inB_join {f : AF} (h : Hold W0 ((Row 5 1 v n (u8s f.data)).sep ((InB l).sep R)) w) (hn : n = f.data.length) : Hold W0 ((InB ((f, v) :: l)).sep R) w := by
  subst hn
  have hs := h.sl
  obtain ⟨h1, F, hF, F1, F2, h2, h3, ⟨ho, h4⟩, F3, F4, h5, h6, ⟨h7, h8⟩, h9⟩ := h
  refine ⟨h1, fun k => (v.ownBlock = some k ∧ 0 < f.data.length) ∨ F3 k ∨ F4 k, ?_, fun k => (v.ownBlock = some k ∧ 0 < f.data.length) ∨ F3 k, F4, fun k => by rw [or_assoc], ?_, ⟨fun p hp => ?_, fun k => ?_⟩, h9⟩
  · rintro k (⟨hk, _⟩ | hk | hk)
    · exact hF k ((h2 k).2 (.inl ((h4 k).2 hk)))
    · exact hF k ((h2 k).2 (.inr ((h5 k).2 (.inl hk))))
    · exact hF k ((h2 k).2 (.inr ((h5 k).2 (.inr hk))))
  · rintro k (⟨hk, _⟩ | hk) hk4
    · exact h3 k ((h4 k).2 hk) ((h5 k).2 (.inr hk4))
    · exact h6 k hk hk4
  · rcases List.mem_cons.1 hp with rfl | hp
    · exact hs
    · exact h7 p hp
  · constructor
    · rintro (⟨hk, hl⟩ | hk)
      · exact ⟨(f, v), List.mem_cons_self .., hk, hl⟩
      · obtain ⟨p, hp, hb⟩ := (h8 k).1 hk
        exact ⟨p, List.mem_cons_of_mem _ hp, hb⟩
    · rintro ⟨p, hp, hb⟩
      rcases List.mem_cons.1 hp with rfl | hp
      · exact .inl hb
      · exact .inr ((h8 k).2 ⟨p, hp, hb⟩)
theorem inB_add {f : AF} (h : Hold W0 ((InB l).sep R) w) (hb : Below w.heap.size w w') (ho : Own w' w.heap.size 5 1 v f.data.length (u8s f.data)) : Hold W0 ((InB ((f, v) :: l)).sep R) w' :=
  inB_join (h.addRow hb ho) rfl
theorem inB_nil (h : Hold W0 R w) : Hold W0 ((InB []).sep R) w :=
  h.add (Below.refl _ _) (A := InB []) (F := fun _ => False) ⟨(fun p hp => by cases hp), (fun k => by simp)⟩ fun _ h => h.elim
/-- a file without bytes more -/
theorem inB_zero {f : AF} (h : Hold W0 ((InB l).sep R) w) (hf : f.data = []) : Hold W0 ((InB ((f, .slice none 0 0) :: l)).sep R) w :=
  inB_join (v := .slice none 0 0) (n := 0) (by rw [hf]; exact h.addNil 5 1) (by rw [hf]; rfl)
end
/-- the reference's disk; left: -1 if there is no fuse -/
structure RD where
  room : Nat
  fs : List AF
  left : Int
def RefA (b : Nat) (r : RD) : Asrt := ExA fun y : Value × { l : List (AF × Value) // l.map Prod.fst = r.fs } =>
  (Blk b #[.int .i64 r.room, y.1, .int .i64 r.left] 76).sep ((Row 81 3 y.1 y.2.1.length (rcl y.2.1)).sep (InB y.2.1))
section
variable {W0 w : World} {R : Asrt} {b : Nat} {r : RD}
theorem ref_open (h : Hold W0 ((RefA b r).sep R) w) : ∃ v l, l.map Prod.fst = r.fs ∧
    Hold W0 ((Blk b #[.int .i64 r.room, v, .int .i64 r.left] 76).sep ((Row 81 3 v l.length (rcl l)).sep ((InB l).sep R))) w := by
  obtain ⟨⟨v, l, hl⟩, h⟩ := h.unex
  exact ⟨v, l, hl, h.perm (by ac_rfl)⟩
theorem ref_shut {v : Value} {l : List (AF × Value)} (hl : l.map Prod.fst = r.fs) (h : Hold W0 ((Blk b #[.int .i64 r.room, v, .int .i64 r.left] 76).sep ((Row 81 3 v l.length (rcl l)).sep ((InB l).sep R))) w) : Hold W0 ((RefA b r).sep R) w :=
  Hold.toex (f := fun y : Value × { l : List (AF × Value) // l.map Prod.fst = r.fs } => (Blk b #[.int .i64 r.room, y.1, .int .i64 r.left] 76).sep ((Row 81 3 y.1 y.2.1.length (rcl y.2.1)).sep (InB y.2.1))) (v, ⟨l, hl⟩) (h.perm (by ac_rfl))
end
theorem elF : ElemOk Try.prog 74 81 3 48 := elemOk Try.underlying74 Try.info81 rfl (by decide)
/-- a file of a row, read -/
theorem _root_.Go.Proofs.Ytfkingloapohjaa.L.Sl.atF {w : World} {v : Value} {l : List (AF × Value)} (h : Sl w 3 v l.length (rcl l)) (k : Nat) (i : Int) (hi : i = (k : Int)) (hk : k < l.length) :
    ∃ (A : Addr) (p : AF × Value), (∀ w' : World, (Instr.indexAt 74 v (.int .i64 i)).run Try.prog w' = .ok (.pointer (some A)) w') ∧ w.cell? A = some (.string p.1.name) ∧ w.cell? ⟨A.block, A.off + 1, none⟩ = some p.2 ∧ w.cell? ⟨A.block, A.off + 2, none⟩ = some (.int .i64 p.1.lasts) ∧ Hid (p = l.getD k default) := by
  subst hi
  obtain ⟨A, hA, hblk, hcell⟩ := run_indexAt_sl (P := Try.prog) h Try.underlying74 Try.size81 .i64 (k : Int) (by omega) (by omega)
  have h0 := hcell 0 (by omega)
  have h1 := hcell 1 (by omega)
  have h2 := hcell 2 (by omega)
  simp only [Int.toNat_natCast, Nat.add_zero] at h0 h1 h2
  obtain ⟨g0, g1, g2⟩ := rcl_get l k hk
  rw [g0] at h0
  rw [g1] at h1
  rw [g2] at h2
  exact ⟨A, _, hA, h0, h1, h2, Lib.hid rfl⟩
end Go.Proofs.Ytfkingloapohjaa.Dsk
