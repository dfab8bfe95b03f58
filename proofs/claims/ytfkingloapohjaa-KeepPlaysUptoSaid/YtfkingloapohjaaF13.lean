/-
  Texts that the proofs of this seat stand on, one behind the other: contracts of functions and plain lemmas. Conditions: those that each theorem states.
-/
import Derived.Test.YtfkingloapohjaaRefPut
import Derived.Test.YtfkingloapohjaaF11
import Derived.Test.YtfkingloapohjaaRefGone
/-
  List of the reference's disk (chapter 3).
-/


namespace Go.Proofs.Ytfkingloapohjaa.Dsk
open Go.RowKit L Oct
section
variable {W0 w : World} {R : Asrt} {b : Nat} {r : RD}
theorem elSx : ElemOk Try.prog 38 9 1 16 := elemOk Try.underlying38 Try.info9 rfl (by decide)
def nms (fs : List AF) : List ByteArray := fs.map AF.name
def RetXList (w : World) (l : List ByteArray) (e : Ending) (w' : World) : Prop := ∃ v, e = .returned v ∧ Own w' w.heap.size 9 1 v l.length (strs l) ∧ Below w.heap.size w w'
def XLRel (w : World) (fs : List AF) (k : Nat) (x : Value) (wr : World) : Prop := Hold w ((Row 9 1 x k (strs (nms (fs.take k)))).sep Asrt.emp) wr
theorem nms_snoc {fs : List AF} {k : Nat} (hk : k < fs.length) : nms (fs.take (k + 1)) = nms (fs.take k) ++ [(fs.getD k default).name] := by
  rw [nms, List.take_succ_eq_append_getElem hk, List.map_append, nms]
  simp [List.getD, hk]
theorem strs_app (a b : List ByteArray) : strs (a ++ b) = strs a ++ strs b := by simp [strs]
theorem strs_one' (a : List ByteArray) : ∀ u ∈ strs a, u.oneCell' = true := fun u hu => by
  obtain ⟨x, _, rfl⟩ := List.mem_map.1 hu
  rfl
set_option maxRecDepth 100000 in
set_option maxHeartbeats 1600000 in
theorem xlist_any (H : Hold W0 ((RefA b r).sep R) w) (hl4 : r.fs.length ≤ 4096) : Calls Try.prog 26 #[ptr b] w (RetXList w (nms r.fs)) := by
  obtain ⟨v, l, hl, H1⟩ := ref_open H
  obtain ⟨fs, hfs⟩ : ∃ fs, fs = r.fs := ⟨_, rfl⟩
  have hll : l.length = fs.length := by rw [hfs, ← hl]; simp
  have HL : Hid (l.map Prod.fst = fs) := Lib.hid (by rw [hl, hfs])
  rw [← hfs] at hl4 ⊢
  have HO := Lib.hid H1
  have HLL := Lib.hid hll
  have hmx : l.length ≤ 4096 := by omega
  have H0 := Lib.hid ((Hold.start w).addNil 9 1)
  clear H1 hl H hfs hll
  show Calls Try.prog 26 #[.pointer (some ⟨b, 0, none⟩)] w _
  go_enter Try.func26, Try.ntmps26
  go_wp2
  go_loopw [3, 4] (fun x i wr => ∃ (k : Nat) (x' : Value), x' = x ∧ k ≤ l.length ∧ i = .int .i64 k ∧ XLRel w fs k x' wr) (fun _ i _ => l.length - (intOf i).toNat)
  case atStart => exact ⟨0, _, rfl, Nat.zero_le _, rfl, H0.out⟩
  case round =>
    clear H0
    obtain ⟨k, x, rfl, hk, rfl, hR⟩ := hrel
    have H2 := HO.out.keeps hR.old
    have k1 := blk_cell H2.blk 1
    have hs := H2.up2.sl
    have hlen := hs.run_len Try.underlying74
    by_cases hlt : k < l.length
    · obtain ⟨A, p, hA, c0, c1, c2, Hp⟩ := hs.atF k _ rfl hlt
      have hsn := nms_snoc (fs := fs) (k := k) (by rw [← HLL.out]; exact hlt)
      rw [← fst_get HL.out k hlt, ← Hp.out] at hsn
      have Hsn := Lib.hid hsn
      unfold XLRel at hR
      have HR := Lib.hid (hR.keeps (below_one3 wr (.cells #[.string p.1.name] 9)))
      have hsx := Lib.hid (sl_built wr [.string p.1.name] 9 (by unfold maxLen; simp))
      clear hsn hR H2 hs
      go_wp2_with (at_builtin; refine wpList_app (sx := .tmp 14) elSx HR.out rfl _ rfl rfl rfl hsx.out (strs_one' [p.1.name]) (by simp only [List.length_singleton]; omega) (by simp only [List.length_singleton]; omega) ?_; intro v5 ys w5 Y5 H5; rw [Y5.out, show [Value.string p.1.name] = strs [p.1.name] from rfl, ← strs_app, ← Hsn.out] at H5; have HN : Hid (XLRel w fs (k + 1) v5 w5) := Lib.hid H5; clear H5 HR)
      go_roundw
      case rel => exact ⟨k + 1, _, rfl, by omega, by go_num, HN.out⟩
      case measure => simp [intOf]; omega
    · obtain rfl : k = l.length := by omega
      unfold XLRel at hR
      have hF := Hold.fin hR
      rw [List.take_of_length_le (by rw [HLL.out]; omega)] at hF
      have HF := Lib.hid hF
      clear hR hF hs H2
      go_wp2
      go_ret
      refine ⟨x, rfl, ?_, HF.out.2⟩
      rw [show (nms fs).length = l.length from by rw [nms, List.length_map, HLL.out]]
      exact HF.out.1
end
end Go.Proofs.Ytfkingloapohjaa.Dsk

/-
  New bytes in the place of a file's (the reference's disk, chapter 3).
-/

namespace Go.Proofs.Ytfkingloapohjaa.Dsk
open Go.RowKit L Oct
section
variable {W0 w : World} {R : Asrt} {b : Nat} {r : RD} {v : Value} {l : List (AF × Value)}
def cutAF (f : AF) (m : Nat) : AF := { f with data := f.data.take m, lasts := min f.lasts m }
def RD.truncate (r : RD) (s : ByteArray) (n : Int) : RD × Nat :=
  if r.may [s] = 0 then if isAt r.fs s then
      if n < 0 ∨ ((r.fs.getD (spotN r.fs s) default).data.length : Int) < n then (r, 1) else ({ r with fs := r.fs.set (spotN r.fs s) (cutAF (r.fs.getD (spotN r.fs s) default) n.toNat) }.did, 0)
    else (r, 7) else (r, r.may [s])
theorem put_end2 {k g n : Nat} {x : List UInt8} {u : Value} {p : AF × Value} (hl : l.map Prod.fst = r.fs) (H : Hold W0 ((Row 5 1 u n (u8s x)).sep ((Blk b #[.int .i64 r.room, v, .int .i64 r.left] 76).sep ((Row 81 3 v l.length (rcl l)).sep ((InB l).sep R)))) w) (hk : k < l.length)
    (hA : ∀ w' : World, (Instr.indexAt 74 v (.int .i64 (k : Int))).run Try.prog w' = .ok (.pointer (some ⟨g, k * 3, none⟩)) w') (hp : p = l.getD k default) (hn : n = x.length) :
    w.frozen? ⟨g, k * 3 + 1, none⟩ = false ∧ (w.setCell ⟨g, k * 3 + 1, none⟩ u).cell? ⟨b, 1, none⟩ = some v ∧ Hold W0 ((RefA b { r with fs := r.fs.set k { p.1 with data := x } }).sep R) (w.setCell ⟨g, k * 3 + 1, none⟩ u) := by
  obtain ⟨_, _, f1, hset⟩ := put_at H hk hA hp
  have h1 := hset { p.1 with data := x } u rfl rfl
  refine ⟨f1, blk_cell h1.up3.blk 1, ?_⟩
  have h2 : Hold W0 ((Row 5 1 u n (u8s x)).sep ((InB l).sep ((Row 81 3 v l.length (rcl (l.set k ({ p.1 with data := x }, u)))).sep ((Blk b #[.int .i64 r.room, v, .int .i64 r.left] 76).sep R)))) _ := h1.perm (by ac_rfl)
  have h3 := inB_join (f := { p.1 with data := x }) h2 hn
  have h4 := inB_set (k := k) (m := l) (f := { p.1 with data := x }) (u := u) h3 (fun q hq => ⟨q, List.mem_cons_of_mem _ hq, rfl, rfl⟩) ⟨_, List.mem_cons_self .., rfl, rfl⟩
  refine ref_shut (r := { r with fs := r.fs.set k { p.1 with data := x } }) (v := v) (map_set hl k _ u) ?_
  rw [List.length_set]
  exact h4.perm (by ac_rfl)
end
end Go.Proofs.Ytfkingloapohjaa.Dsk
