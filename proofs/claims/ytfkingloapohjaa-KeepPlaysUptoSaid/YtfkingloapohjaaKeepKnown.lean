/-
  'known' of the laws of chapter 4.
-/
import Derived.Test.YtfkingloapohjaaF12
import Derived.Lib.SlBytesConst
namespace Go.Proofs.Ytfkingloapohjaa.Kp
open Go.RowKit L Oct Dsk Fr
def sA : ByteArray := ⟨#[97]⟩
theorem save_new {x : List UInt8} (h : (rec_ x).length ≤ 1000) : save ⟨1000, [], false, 0⟩ sA x = (⟨1000, [⟨sA, rec_ x, (rec_ x).length⟩], false, 0⟩, 0) := by
  rw [save, if_pos (by decide)]
  show tailS _ _ _ = _
  unfold tailS
  obtain ⟨R, hR⟩ : ∃ R, R = rec_ x := ⟨_, rfl⟩
  rw [← hR] at h ⊢
  have e1 : (⟨1000, [], false, 0⟩ : D).append (sh sA) R = (⟨1000, [⟨sh sA, R, 0⟩], false, 0⟩, 0) := by
    rw [append_ok (d := ⟨1000, [], false, 0⟩) (by rfl) (by show 0 + _ ≤ 1000; omega) (by show 0 < 4096; omega)]; rfl
  rw [e1]
  rfl
theorem load_whole {room : Nat} {s : ByteArray} {p : List UInt8} {n : Nat} (c : Nat) (hp : p.length ≤ 1048576) : load ((⟨room, [⟨s, rec_ p, (rec_ p).length⟩], false, n⟩ : D).crash c) s = (p, 0) := by
  have e : (⟨room, [⟨s, rec_ p, (rec_ p).length⟩], false, n⟩ : D).crash c = ⟨room, [⟨s, rec_ p, stays c ⟨s, rec_ p, (rec_ p).length⟩⟩], false, n⟩ := by
    show (⟨room, [crashF c ⟨s, rec_ p, (rec_ p).length⟩], false, n⟩ : D) = _
    unfold crashF
    have : stays c ⟨s, rec_ p, (rec_ p).length⟩ = (rec_ p).length := by unfold stays; simp [Nat.mod_one]
    simp [this]
  rw [e, load]
  have : getF [⟨s, rec_ p, stays c ⟨s, rec_ p, (rec_ p).length⟩⟩] s = some ⟨s, rec_ p, stays c ⟨s, rec_ p, (rec_ p).length⟩⟩ := by simp [getF]
  rw [show (⟨room, [⟨s, rec_ p, stays c ⟨s, rec_ p, (rec_ p).length⟩⟩], false, n⟩ : D).fs = [⟨s, rec_ p, stays c ⟨s, rec_ p, (rec_ p).length⟩⟩] from rfl, this]
  show (if (unone (rec_ p)).2 = 0 then _ else _) = _
  rw [unone_rec p hp]; rfl
set_option maxRecDepth 100000 in
set_option maxHeartbeats 1600000 in
theorem known_any (w : World) : Calls Try.prog 7 #[] w fun e w' => e = .returned (.bool true) ∧ Below w.heap.size w w' := by
  have kc := fun (w : World) (C : Array Value) (n c : Nat) => Lib.run_convert_bytes_const (P := Try.prog) w 23 5 C n c Try.underlying23 Try.underlying5
  have kc2 := fun (w : World) (o : Obj) (C : Array Value) (n c : Nat) => run_conv_const2 (P := Try.prog) w o 23 5 C n c Try.underlying23 Try.underlying5
  go_enter Try.func7, Try.ntmps7
  go_wp2_with fail
  refine (new_ok (Hold.start w) 1000 (by omega)).mono ?_
  rintro e w1 ⟨_, rfl, b, rfl, h1⟩
  unfold ptr
  go_wp2_with fail
  have s1 := slConst w1 [49, 50] 5 2 (by decide) rfl
  have s2 := slConst (w1.alloc (.cells (u8s [49, 50]).toArray 5 (2, 2 + 1))) [51] 5 1 (by decide) (b := w1.heap.size + 1) (by simp)
  have hr := rowsLit2 23 (sl_alloc s1 (.cells (u8s [51]).toArray 5 (1, 1 + 1))) s2 (b := w1.heap.size + 1 + 1) (by simp)
  have h2 := h1.keeps ((((Below.refl w1.heap.size w1).alloc (Nat.le_refl _) (.cells (u8s [49, 50]).toArray 5 (2, 2 + 1))).alloc (by simp) (.cells (u8s [51]).toArray 5 (1, 1 + 1))).alloc (by simp; omega) (.cells #[.slice (some ⟨w1.heap.size, 0, none⟩) 2 2, .slice (some ⟨w1.heap.size + 1, 0, none⟩) 1 1] 23))
  refine (save_any h2 ⟨by decide, by decide, by decide, fun f hf => by cases hf⟩ sA (by decide) _ [[49, 50], [51]] hr (by decide) (by decide)).mono ?_
  rintro e w2 ⟨rfl, h3⟩
  rw [show ([[49, 50], [51]] : List (List UInt8)).flatten = [49, 50, 51] from rfl, save_new (by rw [rec_length]; decide)] at h3 ⊢
  clear h1 h2 hr s1 s2
  have Hl := Lib.hid (load_whole (room := 1000) (s := sA) (p := [49, 50, 51]) (n := 0) 0 (by decide))
  have Hlen : Hid ((rec_ [49, 50, 51]).length = 15) := Lib.hid (by rw [rec_length]; rfl)
  go_wp2_with fail
  refine (crash_any h3 0 (by decide) (fun f hf => by
    have : f = ⟨sA, rec_ [49, 50, 51], (rec_ [49, 50, 51]).length⟩ := by simpa using hf
    subst this; exact ⟨Nat.le_refl _, by show (rec_ [49, 50, 51]).length ≤ _; rw [Hlen.out]; decide⟩)).mono ?_
  rintro e w3 ⟨rfl, h4⟩
  have Hcl : Hid (∀ f ∈ ((⟨1000, [⟨sA, rec_ [49, 50, 51], (rec_ [49, 50, 51]).length⟩], false, 0⟩ : D).crash (0 : Int).toNat).fs, f.data.length ≤ 1073741824) := Lib.hid fun f hf => by
    obtain ⟨g, hg, rfl⟩ := List.mem_map.1 hf
    have : g = ⟨sA, rec_ [49, 50, 51], (rec_ [49, 50, 51]).length⟩ := by simpa using hg
    subst this
    have h := crash_len (0 : Int).toNat ⟨sA, rec_ [49, 50, 51], (rec_ [49, 50, 51]).length⟩
    have h2 : (rec_ [49, 50, 51]).length = 15 := Hlen.out
    exact Nat.le_trans h (by show (rec_ [49, 50, 51]).length ≤ _; omega)
  clear h3
  go_wp2_with fail
  refine (load_any h4 sA Hcl.out).mono ?_
  rintro e w4 ⟨v, rfl, ho, hb⟩
  rw [show (0 : Int).toNat = 0 from rfl, Hl.out] at ho ⊢
  have h5 := (h4.keeps hb).old
  clear h4 hb
  go_wp2_with fail
  have hc := slConst w4 [49, 50, 51] 5 3 (by decide) rfl
  refine (same_any v _ [49, 50, 51] [49, 50, 51] _ (sl_alloc ho.sl (.cells (u8s [49, 50, 51]).toArray 5 (3, 3 + 1))) hc).mono ?_
  rintro e w5 ⟨rfl, hb5⟩
  have h6 : Hid (Below w.heap.size w w5) := Lib.hid ((h5.alloc h5.size _).trans (hb5.mono (by simp; have := h5.size; omega)))
  clear hc ho h5 hb5
  go_wp2
  go_ret
  exact ⟨rfl, h6.out⟩
end Go.Proofs.Ytfkingloapohjaa.Kp
