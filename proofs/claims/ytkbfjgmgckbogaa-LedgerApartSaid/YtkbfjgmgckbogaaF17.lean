/-
  Texts that the proofs of this seat stand on, one behind the other: contracts of functions and plain lemmas. Conditions: those that each theorem states.
-/
import Derived.Test.YtkbfjgmgckbogaaF16
import Derived.Test.YtkbfjgmgckbogaaLedWrite
import Derived.Test.YtkbfjgmgckbogaaLedOpen
import Derived.Deep.RegionHeld3
import Derived.Deep.DeepCutAuto
import Derived.Lib.SlBytesConst
/-
  What an Append of a ledger makes (chapter 5), plain.
-/

namespace Go.Proofs.Ytkbfjgmgckbogaa.Ld
open Go.RowKit L Oct Dsk Fr Kp
def logOf (o : Option (List UInt8 × Nat)) (x : List UInt8) : List UInt8 := match o with | none => x | some y => y.1 ++ x
theorem appendL_v {d : D} {g : Lg} {p : List UInt8} {n : Nat} (hi : DInv d n) (hfu : d.fused = false) (hde : g.dead = false) (hp : g.pre.size ≤ 20) (hpl : p.length ≤ 65536) (hla : g.last < 1099511627776)
    (hu : d.used + (rec_ (recL (g.last + 1) p)).length ≤ d.room) (hn : d.fs.length < 4096) :
    ∃ d2, appendL d g p = (d2, { g with ents := g.ents ++ [p] }, g.last + 1, 0) ∧ DInv d2 (n + 1) ∧ d2.fused = false ∧ d2.room = d.room ∧ d2.used = d.used + (rec_ (recL (g.last + 1) p)).length ∧
      fv d2 = upV (fv d) (logN g.pre) (some (logOf (fv d (logN g.pre)) (rec_ (recL (g.last + 1) p)), (logOf (fv d (logN g.pre)) (rec_ (recL (g.last + 1) p))).length)) := by
  obtain ⟨n1, n2, n3⟩ := names_ok hp
  have hff : ∀ {d : D}, d.fused = false → d.fused = true → d.left ≠ 0 := fun h h2 => by rw [h] at h2; cases h2
  obtain ⟨X, hX⟩ : ∃ X, X = rec_ (recL (g.last + 1) p) := ⟨_, rfl⟩
  rw [← hX] at hu ⊢
  have ha := append_ok (may_one n2 (hff hfu)) hu hn
  obtain ⟨a1, a2⟩ := append_v n2 (hff hfu) hu hn
  obtain ⟨d1, hd1⟩ : ∃ d1, d1 = (d.append (logN g.pre) X).1 := ⟨_, rfl⟩
  rw [← hd1] at a2
  have b1 : d1.fused = false ∧ d1.room = d.room ∧ d1.used = d.used + X.length := by
    rw [hd1, ha]
    refine ⟨?_, ?_, ?_⟩
    · show ({ d with fs := _ } : D).done.fused = false
      rw [done_fused]; exact hfu
    · show ({ d with fs := _ } : D).done.room = d.room
      rw [done_room]
    · show ({ d with fs := _ } : D).done.used = _
      rw [done_used]
      exact put_used hi.nd
  have hi1 : DInv d1 (n + 1) := by rw [hd1]; exact hi.append _ _
  have f1 : fv d1 (logN g.pre) = some (logOf (fv d (logN g.pre)) X, match fv d (logN g.pre) with | none => 0 | some y => y.2) := by
    rw [a2]; unfold upV logOf
    rw [if_pos rfl]
    cases fv d (logN g.pre) <;> rfl
  obtain ⟨s1, s2⟩ := sync_v n2 (hff b1.1) f1
  obtain ⟨v1, v2⟩ := sync_fused d1 (logN g.pre)
  have hput : putE d g p = d1.sync [logN g.pre] := by
    unfold putE
    rw [← hX, if_pos a1, hd1]
  have hus : (d1.sync [logN g.pre]).1.used = d1.used := by
    unfold D.sync eachF
    split
    · split
      · rfl
      · show ({ d1 with fs := syncF (logN g.pre) d1.fs } : D).done.used = d1.used
        rw [done_used]
        show Dsk.used (updF d1.fs _ _) = Dsk.used d1.fs
        unfold Dsk.used updF
        rw [List.map_map]
        congr 1
        refine List.map_congr_left fun f _ => ?_
        simp only [Function.comp]
        split <;> rfl
    · rfl
  refine ⟨(d1.sync [logN g.pre]).1, ?_, hi1.sync _, v1.trans b1.1, v2.trans b1.2.1, by rw [hus]; exact b1.2.2, ?_⟩
  · unfold appendL
    rw [if_neg (by rw [hde]; simp), if_neg (by omega), hput, if_pos s1]
  · rw [s2, a2]
    funext t
    unfold upV
    by_cases h : t = logN g.pre
    · rw [if_pos h, if_pos h]
    · rw [if_neg h, if_neg h, if_neg h]
end Go.Proofs.Ytkbfjgmgckbogaa.Ld

/-
  Drop of chapter 5; a ledger that is nil; Open on no disk.
-/




namespace Go.Proofs.Ytkbfjgmgckbogaa.Ld
open Go.RowKit L Oct Dsk Fr Kp
def dropL (d : D) (g : Lg) : D × Lg × Nat :=
  if g.dead then (d, g, 9) else ((removes d [logN g.pre, imgN g.pre]).1, { g with dead := true }, (removes d [logN g.pre, imgN g.pre]).2)
section
variable {W0 w : World} {R : Asrt} {lb b n : Nat} {g : Lg} {d : D}
theorem removes_lit2 {bk : Nat} (H : Hold W0 ((DiskA b d).sep R) w) (hbk : w.heap.size = bk) (hi : DInv d n) (hn : n ≤ 4096) (s t : ByteArray) :
    Calls Try.prog 35 #[ptr b, .slice (some ⟨bk, 0, none⟩) 2 2] (w.alloc (.cells #[.string s, .string t] 9)) (RetApp W0 R b (removes d [s, t])) := by
  subst hbk
  have H1 := (H.addLits [.string s, .string t] 9 (by simp [maxLen]) (b := w.heap.size) rfl).up2
  refine (removes_any H1 hi hn (.slice (some ⟨w.heap.size, 0, none⟩) 2 2) [s, t] (fun w' hw' => hw'.sl)).mono ?_
  rintro e' w' ⟨h1, h2⟩
  exact ⟨h1, h2.up2.drop1⟩
set_option maxHeartbeats 800000 in
theorem dropL_any (H : Hold W0 ((LedgA lb b g).sep ((DiskA b d).sep R)) w) (hg : GOk g) (hi : DInv d n) (hn : n ≤ 4096) :
    Calls Try.prog 13 #[ptr lb] w (RetL W0 R lb b (dropL d g)) := by
  obtain ⟨dv, ev, vs, h1⟩ := led_open H
  have k5 := blk_cell h1.blk 5
  have f5 := blk_free h1.blk 5
  have h2 := led_shut (g := { g with dead := true }) (h1.setB 5 (.bool true))
  have HH := Lib.hid H
  have HI := Lib.hid hi
  unfold ptr
  cases hd : g.dead with
  | true =>
    have he : Hid (dropL d g = (d, g, 9)) := Lib.hid (by rw [dropL, if_pos hd])
    rw [hd] at k5
    clear hd h1 h2 H hi hg
    go_enter Try.func13, Try.ntmps13
    go_wp2
    go_ret
    rw [he.out]
    exact ⟨rfl, HH.out⟩
  | false =>
    rw [hd] at k5
    have he : Hid (dropL d g = ((removes d [logN g.pre, imgN g.pre]).1, { g with dead := true }, (removes d [logN g.pre, imgN g.pre]).2)) := Lib.hid (by rw [dropL, if_neg (by rw [hd]; simp)])
    have HG : Hid (GOk { g with dead := true }) := Lib.hid ⟨hg.pre, hg.base, hg.len, hg.data, hg.ent⟩
    obtain ⟨w2, hw2⟩ : ∃ w2, w2 = w.setCell ⟨lb, 5, none⟩ (.bool true) := ⟨_, rfl⟩
    rw [← hw2] at h2
    have k0 := led_ptr h2
    have m0 := World.new_ne w2 _ k0
    have Hq := Lib.hid h2.drew
    have HW2 := Lib.hid hw2
    clear hd h1 h2 H hi hg hw2 HH
    go_enter Try.func13, Try.ntmps13
    go_upto_region 6 with fail
    rw [← HW2.out]
    clear k5 f5
    go_region_held3 (fun w' => w'.cell? ⟨lb, 0, none⟩ = some (.pointer (some ⟨b, 0, none⟩))) (first | exact hS5 | go_keep)
      (first
        | (go_at_call 29; refine (logName_any Hq.out HG.out).mono ?_; rintro e w4 ⟨rfl, rfl⟩)
        | (go_at_call 34; refine (imageName_any Hq.out HG.out).mono ?_; rintro e w4 ⟨rfl, rfl⟩)
        | (go_at_call 35; refine (removes_lit2 Hq.out.up2 rfl HI.out hn (logN g.pre) (imgN g.pre)).mono ?_; rintro e w16 ⟨rfl, H5⟩; have hS5 : w16.cell? ⟨lb, 0, none⟩ = some (.pointer (some ⟨b, 0, none⟩)) := led_ptr H5.up2))
    all_goals
      have HF := Lib.hid H5.up2
      clear H5 hS5
      go_wp2
      go_ret
      rw [he.out]
      exact ⟨rfl, HF.out⟩
end
end Go.Proofs.Ytkbfjgmgckbogaa.Ld

/-
  'known' of the laws of chapter 5.
-/


namespace Go.Proofs.Ytkbfjgmgckbogaa.Ld
open Go.RowKit L Oct Dsk Fr Kp
def kd (fs : List AF) : D := ⟨65536, fs, false, 0⟩
def sAx : ByteArray := ⟨#[97]⟩
def sImgA : ByteArray := imgN sAx
def sLogA : ByteArray := logN sAx
theorem kd_inv0 : DInv (kd []) 0 := ⟨⟨by show 65536 ≤ _; omega, by show 0 ≤ _; omega, by show 0 ≤ _; omega, fun f hf => by cases hf⟩, Nat.le_refl _, (fun f hf => by cases hf), .nil⟩
theorem open_empty (pre : ByteArray) : openL (kd []) pre = (kd [], new pre, 0) := by
  have h1 : clears (kd []) pre = (kd [], 0) := rfl
  have h2 : image (kd []) (new pre) = (new pre, 0) := rfl
  have h3 : log (kd []) (new pre) = (kd [], new pre, 0) := rfl
  rw [openL, h1]
  show (if (image (kd []) (new pre)).2 = 0 then log (kd []) (image (kd []) (new pre)).1 else _) = _
  rw [h2]
  exact h3
theorem known_1 {X : List UInt8} (h : X.length ≤ 1000) : (kd []).append sLogA X = (kd [⟨sLogA, X, 0⟩], 0) := by
  rw [append_ok (d := kd []) (by rfl) (by show 0 + _ ≤ 65536; omega) (by show 0 < 4096; omega)]; rfl
theorem known_2 (X : List UInt8) : (kd [⟨sLogA, X, 0⟩]).sync [sLogA] = (kd [⟨sLogA, X, X.length⟩], 0) := by rfl
theorem known_3 {X Y : List UInt8} (hX : X.length ≤ 1000) (hY : (rec_ Y).length ≤ 1000) : save (kd [⟨sLogA, X, X.length⟩]) sImgA Y = (kd [⟨sLogA, X, X.length⟩, ⟨sImgA, rec_ Y, (rec_ Y).length⟩], 0) := by
  rw [save, if_pos (by decide)]
  show tailS _ _ _ = _
  unfold tailS
  obtain ⟨Z, hZ⟩ : ∃ Z, Z = rec_ Y := ⟨_, rfl⟩
  rw [← hZ] at hY ⊢
  have e1 : (kd [⟨sLogA, X, X.length⟩]).append (sh sImgA) Z = (kd [⟨sLogA, X, X.length⟩, ⟨sh sImgA, Z, 0⟩], 0) := by
    rw [append_ok (d := kd [⟨sLogA, X, X.length⟩]) (by rfl) (by show X.length + 0 + _ ≤ 65536; omega) (by show 1 < 4096; omega)]; rfl
  rw [e1]
  rfl
theorem known_4 (X Z : List UInt8) (n m : Nat) : removes (kd [⟨sLogA, X, n⟩, ⟨sImgA, Z, m⟩]) [sLogA] = (kd [⟨sImgA, Z, m⟩], 0) := by rfl
theorem known_5 {X Z : List UInt8} {m : Nat} (hX : X.length ≤ 1000) (hZ : Z.length ≤ 1000) : (kd [⟨sImgA, Z, m⟩]).append sLogA X = (kd [⟨sImgA, Z, m⟩, ⟨sLogA, X, 0⟩], 0) := by
  rw [append_ok (d := kd [⟨sImgA, Z, m⟩]) (by rfl) (by show Z.length + 0 + _ ≤ 65536; omega) (by show 1 < 4096; omega)]; rfl
theorem known_6 (X Z : List UInt8) (m : Nat) : (kd [⟨sImgA, Z, m⟩, ⟨sLogA, X, 0⟩]).sync [sLogA] = (kd [⟨sImgA, Z, m⟩, ⟨sLogA, X, X.length⟩], 0) := by rfl
theorem rl_len {n : Nat} {p : List UInt8} (hp : p.length ≤ 500) : (rec_ (recL n p)).length ≤ 1000 := by
  have := recL_length n p (by omega)
  rw [rec_length]; omega
theorem known_a : appendL (kd []) (new sAx) [120] = (kd [⟨sLogA, rec_ (recL 1 [120]), (rec_ (recL 1 [120])).length⟩], ⟨sAx, 0, [], [[120]], false⟩, 1, 0) := by
  have h1 : putE (kd []) (new sAx) [120] = (kd [⟨sLogA, rec_ (recL 1 [120]), (rec_ (recL 1 [120])).length⟩], 0) := by
    rw [putE]
    show (if ((kd []).append sLogA (rec_ (recL 1 [120]))).2 = 0 then ((kd []).append sLogA (rec_ (recL 1 [120]))).1.sync [sLogA] else (kd []).append sLogA (rec_ (recL 1 [120]))) = _
    rw [known_1 (rl_len (by decide)), if_pos rfl, known_2]
  rw [appendL, h1]
  rfl
theorem known_b : writeL (kd [⟨sLogA, rec_ (recL 1 [120]), (rec_ (recL 1 [120])).length⟩]) ⟨sAx, 0, [], [[120]], false⟩ 1 [121] = (kd [⟨sImgA, rec_ (recL 1 [121]), (rec_ (recL 1 [121])).length⟩], ⟨sAx, 1, [121], [], false⟩, 0) := by
  have h1 : putI (kd [⟨sLogA, rec_ (recL 1 [120]), (rec_ (recL 1 [120])).length⟩]) ⟨sAx, 0, [], [[120]], false⟩ 1 [121] = (kd [⟨sImgA, rec_ (recL 1 [121]), (rec_ (recL 1 [121])).length⟩], 0) := by
    rw [putI]
    show (if (save _ sImgA (recL 1 [121])).2 = 0 then removes (save _ sImgA (recL 1 [121])).1 [sLogA] else save _ sImgA (recL 1 [121])) = _
    rw [known_3 (rl_len (by decide)) (rl_len (by decide)), if_pos rfl, known_4]
  rw [writeL, h1]
  rfl
theorem known_c : appendL (kd [⟨sImgA, rec_ (recL 1 [121]), (rec_ (recL 1 [121])).length⟩]) ⟨sAx, 1, [121], [], false⟩ [122] =
    (kd [⟨sImgA, rec_ (recL 1 [121]), (rec_ (recL 1 [121])).length⟩, ⟨sLogA, rec_ (recL 2 [122]), (rec_ (recL 2 [122])).length⟩], ⟨sAx, 1, [121], [[122]], false⟩, 2, 0) := by
  have h1 : putE (kd [⟨sImgA, rec_ (recL 1 [121]), (rec_ (recL 1 [121])).length⟩]) ⟨sAx, 1, [121], [], false⟩ [122] = (kd [⟨sImgA, rec_ (recL 1 [121]), (rec_ (recL 1 [121])).length⟩, ⟨sLogA, rec_ (recL 2 [122]), (rec_ (recL 2 [122])).length⟩], 0) := by
    rw [putE]
    show (if ((kd _).append sLogA (rec_ (recL 2 [122]))).2 = 0 then ((kd _).append sLogA (rec_ (recL 2 [122]))).1.sync [sLogA] else (kd _).append sLogA (rec_ (recL 2 [122]))) = _
    rw [known_5 (rl_len (by decide)) (rl_len (by decide)), if_pos rfl, known_6]
  rw [appendL, h1]
  rfl
theorem const_in {W0 w : World} {A B R : Asrt} (h : Hold W0 (A.sep (B.sep R)) w) (cs : List Value) (e : TypeId) (k : Nat) (hm : cs.length ≤ maxLen) {b : Nat} (hb : w.heap.size = b) :
    Hold W0 (A.sep (B.sep ((Ro 1 (.slice (some ⟨b, 0, none⟩) cs.length cs.length) cs.length cs).sep R))) (w.alloc (.cells cs.toArray e (k, k + 1))) :=
  (h.addConst cs e k hm hb).up2.under fun _ h => up2_at h
theorem one_inv {s : ByteArray} {X : List UInt8} (h : X.length ≤ 1000) (hs : s.size ≤ 64 := by decide) : DInv (kd [⟨s, X, X.length⟩]) 1 :=
  ⟨⟨by show 65536 ≤ _; omega, by show X.length + 0 ≤ 65536; omega, by show 0 ≤ _; omega, fun f hf => by
    have : f = ⟨s, X, X.length⟩ := by simpa [kd] using hf
    subst this; exact Nat.le_refl _⟩, Nat.le_refl _, fun f hf => by
    have : f = ⟨s, X, X.length⟩ := by simpa [kd] using hf
    subst this; exact hs, by show (List.map AF.name [_]).Nodup; simp⟩
set_option maxRecDepth 100000 in
set_option maxHeartbeats 1600000 in
theorem known_any (w : World) : Calls Try.prog 8 #[] w fun e w' => e = .returned (.bool true) ∧ Below w.heap.size w w' := by
  have kc := fun (w : World) (C : Array Value) (n c : Nat) => Lib.run_convert_bytes_const (P := Try.prog) w 33 5 C n c Try.underlying33 Try.underlying5
  go_enter Try.func8, Try.ntmps8
  go_wp2_with fail
  refine (Dsk.new_ok (Hold.start w) 65536 (by omega)).mono ?_
  rintro e w1 ⟨_, rfl, b, rfl, h1⟩
  unfold ptr
  have H1 : Hid (Hold w ((DiskA b (kd [])).sep Asrt.emp) w1) := Lib.hid h1
  clear h1
  go_wp2_with fail
  refine (open_any H1.out kd_inv0 (by omega) (by show 65536 ≤ 1000000; omega) (pre := sAx) (by decide) (by decide)).mono ?_
  intro e w2 h2
  unfold RetOpen at h2
  rw [open_empty] at h2
  rcases h2 with ⟨_, lb, rfl, h2⟩ | ⟨h2, _⟩
  case inr => exact absurd rfl h2
  unfold ptr
  have H2 : Hid (Hold w ((LedgA lb b (new sAx)).sep ((DiskA b (kd [])).sep Asrt.emp)) w2) := Lib.hid h2
  clear h2 H1
  have H3 := Lib.hid (const_in H2.out (u8s [120]) 5 1 (by simp [u8s, maxLen]) rfl)
  clear H2
  go_wp2_with fail
  refine (appendL_any H3.out (Ld.new_ok (by decide)) (by show 0 + 1 ≤ _; omega) kd_inv0 (.slice (some ⟨w2.heap.size, 0, none⟩) 1 1) [120] Reads.ro (by decide)).mono ?_
  rintro e w3 ⟨rfl, h3⟩
  rw [known_a] at h3 ⊢
  have H4 := Lib.hid (const_in h3.up3.drop1 (u8s [121]) 5 1 (by simp [u8s, maxLen]) rfl)
  obtain ⟨X, hX⟩ : ∃ X, X = rec_ (recL 1 [120]) := ⟨_, rfl⟩
  have hXl : X.length ≤ 1000 := by rw [hX]; exact rl_len (by decide)
  have kb := known_b
  rw [← hX] at H4 kb
  have KB := Lib.hid kb
  clear h3 H3 hX kb
  go_wp2_with fail
  refine (writeL_any H4.out ⟨by decide, by decide, by decide, by decide, fun x hx => by cases List.mem_singleton.1 hx; decide⟩ (one_inv hXl) (by omega) 1 (by omega) (.slice (some ⟨w3.heap.size, 0, none⟩) 1 1) [121] Reads.ro (by decide)).mono ?_
  rintro e w4 ⟨rfl, h4⟩
  rw [KB.out] at h4 ⊢
  have H5 := Lib.hid (const_in h4.up3.drop1 (u8s [122]) 5 1 (by simp [u8s, maxLen]) rfl)
  obtain ⟨Y, hY⟩ : ∃ Y, Y = rec_ (recL 1 [121]) := ⟨_, rfl⟩
  have hYl : Y.length ≤ 1000 := by rw [hY]; exact rl_len (by decide)
  have kc2 := known_c
  rw [← hY] at H5 kc2
  have KC := Lib.hid kc2
  clear h4 H4 hY kc2
  go_wp2_with fail
  refine (appendL_any H5.out ⟨by decide, by decide, by decide, by decide, fun x hx => by cases hx⟩ (by show 0 + 1 ≤ _; omega) (one_inv hYl) (.slice (some ⟨w4.heap.size, 0, none⟩) 1 1) [122] Reads.ro (by decide)).mono ?_
  rintro e w5 ⟨rfl, h5⟩
  rw [KC.out] at h5 ⊢
  have H6 := Lib.hid h5.up3.drop1
  have HG : Hid (GOk ⟨sAx, 1, [121], [[122]], false⟩) := Lib.hid ⟨by decide, by decide, by decide, by decide, fun x hx => by cases List.mem_singleton.1 hx; decide⟩
  clear h5 H5
  go_wp2_with fail
  refine (base_any H6.out HG.out).mono ?_
  rintro e w6 ⟨v6, rfl, ho6, hb6⟩
  have H7 := Lib.hid (H6.out.keeps hb6)
  have hcv : (convert 33 9 v6).run Try.prog w6 = .ok (.string ⟨[121].toArray⟩) w6 := ho6.sl.run_string (l := [121]) (src := 33) (dst := 9) Try.underlying33 Try.underlying5 Try.underlying9
  clear ho6 hb6 H6
  go_wp2_with fail
  refine (last_any H7.out HG.out).mono ?_
  rintro e w8 ⟨rfl, n8, hw8⟩
  have HF : Hid (Below w.heap.size w w8) := Lib.hid (by
    have h := H7.out.old
    rw [hw8]
    exact h.trans (below_drewN (Below.refl _ _) _ |>.mono h.size))
  clear H7 hw8 hcv
  go_wp2
  go_ret
  exact ⟨rfl, HF.out⟩
end Go.Proofs.Ytkbfjgmgckbogaa.Ld
