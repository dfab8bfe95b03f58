/-
  KeepApart: what is saved under one name does not touch another one; Clear takes just what begins so and is not to stay.
-/
import Derived.Test.YtfkingloapohjaaKeepClear
import Derived.Test.YtfkingloapohjaaStep
namespace Go.Proofs.Ytfkingloapohjaa.keepApart
open Go.RowKit L Oct Dsk Fr Kp
def kd (fs : List AF) : D := ⟨1048576, fs, false, 0⟩
def wf (s : ByteArray) (p : List UInt8) : AF := ⟨s, rec_ p, (rec_ p).length⟩
def st (l : List (ByteArray × List UInt8)) : D := kd (l.map fun p => wf p.1 p.2)
def P1 : ByteArray := ⟨#[112, 45, 49]⟩
def P2 : ByteArray := ⟨#[112, 45, 50]⟩
def Q : ByteArray := ⟨#[113]⟩
def pre : ByteArray := ⟨#[112, 45]⟩
theorem st_used (l : List (ByteArray × List UInt8)) : used (st l).fs = (l.map fun p => 12 + p.2.length).sum := by
  show used (l.map fun p => wf p.1 p.2) = _
  induction l with
  | nil => rfl
  | cons x r ih =>
    rw [List.map_cons, used_cons, ih, List.map_cons, List.sum_cons]
    show (rec_ x.2).length + _ = _
    rw [rec_length]
theorem st_ok {l : List (ByteArray × List UInt8)} (h : (l.map fun p => 12 + p.2.length).sum ≤ 100000) : (st l).Ok := by
  refine ⟨by show 1048576 ≤ 1073741824; omega, ?_, by show 0 ≤ _; omega, fun f hf => ?_⟩
  · have := st_used l
    show used (st l).fs ≤ 1048576
    omega
  · obtain ⟨p, _, rfl⟩ := List.mem_map.1 hf
    exact Nat.le_refl _
theorem getF_snoc {fs : List AF} {f : AF} (h : getF fs f.name = none) : getF (fs ++ [f]) f.name = some f := by
  unfold getF at h ⊢
  rw [List.find?_append, h]
  simp
theorem upd_snoc {fs : List AF} {f : AF} {g : AF → AF} (h : getF fs f.name = none) : updF (fs ++ [f]) f.name g = fs ++ [g f] := by
  have e : updF (fs ++ [f]) f.name g = updF fs f.name g ++ updF [f] f.name g := by simp [updF]
  rw [e, upd_none (getF_none h)]
  simp [updF]
theorem rem_snoc {fs : List AF} {f : AF} (h : getF fs f.name = none) : removeF f.name (fs ++ [f]) = fs := by
  unfold removeF
  rw [List.filter_append, List.filter_eq_self.2 (fun x hx => by simpa using getF_none h x hx)]
  simp
theorem save_kd {fs : List AF} {s : ByteArray} {x : List UInt8} (h1 : 1 ≤ s.size) (h2 : s.size ≤ 60) (h3 : (sh s).size ≤ 64) (h4 : 1 ≤ (sh s).size) (hno : getF fs (sh s) = none) (hu : used fs + (rec_ x).length ≤ 1048576) (hl : fs.length < 4096) :
    save (kd fs) s x = (kd (layF fs s (rec_ x) (rec_ x).length), 0) := by
  obtain ⟨R, hR⟩ : ∃ R, R = rec_ x := ⟨_, rfl⟩
  have ok1 : nameOk s = true := by unfold nameOk; simp; omega
  have ok2 : nameOk (sh s) = true := by unfold nameOk; simp; omega
  have hm : ∀ fs, (kd fs).may [sh s] = 0 := fun fs => by simp [D.may, kd, ok2]
  have hm2 : ∀ fs, (kd fs).may [sh s, s] = 0 := fun fs => by simp [D.may, kd, ok1, ok2]
  rw [save, if_pos ⟨h1, h2⟩, show (kd fs).fs = fs from rfl, hno]
  show tailS (kd fs) s x = _
  rw [tailS, ← hR]
  rw [← hR] at hu
  have e1 : (kd fs).append (sh s) R = (kd (fs ++ [⟨sh s, R, 0⟩]), 0) := by
    rw [append_ok (d := kd fs) (hm fs) hu hl]
    simp only [putF, kd, hno]
    rfl
  have e2 : (kd (fs ++ [⟨sh s, R, 0⟩])).sync [sh s] = (kd (fs ++ [⟨sh s, R, R.length⟩]), 0) := by
    rw [D.sync, eachF, if_pos (hm _), show (kd (fs ++ [⟨sh s, R, 0⟩])).fs = fs ++ [⟨sh s, R, 0⟩] from rfl, getF_snoc (f := ⟨sh s, R, 0⟩) hno]
    show eachF syncF (({ kd (fs ++ [⟨sh s, R, 0⟩]) with fs := updF (fs ++ [⟨sh s, R, 0⟩]) (sh s) _ } : D).done) [] = _
    rw [upd_snoc (f := ⟨sh s, R, 0⟩) hno]
    rfl
  have e3 : (kd (fs ++ [⟨sh s, R, R.length⟩])).rename (sh s) s = (kd (layF fs s R R.length), 0) := by
    rw [D.rename, if_pos (hm2 _), show (kd (fs ++ [⟨sh s, R, R.length⟩])).fs = fs ++ [⟨sh s, R, R.length⟩] from rfl, getF_snoc (f := ⟨sh s, R, R.length⟩) hno]
    show (({ kd (fs ++ [⟨sh s, R, R.length⟩]) with fs := layF (removeF (sh s) (fs ++ [⟨sh s, R, R.length⟩])) s R R.length } : D).done, 0) = _
    rw [rem_snoc (f := ⟨sh s, R, R.length⟩) hno]
    rfl
  rw [e1]
  show (if (0 : Nat) = 0 then _ else _) = _
  rw [if_pos rfl]
  show (if ((kd (fs ++ [⟨sh s, R, 0⟩])).sync [sh s]).2 = 0 then ((kd (fs ++ [⟨sh s, R, 0⟩])).sync [sh s]).1.rename (sh s) s else _) = _
  rw [e2]
  show (if (0 : Nat) = 0 then _ else _) = _
  rw [if_pos rfl]
  exact e3
theorem s1 {a : List UInt8} (h : a.length ≤ 5000) : save (kd []) P1 a = (st [(P1, a)], 0) := by
  rw [save_kd (by decide) (by decide) (by decide) (by decide) rfl (by show 0 + _ ≤ _; rw [rec_length]; omega) (by decide)]; rfl
theorem s2 {a b : List UInt8} (h : a.length + b.length ≤ 5000) : save (st [(P1, a)]) P2 b = (st [(P1, a), (P2, b)], 0) := by
  have hu := st_used [(P1, a)]
  have e : (List.map (fun p : ByteArray × List UInt8 => 12 + p.2.length) [(P1, a)]).sum = 12 + a.length + 0 := rfl
  rw [st, save_kd (by decide) (by decide) (by decide) (by decide) rfl (by show used (st [(P1, a)]).fs + _ ≤ _; rw [rec_length]; omega) (by show 1 < 4096; decide)]; rfl
theorem s3 {a b c : List UInt8} (h : a.length + b.length + c.length ≤ 5000) : save (st [(P1, a), (P2, b)]) Q c = (st [(P1, a), (P2, b), (Q, c)], 0) := by
  have hu := st_used [(P1, a), (P2, b)]
  have e : (List.map (fun p : ByteArray × List UInt8 => 12 + p.2.length) [(P1, a), (P2, b)]).sum = 12 + a.length + (12 + b.length + 0) := rfl
  rw [st, save_kd (by decide) (by decide) (by decide) (by decide) rfl (by show used (st [(P1, a), (P2, b)]).fs + _ ≤ _; rw [rec_length]; omega) (by show 2 < 4096; decide)]; rfl
theorem s4 {a b c x : List UInt8} (h : a.length + b.length + c.length + x.length ≤ 50000) : save (st [(P1, a), (P2, b), (Q, c)]) P2 x = (st [(P1, a), (P2, x), (Q, c)], 0) := by
  have hu := st_used [(P1, a), (P2, b), (Q, c)]
  have e : (List.map (fun p : ByteArray × List UInt8 => 12 + p.2.length) [(P1, a), (P2, b), (Q, c)]).sum = 12 + a.length + (12 + b.length + (12 + c.length + 0)) := rfl
  rw [st, save_kd (by decide) (by decide) (by decide) (by decide) rfl (by show used (st [(P1, a), (P2, b), (Q, c)]).fs + _ ≤ _; rw [rec_length]; omega) (by show 3 < 4096; decide)]; rfl
theorem wf_crash (s : ByteArray) (p : List UInt8) (c : Nat) : crashF c (wf s p) = wf s p := by
  have : stays c (wf s p) = (rec_ p).length := by unfold stays wf; simp [Nat.mod_one]
  unfold crashF
  rw [this]
  show (⟨s, (rec_ p).take (rec_ p).length, (rec_ p).length⟩ : AF) = _
  rw [List.take_length]; rfl
theorem st_crash (l : List (ByteArray × List UInt8)) (c : Nat) : (st l).crash c = st l := by
  show kd ((l.map fun p => wf p.1 p.2).map (crashF c)) = _
  rw [List.map_map]
  show kd (l.map fun p => crashF c (wf p.1 p.2)) = _
  simp only [wf_crash]; rfl
theorem load_wf {fs : List AF} {s : ByteArray} {p : List UInt8} (h : getF fs s = some (wf s p)) (hp : p.length ≤ 1048576) : Kp.load (kd fs) s = (p, 0) := by
  unfold Kp.load
  rw [show (kd fs).fs = fs from rfl, h]
  show (if (unone (rec_ p)).2 = 0 then ((unone (rec_ p)).1, 0) else _) = _
  rw [unone_rec p hp]; rfl
theorem sort_of {l : List ByteArray} (h : (l.map fun s => s.data.toList).Pairwise fun x y => decide (x ≤ y) = true) : sortN l = l := by
  unfold sortN
  rw [List.mergeSort_of_pairwise h, List.map_map]
  conv => rhs; rw [← List.map_id l]
  refine List.map_congr_left fun s _ => ?_
  simp
theorem sort3 : sortN [P1, P2, Q] = [P1, P2, Q] := sort_of (by decide)
theorem sort2 : sortN [P2, Q] = [P2, Q] := sort_of (by decide)
theorem pre1 : hasPre P1 pre = true := by
  unfold hasPre
  rw [ByteArray.toList_eq, ByteArray.toList_eq]
  decide
theorem pre2 : hasPre P2 pre = true := by
  unfold hasPre
  rw [ByteArray.toList_eq, ByteArray.toList_eq]
  decide
theorem preQ : hasPre Q pre = false := by
  unfold hasPre
  rw [show decide (pre.size ≤ Q.size) = false from by decide, Bool.false_and]
theorem cl (a x c : List UInt8) : Kp.clear (st [(P1, a), (P2, x), (Q, c)]) pre [P2, Q] = (st [(P2, x), (Q, c)], 0) := by
  unfold Kp.clear
  rw [show (st [(P1, a), (P2, x), (Q, c)]).fs.map AF.name = [P1, P2, Q] from rfl, sort3]
  have r1 : (st [(P1, a), (P2, x), (Q, c)]).remove [P1] = (st [(P2, x), (Q, c)], 0) := by rfl
  rw [clearL, if_neg (by rw [pre1]; decide), r1]
  show (if (0 : Nat) = 0 then _ else _) = _
  rw [if_pos rfl]
  show clearL pre [P2, Q] (st [(P2, x), (Q, c)]) [P2, Q] = _
  rw [clearL, if_pos (.inr (by decide)), clearL, if_pos (.inl preQ), clearL]
set_option maxRecDepth 1000000 in
set_option maxHeartbeats 3200000 in
theorem walk {w : World} (v0 : Value) (l0 : List UInt8) (h0 : Sl w 1 v0 l0.length (u8s l0)) (_b0 : l0.length ≤ 140737488351232) (v1 : Value) (l1 : List UInt8) (h1 : Sl w 1 v1 l1.length (u8s l1)) (_b1 : l1.length ≤ 140737488351232) (v2 : Value) (l2 : List UInt8) (h2 : Sl w 1 v2 l2.length (u8s l2)) (_b2 : l2.length ≤ 140737488351232) (a3 : Int) (w3 : (Lit.int .i64 a3).wf = true) :
    Calls Try.prog 5 #[v0, v1, v2, .int .i64 a3] w fun e w' => e = .returned (.bool true) ∧ Below w.heap.size w w' := by
  have ha3 : a3 ≤ 9223372036854775807 := by
    have : -9223372036854775808 ≤ a3 ∧ a3 ≤ 9223372036854775807 := by simpa [Lit.wf, IntKind.min, IntKind.max, IntKind.signed, IntKind.bits] using w3
    exact this.2
  have HA3 := Lib.hid ha3
  clear w3 ha3
  have hl0 := h0.run_len Try.underlying23
  have hl1 := h1.run_len Try.underlying23
  have hl2 := h2.run_len Try.underlying23
  have shape : ∀ {v : Value} {l : List UInt8}, Sl w 1 v l.length (u8s l) → ∃ ao cap, v = .slice ao l.length cap := by
    rintro v l ⟨_, ao, cap, e, _⟩
    exact ⟨ao, cap, e⟩
  obtain ⟨ao0, cap0, rfl⟩ := shape h0
  obtain ⟨ao1, cap1, rfl⟩ := shape h1
  obtain ⟨ao2, cap2, rfl⟩ := shape h2
  clear shape
  have S0 := Lib.hid h0
  have S1 := Lib.hid h1
  have S2 := Lib.hid h2
  clear h0 h1 h2
  by_cases hbig : 5000 < l0.length + l1.length + l2.length
  · have g1 : decide ((5000 : Int) < (l0.length : Int) + (l1.length : Int) + (l2.length : Int)) = true := by simp; omega
    go_enter Try.func5, Try.ntmps5
    go_wp2
    go_ret
    exact ⟨rfl, Below.refl _ _⟩
  · have g1 : decide ((5000 : Int) < (l0.length : Int) + (l1.length : Int) + (l2.length : Int)) = false := by simp; omega
    obtain ⟨X, hX⟩ : ∃ X, X = l1 ++ l0 := ⟨_, rfl⟩
    have hXl : X.length = l1.length + l0.length := by rw [hX, List.length_append]
    have HX := Lib.hid hX
    clear hX
    go_enter Try.func5, Try.ntmps5
    go_wp2_with fail
    refine (new_ok (Hold.start w) 1048576 (by omega)).mono ?_
    rintro e w1 ⟨_, rfl, b, rfl, H1⟩
    unfold ptr
    go_wp2_with fail
    have K1 : Hold w ((DiskA b (kd [])).sep Asrt.emp) (w1.alloc (.cells #[.slice ao0 l0.length cap0] 23)) := H1.keeps ((Below.refl w1.heap.size w1).alloc (Nat.le_refl _) _)
    refine (save_any K1 ⟨by decide, by decide, by decide, fun f hf => by cases hf⟩ P1 (by decide) _ [l0] (rowsLit1 23 (S0.out.below' H1.old) rfl) (by simp) (by simp; omega)).mono ?_
    rintro e w2 ⟨rfl, H2⟩
    rw [show [l0].flatten = l0 from by simp, s1 (by omega)] at H2 ⊢
    clear H1 K1
    go_wp2_with fail
    have K2 := H2.keeps ((Below.refl w2.heap.size w2).alloc (Nat.le_refl _) (.cells #[.slice ao1 l1.length cap1] 23))
    refine (save_any K2 (st_ok (by simp; omega)) P2 (by decide) _ [l1] (rowsLit1 23 (S1.out.below' H2.old) rfl) (by simp) (by simp; omega)).mono ?_
    rintro e w3 ⟨rfl, H3⟩
    rw [show [l1].flatten = l1 from by simp, s2 (by omega)] at H3 ⊢
    clear H2 K2
    go_wp2_with fail
    have K3 := H3.keeps ((Below.refl w3.heap.size w3).alloc (Nat.le_refl _) (.cells #[.slice ao2 l2.length cap2] 23))
    refine (save_any K3 (st_ok (by simp; omega)) Q (by decide) _ [l2] (rowsLit1 23 (S2.out.below' H3.old) rfl) (by simp) (by simp; omega)).mono ?_
    rintro e w4 ⟨rfl, H4⟩
    rw [show [l2].flatten = l2 from by simp, s3 (by omega)] at H4 ⊢
    clear H3 K3
    go_wp2_with fail
    have K4 := H4.keeps ((Below.refl w4.heap.size w4).alloc (Nat.le_refl _) (.cells #[.slice ao1 l1.length cap1, .slice ao0 l0.length cap0] 23))
    refine (save_any K4 (st_ok (by simp; omega)) P2 (by decide) _ [l1, l0] (rowsLit2 23 (S1.out.below' H4.old) (S0.out.below' H4.old) rfl) (by simp) (by simp; omega)).mono ?_
    rintro e w5 ⟨rfl, H5⟩
    rw [show [l1, l0].flatten = X from by rw [HX.out]; simp, s4 (by omega)] at H5 ⊢
    clear H4 K4
    have hok := st_ok (l := [(P1, l0), (P2, X), (Q, l2)]) (by simp; omega)
    have hwf : Hid (∀ f ∈ (st [(P1, l0), (P2, X), (Q, l2)]).fs, f.lasts ≤ f.data.length ∧ f.data.length ≤ 4611686018427387904) := Lib.hid fun f hf => ⟨hok.lasts f hf, Nat.le_trans (hok.len hf) (by omega)⟩
    have hcl : Hid (∀ f ∈ (st [(P1, l0), (P2, X), (Q, l2)]).fs, f.data.length ≤ 1073741824) := Lib.hid fun f hf => hok.len hf
    have hok2 := st_ok (l := [(P2, X), (Q, l2)]) (by simp; omega)
    have hcl2 : Hid (∀ f ∈ (st [(P2, X), (Q, l2)]).fs, f.data.length ≤ 1073741824) := Lib.hid fun f hf => hok2.len hf
    have L1 : Hid (Kp.load (st [(P1, l0), (P2, X), (Q, l2)]) P1 = (l0, 0)) := Lib.hid (load_wf rfl (by omega))
    have L2 : Hid (Kp.load (st [(P1, l0), (P2, X), (Q, l2)]) P2 = (X, 0)) := Lib.hid (load_wf rfl (by omega))
    have L3 : Hid (Kp.load (st [(P2, X), (Q, l2)]) P1 = ([], 7)) := Lib.hid rfl
    have L4 : Hid (Kp.load (st [(P2, X), (Q, l2)]) Q = (l2, 0)) := Lib.hid (load_wf rfl (by omega))
    clear hok hok2
    go_wp2_with fail
    refine (crash_any H5 a3 HA3.out hwf.out).mono ?_
    rintro e w6 ⟨rfl, H6⟩
    rw [st_crash] at H6
    clear H5 hwf
    go_wp2_with fail
    refine (load_any H6 P1 hcl.out).mono ?_
    rintro e w7 ⟨v7, rfl, ho, hb⟩
    rw [L1.out] at ho ⊢
    have H7 := (H6.addRow hb ho).up2
    clear H6 ho hb
    go_wp2_with fail
    refine (load_any H7 P2 hcl.out).mono ?_
    rintro e w8 ⟨v8, rfl, ho, hb⟩
    rw [L2.out] at ho ⊢
    have H8 := (H7.addRow hb ho).up2
    clear H7 ho hb
    go_wp2_with fail
    refine (same_any v7 _ l0 l0 _ H8.up3.sl (S0.out.below' H8.old)).mono ?_
    rintro e w9 ⟨rfl, hb9⟩
    rw [show decide (l0 = l0) = true from by simp]
    have H9 := (H8.keeps hb9).addEmpty 5
    clear H8 hb9
    go_wp2_with (first
      | (at_builtin; refine wpList_appG (sx := .tmp 92) el8 H9 (by rfl) _ (by rfl) (by rfl) (by rfl) (S1.out.below' H9.old) (u8s_one _) (by omega) (by omega) ?_; intro v10 ys w10 hys H10; rw [hys.out, List.nil_append, Nat.zero_add] at H10; clear H9 hys)
      | (at_builtin; refine wpList_appG (sx := .tmp 94) el8 H10 (by rfl) _ (by rfl) (by rfl) (by rfl) (S0.out.below' H10.old) (u8s_one _) (by omega) (by omega) ?_; intro v11 ys w11 hys H11; rw [hys.out, ← u8s_append, ← List.length_append, ← HX.out] at H11; clear H10 hys))
    refine (same_any v8 v11 X X _ H11.up3.sl H11.sl).mono ?_
    rintro e w12 ⟨rfl, hb12⟩
    rw [show decide (X = X) = true from by simp]
    have H12 := (H11.keeps hb12).drop1.up3.drop1.up2.drop1
    clear H11 hb12
    go_wp2_with fail
    have H13 : Hold w ((DiskA b (st [(P1, l0), (P2, X), (Q, l2)])).sep ((Row 9 1 (.slice (some ⟨w12.heap.size, 0, none⟩) 2 2) 2 (strs [P2, Q])).sep Asrt.emp)) (w12.alloc (.cells #[.string P2, .string Q] 9)) := (H12.addLits (strs [P2, Q]) 9 (by simp [strs, maxLen]) rfl).up2
    refine (clear_any H13 (show (0 : Nat) ≤ _ by omega) (by show 3 ≤ 4096; omega) (fun f hf => by
      obtain ⟨p, hp, rfl⟩ := List.mem_map.1 hf
      have : p = (P1, l0) ∨ p = (P2, X) ∨ p = (Q, l2) := by simpa using hp
      rcases this with rfl | rfl | rfl
      · show P1.size ≤ _; decide
      · show P2.size ≤ _; decide
      · show Q.size ≤ _; decide) pre (by decide) _ [P2, Q] (fun w' hw' => hw'.sl)).mono ?_
    rintro e w14 ⟨rfl, H14⟩
    rw [cl] at H14 ⊢
    clear H12 H13
    go_wp2_with fail
    refine (load_any H14 P1 hcl2.out).mono ?_
    rintro e w15 ⟨v15, rfl, ho, hb⟩
    rw [L3.out] at ho ⊢
    have H15 := H14.keeps hb
    clear H14 ho hb
    go_wp2_with fail
    refine (load_any H15 Q hcl2.out).mono ?_
    rintro e w16 ⟨v16, rfl, ho, hb⟩
    rw [L4.out] at ho ⊢
    have H16 := (H15.addRow hb ho).up2
    clear H15 ho hb
    go_wp2_with fail
    refine (same_any v16 _ l2 l2 _ H16.up2.sl (S2.out.below' H16.old)).mono ?_
    rintro e w17 ⟨rfl, hb17⟩
    rw [show decide (l2 = l2) = true from by simp]
    have H17 := H16.keeps hb17
    clear H16 hb17
    go_wp2_with fail
    refine (list_any H17 (by show 2 ≤ 4096; omega) (fun f hf => by
      obtain ⟨p, hp, rfl⟩ := List.mem_map.1 hf
      have : p = (P2, X) ∨ p = (Q, l2) := by simpa using hp
      rcases this with rfl | rfl
      · show P2.size ≤ _; decide
      · show Q.size ≤ _; decide)).mono ?_
    rintro e w18 ⟨v18, rfl, H18⟩
    rw [show (st [(P2, X), (Q, l2)]).fs.map AF.name = [P2, Q] from rfl, sort2] at H18
    have H19 := H18.keeps ((Below.refl w18.heap.size w18).alloc (Nat.le_refl _) (.cells #[.string P2, .string Q] 9))
    clear H17
    go_wp2_with fail
    refine (texts_any v18 _ [P2, Q] [P2, Q] _ H19.sl (sl_built w18 [.string P2, .string Q] 9 (by unfold maxLen; simp))).mono ?_
    rintro e w20 ⟨rfl, hb20⟩
    rw [show decide ([P2, Q] = [P2, Q]) = true from by simp]
    have H20 := (H19.keeps hb20).old
    clear H18 H19 hb20
    go_wp2_with fail
    refine (known_any _).mono ?_
    rintro e w21 ⟨rfl, hb21⟩
    have Hf := Lib.hid (H20.trans (hb21.mono H20.size))
    clear hb21
    go_wp2
    go_ret
    exact ⟨rfl, Hf.out⟩
end Go.Proofs.Ytfkingloapohjaa.keepApart
