/-
  clears and image of chapter 5.
-/
import Derived.Test.YtkbfjgmgckbogaaF15
import Derived.Deep.RegionHeld3
import Derived.Deep.DeepCutAuto
namespace Go.Proofs.Ytkbfjgmgckbogaa.Ld
open Go.RowKit L Oct Dsk Fr Kp
theorem unrec_len (l : List UInt8) : (unrec l).1.length ≤ 1048576 := by
  by_cases h : (unrec l).2.2 = 0
  · obtain ⟨_, _, h3, _, _, h6⟩ := unrec_ok l h
    rw [h6]
    show ((l.drop 8).take (from4 l)).length ≤ _
    rw [List.length_take]; omega
  · rw [(unrec_bad l h).1]; simp
theorem unone_len (l : List UInt8) : (unone l).1.length ≤ 1048576 := by
  unfold unone
  split
  · simp
  · exact unrec_len l
theorem load_len (d : D) (s : ByteArray) : (Kp.load d s).1.length ≤ 1048576 := by
  unfold Kp.load
  split
  · simp
  · split
    · exact unone_len _
    · simp
theorem left_len {α : Type} (o : Option (α × List UInt8)) (l : List UInt8) (h : ∀ a r, o = some (a, r) → r.length ≤ l.length) : (left o).length ≤ l.length := by
  cases o with
  | none => simp [left]
  | some p => exact h p.1 p.2 rfl
theorem recL_len (p : List UInt8) : (left (dec 0 0 p)).length ≤ p.length := left_len _ p fun a r h => Nat.le_of_lt (dec_length p 0 0 a r h).1
theorem decRow_len (l a r : List UInt8) (h : decRow l = some (a, r)) : a.length ≤ l.length := by
  unfold decRow at h
  split at h
  · cases h
  · rename_i n r' hd
    have := (dec_length l 0 0 n r' hd).1
    split at h
    · simp only [Option.some.injEq, Prod.mk.injEq] at h
      obtain ⟨rfl, _⟩ := h
      rw [List.length_take]; omega
    · cases h
theorem recB_len (p : List UInt8) : (recB p).length ≤ p.length := by
  unfold recB got
  have h1 := recL_len p
  cases h : decRow (left (dec 0 0 p)) with
  | none => simp
  | some x =>
    have := decRow_len _ x.1 x.2 h
    show x.1.length ≤ _
    omega
theorem recN_le (p : List UInt8) : recN p ≤ 4611686018427387904 := by
  unfold recN got
  cases h : dec 0 0 p with
  | none => simp
  | some x => exact (dec_length p 0 0 x.1 x.2 h).2
section
variable {W0 w : World} {R : Asrt} {lb b n : Nat} {g : Lg} {d : D}
theorem removes_lit {bk : Nat} (H : Hold W0 ((DiskA b d).sep R) w) (hbk : w.heap.size = bk) (hi : DInv d n) (hn : n ≤ 4096) (s : ByteArray) :
    Calls Try.prog 35 #[ptr b, .slice (some ⟨bk, 0, none⟩) 1 1] (w.alloc (.cells #[.string s] 9)) (RetApp W0 R b (removes d [s])) := by
  subst hbk
  have H1 := (H.addLit (.string s) 9).up2
  refine (removes_any H1 hi hn (.slice (some ⟨w.heap.size, 0, none⟩) 1 1) [s] (fun w' hw' => hw'.sl)).mono ?_
  rintro e' w' ⟨h1, h2⟩
  exact ⟨h1, h2.up2.drop1⟩
/-- what a function of a ledger leaves: the disk, the ledger, the error -/
def RetL (W0 : World) (R : Asrt) (lb b : Nat) (y : D × Lg × Nat) (e : Ending) (w' : World) : Prop := e = .returned (.int .i64 y.2.2) ∧ Hold W0 ((LedgA lb b y.2.1).sep ((DiskA b y.1).sep R)) w'
theorem led_ptr (H : Hold W0 ((LedgA lb b g).sep R) w) : w.cell? ⟨lb, 0, none⟩ = some (.pointer (some ⟨b, 0, none⟩)) := by
  obtain ⟨dv, ev, vs, H1⟩ := led_open H
  exact blk_cell H1.blk 0
set_option maxHeartbeats 800000 in
theorem clears_any (H : Hold W0 ((LedgA lb b g).sep ((DiskA b d).sep R)) w) (hg : GOk g) (hi : DInv d n) (hn : n ≤ 4096) :
    Calls Try.prog 21 #[ptr lb] w (RetL W0 R lb b ((clears d g.pre).1, g, (clears d g.pre).2)) := by
  have hp := hg.pre
  have k0 := led_ptr H
  have m0 := World.new_ne w _ k0
  have hrun := fun w' : World => run_string_add_sum (P := Try.prog) (w := w') (imgN g.pre) ⟨#[126]⟩ (by show (g.pre ++ sImg).size + 1 ≤ _; rw [ByteArray.size_append]; show g.pre.size + 4 + 1 ≤ _; omega)
  have Hd := Lib.hid H.drew
  have HG := Lib.hid hg
  have HI := Lib.hid hi
  clear H hg hi
  unfold ptr
  go_enter Try.func21, Try.ntmps21
  go_wp2_with fail
  go_region_held3 (fun w' => w'.cell? ⟨lb, 0, none⟩ = some (.pointer (some ⟨b, 0, none⟩))) (first | exact hS5 | go_keep)
    (first
      | (go_at_call 34; refine (imageName_any Hd.out HG.out).mono ?_; rintro e w4 ⟨rfl, rfl⟩)
      | (go_at_call 35; refine (removes_lit Hd.out.up2 rfl HI.out hn (sh (imgN g.pre))).mono ?_; rintro e w5 ⟨rfl, H5⟩; have hS5 : w5.cell? ⟨lb, 0, none⟩ = some (.pointer (some ⟨b, 0, none⟩)) := led_ptr H5.up2))
  all_goals
    have HF := Lib.hid H5.up2
    clear H5 hS5
    go_wp2
    go_ret
    exact ⟨rfl, HF.out⟩
theorem image_put {rb : Nat} {q : List UInt8} {bad : Bool} {v5 vB : Value} {n5 : Nat} {xs5 : List Value} {N : Nat} {B : List UInt8}
    (H : Hold W0 ((Row 5 1 vB B.length (u8s B)).sep ((Rd rb q bad).sep ((Row 5 1 v5 n5 xs5).sep ((LedgA lb b g).sep ((DiskA b d).sep R))))) w) :
    (∃ u2 u3, w.cell? ⟨lb, 2, none⟩ = some u2 ∧ w.cell? ⟨lb, 3, none⟩ = some u3) ∧ w.frozen? ⟨lb, 2, none⟩ = false ∧ w.frozen? ⟨lb, 3, none⟩ = false ∧
    Hold W0 ((Rd rb q bad).sep ((LedgA lb b { g with base := N, data := B }).sep ((DiskA b d).sep R))) ((w.setCell ⟨lb, 2, none⟩ (.int .i64 N)).setCell ⟨lb, 3, none⟩ vB) := by
  obtain ⟨dv, ev, vs, H1⟩ := led_open (R := ((Row 5 1 vB B.length (u8s B)).sep ((Rd rb q bad).sep ((Row 5 1 v5 n5 xs5).sep ((DiskA b d).sep R))))) (H.perm (by ac_rfl))
  have h := (H1.setB 2 (.int .i64 N)).setB 3 vB
  refine ⟨⟨_, _, blk_cell H1.blk 2, blk_cell H1.blk 3⟩, blk_free H1.blk 2, blk_free H1.blk 3, ?_⟩
  have h2 : Hold W0 ((Row 5 1 dv g.data.length (u8s g.data)).sep ((Row 5 1 v5 n5 xs5).sep ((Blk lb #[ptr b, .string g.pre, .int .i64 N, vB, ev, .bool g.dead] 55).sep ((Row 5 1 vB B.length (u8s B)).sep ((Row 33 1 ev g.ents.length vs).sep ((Inner vs g.ents).sep ((Rd rb q bad).sep ((DiskA b d).sep R)))))))) _ := h.perm (by ac_rfl)
  have h3 := led_shut (g := { g with base := N, data := B }) h2.drop1.drop1
  exact h3.perm (by ac_rfl)
set_option maxRecDepth 100000 in
set_option maxHeartbeats 1600000 in
theorem image_any (H : Hold W0 ((LedgA lb b g).sep ((DiskA b d).sep R)) w) (hg : GOk g) (hi : DInv d n) :
    Calls Try.prog 22 #[ptr lb] w (RetL W0 R lb b (d, (image d g).1, (image d g).2)) := by
  have k0 := led_ptr H
  have m0 := World.new_ne w _ k0
  have Hd := Lib.hid H.drew
  have HG := Lib.hid hg
  have HFit : Hid (∀ f ∈ d.fs, f.data.length ≤ 1073741824) := Lib.hid fun f hf => (hi.fit f hf).2
  have HLn := Lib.hid (load_len d (imgN g.pre))
  obtain ⟨m, hm⟩ : ∃ m, m = (Kp.load d (imgN g.pre)).2 := ⟨_, rfl⟩
  obtain ⟨p, hp⟩ : ∃ p, p = (Kp.load d (imgN g.pre)).1 := ⟨_, rfl⟩
  have hpl : p.length ≤ 1048576 := by rw [hp]; exact HLn.out
  have HIm : Hid (image d g = if m = 7 then (g, 0) else if m = 0 then ({ g with base := recN p, data := recB p }, if recW p ∧ recN p ≤ 1099511627776 then 0 else 3) else (g, m)) := Lib.hid (by rw [image, hm, hp])
  have Hm := Lib.hid hm
  have Hp := Lib.hid hp
  clear H hg hi hm hp
  unfold ptr
  go_enter Try.func22, Try.ntmps22
  go_wp2_with fail
  go_upto_region 1 with fail
  go_cut [3, 4] (fun s3 s4 wc => ∃ v5 : Value, v5 = s3 ∧ s4 = .int .i64 m ∧ Hold W0 ((Row 5 1 v5 p.length (u8s p)).sep ((LedgA lb b g).sep ((DiskA b d).sep R))) wc)
  case first =>
    go_region_held3 (fun w' => w'.cell? ⟨lb, 0, none⟩ = some (.pointer (some ⟨b, 0, none⟩))) (first | exact hS5 | go_keep)
      (first
        | (go_at_call 34; refine (imageName_any Hd.out HG.out).mono ?_; rintro e w4 ⟨rfl, rfl⟩)
        | (go_at_call 38; refine (load_any Hd.out.up2 (imgN g.pre) HFit.out).mono ?_; rintro e w5 ⟨v5, rfl, ho5, hb5⟩; rw [← Hm.out]; rw [← Hp.out] at ho5; have H5 := Hd.out.addRow hb5 ho5; have hS5 : w5.cell? ⟨lb, 0, none⟩ = some (.pointer (some ⟨b, 0, none⟩)) := led_ptr H5.up2))
    all_goals
      have HF := Lib.hid H5
      clear H5 hS5 ho5 hb5
      go_wp2_with fail
      go_meet
      exact ⟨v5, rfl, rfl, HF.out⟩
  case rest =>
    obtain ⟨v5, rfl, rfl, h5⟩ := hcut
    have H5 := Lib.hid h5
    clear h5 Hd HLn Hm Hp k0 m0
    by_cases h7 : m = 7
    · subst h7
      have he : Hid (image d g = (g, 0)) := Lib.hid (by rw [HIm.out, if_pos rfl])
      have HF := Lib.hid H5.out.drop1
      go_wp2
      go_ret
      rw [he.out]
      exact ⟨rfl, HF.out⟩
    · have q7 : ((m : Int) == 7) = false := by rw [beq_eq_false_iff_ne]; omega
      by_cases h0 : m = 0
      · subst h0
        have he : Hid (image d g = ({ g with base := recN p, data := recB p }, if recW p ∧ recN p ≤ 1099511627776 then 0 else 3)) := Lib.hid (by rw [HIm.out, if_neg h7, if_pos rfl])
        clear h7
        go_wp2_with fail
        refine (newReader_any H5.out v5 p H5.out.sl (by omega)).mono ?_
        rintro e w6 ⟨_, rfl, rb, rfl, h6⟩
        have H6 := Lib.hid h6
        clear h6 H5
        go_wp2_with fail
        refine (num_any H6.out (by omega)).mono ?_
        rintro e w7 ⟨rfl, h7⟩
        have H7 := Lib.hid h7
        have hll := recL_len p
        clear h7 H6
        go_wp2_with fail
        refine (rbytes_any H7.out (by omega)).mono ?_
        rintro e w8 ⟨vB, rfl, h8⟩
        obtain ⟨⟨u2, u3, k2, k3⟩, f2, f3, h9⟩ := image_put (N := recN p) h8
        obtain ⟨ao8, cap8, rfl⟩ := (show Own w8 0 5 1 vB (recB p).length (u8s (recB p)) from h8.own).shape
        have H9 := Lib.hid h9
        have hRN : recN p = got 0 (dec 0 0 p) := rfl
        rw [← hRN]
        obtain ⟨N, hN⟩ : ∃ N, N = recN p := ⟨_, rfl⟩
        have hrw : Hid ((!((false || (dec 0 0 p).isNone) || (decRow (left (dec 0 0 p))).isNone) && (left (decRow (left (dec 0 0 p)))).isEmpty) = recW p) := Lib.hid (by simp [recW])
        rw [← hN] at H9 he ⊢
        have hN2 : N ≤ 4611686018427387904 := by rw [hN]; exact recN_le p
        clear h8 H7 h9 hRN hN hll
        go_wp2_with fail
        refine (whole_any H9.out).mono ?_
        rintro e w9 ⟨rfl, rfl⟩
        rw [hrw.out]
        have HF := Lib.hid H9.out.drop1
        clear H9 hrw
        cases hW : recW p with
        | false =>
          have he2 := Lib.hid (he.out.trans (by rw [hW]; rfl : _ = ({ g with base := N, data := recB p }, 3)))
          go_wp2
          go_ret
          rw [he2.out]
          exact ⟨rfl, HF.out⟩
        | true =>
          by_cases hbig : N ≤ 1099511627776
          · have he2 := Lib.hid (he.out.trans (by rw [if_pos ⟨hW, hbig⟩] : _ = ({ g with base := N, data := recB p }, 0)))
            have g1 : decide ((1099511627776 : Int) < (N : Int)) = false := by simp; omega
            clear hbig
            go_wp2
            go_ret
            rw [he2.out]
            exact ⟨rfl, HF.out⟩
          · have he2 := Lib.hid (he.out.trans (by rw [if_neg (fun h => hbig h.2)] : _ = ({ g with base := N, data := recB p }, 3)))
            have g1 : decide ((1099511627776 : Int) < (N : Int)) = true := by simp; omega
            clear hbig
            go_wp2
            go_ret
            rw [he2.out]
            exact ⟨rfl, HF.out⟩
      · have he : Hid (image d g = (g, m)) := Lib.hid (by rw [HIm.out, if_neg h7, if_neg h0])
        have q0 : ((m : Int) == 0) = false := by rw [beq_eq_false_iff_ne]; omega
        have q1 : ((m : Int) != 0) = true := by simp; omega
        have HF := Lib.hid H5.out.drop1
        clear h7 h0
        go_wp2
        go_ret
        rw [he.out]
        exact ⟨rfl, HF.out⟩
end
end Go.Proofs.Ytkbfjgmgckbogaa.Ld
