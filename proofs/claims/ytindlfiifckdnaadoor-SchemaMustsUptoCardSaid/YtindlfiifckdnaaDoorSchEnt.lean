/-
  Entries of chapter 14: what they read; the values of a type: the program's and the reference's.
-/
import Derived.Test.YtindlfiifckdnaaDoorSchType
import Derived.Test.YtindlfiifckdnaaDoorIndex2
import Derived.Test.YtindlfiifckdnaaDoorFacts
import Derived.Deep.RegionHeld3
import Derived.Deep.DeepCutAuto
namespace Go.Proofs.YtindlfiifckdnaaDoor.Sc
open Go.RowKit L
structure At where
  typ : ByteArray
  vals : List ByteArray
instance : Inhabited At := ⟨⟨ByteArray.empty, []⟩⟩
structure Ent where
  dn : List (ByteArray × ByteArray)
  ats : List At
def acl : List (At × Value) → List Value
  | [] => []
  | p :: r => .string p.1.typ :: p.2 :: acl r
def dcl : List (ByteArray × ByteArray) → List Value
  | [] => []
  | p :: r => .string p.1 :: .string p.2 :: dcl r
theorem acl_length : ∀ l : List (At × Value), (acl l).length = l.length * 2
  | [] => rfl
  | p :: r => by simp only [acl, List.length_cons, acl_length r]; omega
theorem acl_append : ∀ a b : List (At × Value), acl (a ++ b) = acl a ++ acl b
  | [], _ => rfl
  | p :: r, b => by simp only [acl, List.cons_append, acl_append r b]
theorem acl_get : ∀ (l : List (At × Value)) (k : Nat), k < l.length → (acl l).getD (k * 2) undef = .string (l.getD k default).1.typ ∧ (acl l).getD (k * 2 + 1) undef = (l.getD k default).2
  | p :: r, 0, _ => ⟨rfl, rfl⟩
  | p :: r, k + 1, h => by
    have := acl_get r k (by simpa using h)
    rw [show (k + 1) * 2 = k * 2 + 1 + 1 from by omega]
    exact this
theorem dcl_get : ∀ (l : List (ByteArray × ByteArray)) (k : Nat), k < l.length → (dcl l).getD (k * 2) undef = .string (l.getD k default).1 ∧ (dcl l).getD (k * 2 + 1) undef = .string (l.getD k default).2
  | p :: r, 0, _ => ⟨rfl, rfl⟩
  | p :: r, k + 1, h => by
    have := dcl_get r k (by simpa using h)
    rw [show (k + 1) * 2 = k * 2 + 1 + 1 from by omega]
    exact this
theorem bcellS {W w1 : World} (hb : Below W.heap.size W w1) : (∀ b o, b < W.heap.size → w1.cell? ⟨b, o, none⟩ = W.cell? ⟨b, o, none⟩) ∧ (∀ b o, b < W.heap.size → w1.frozen? ⟨b, o, none⟩ = W.frozen? ⟨b, o, none⟩) :=
  ⟨fun b o h => hb.cell (p := ⟨b, o, none⟩) h, fun b o h => hb.frozen (p := ⟨b, o, none⟩) h⟩
theorem elS : ElemOk Tryd.prog 28 9 1 16 := elemOk Tryd.underlying28 Tryd.info9 rfl (by decide)
theorem elA : ElemOk Tryd.prog 23 36 2 40 := elemOk Tryd.underlying23 Tryd.info36 rfl (by decide)
theorem strs_one (l : List ByteArray) : ∀ u ∈ strs l, u.oneCell' = true := by
  intro u hu
  obtain ⟨x, _, rfl⟩ := List.mem_map.1 hu
  rfl
theorem strs_append (a b : List ByteArray) : strs (a ++ b) = strs a ++ strs b := by simp [strs]
/-- what an entry by value reads -/
structure EntAt (w : World) (dv av : Value) (e : Ent) : Prop where
  dn : Sl w 2 dv e.dn.length (dcl e.dn)
  ats : ∃ L : List (At × Value), L.map Prod.fst = e.ats ∧ Sl w 2 av L.length (acl L) ∧ ∀ p ∈ L, Sl w 1 p.2 p.1.vals.length (strs p.1.vals)
theorem EntAt.below {w w' : World} {dv av : Value} {e : Ent} (h : EntAt w dv av e) (hb : Below w.heap.size w w') : EntAt w' dv av e := by
  obtain ⟨h1, L, h2, h3, h4⟩ := h
  exact ⟨h1.below' hb, L, h2, h3.below' hb, fun p hp => (h4 p hp).below' hb⟩
/-- sizes of an entry -/
structure EntOk (e : Ent) (n : Nat) : Prop where
  dnl : e.dn.length ≤ n
  dns : ∀ p ∈ e.dn, p.1.size ≤ n ∧ p.2.size ≤ n
  atl : e.ats.length ≤ n
  typ : ∀ a ∈ e.ats, a.typ.size ≤ n
  vals : (e.ats.map fun a => a.vals.length).sum ≤ n
  val : ∀ a ∈ e.ats, ∀ v ∈ a.vals, v.size ≤ n
theorem getA_mem {l : List At} {k : Nat} (h : k < l.length) : l.getD k default ∈ l := by simp [List.getD, h]
theorem EntAt.len {w : World} {dv av : Value} {e : Ent} (h : EntAt w dv av e) : ∀ (ty : TypeId) (w' : World), (Builtin.len_ #[23] ty #[av]).run Tryd.prog w' = .ok (.int .i64 e.ats.length) w' := by
  obtain ⟨_, L, h2, h3, _⟩ := h
  have := h3.run_len (P := Tryd.prog) Tryd.underlying23
  rw [← h2, List.length_map]
  exact this
/-- an attribute of an entry -/
theorem EntAt.at {w : World} {dv av : Value} {e : Ent} (h : EntAt w dv av e) (k : Nat) (hk : k < e.ats.length) :
    ∃ (A : Addr) (u : Value), (∀ w' : World, (Instr.indexAt 23 av (.int .i64 (k : Int))).run Tryd.prog w' = .ok (.pointer (some A)) w') ∧ w.cell? A = some (.string (e.ats.getD k default).typ) ∧ w.cell? ⟨A.block, A.off + 1, none⟩ = some u ∧
      Sl w 1 u (e.ats.getD k default).vals.length (strs (e.ats.getD k default).vals) := by
  obtain ⟨_, L, h2, h3, h4⟩ := h
  have hkl : k < L.length := by rw [← h2] at hk; simpa using hk
  obtain ⟨A, hA, hblk, hcell⟩ := run_indexAt_sl (P := Tryd.prog) h3 Tryd.underlying23 Tryd.size36 .i64 (k : Int) (by omega) (by omega)
  have h0 := hcell 0 (by omega)
  have h1 := hcell 1 (by omega)
  simp only [Int.toNat_natCast, Nat.add_zero] at h0 h1
  obtain ⟨g0, g1⟩ := acl_get L k hkl
  rw [g0] at h0
  rw [g1] at h1
  have e1 : (L.getD k default).1 = e.ats.getD k default := by
    rw [← h2]
    simp [List.getD, hkl]
  have hm : L.getD k default ∈ L := by simp [List.getD, hkl]
  have h5 := h4 _ hm
  rw [e1] at h0 h5
  exact ⟨A, _, hA, h0, h1, h5⟩
def valsB (e : Ent) (t : ByteArray) : List ByteArray := e.ats.flatMap fun a => if foldB a.typ = t then a.vals else []
def valsT (e : Ent) (t : ByteArray) (k : Nat) : List ByteArray := (e.ats.take k).flatMap fun a => if foldB a.typ = t then a.vals else []
theorem valsT_succ {e : Ent} {t : ByteArray} {k : Nat} (h : k < e.ats.length) : valsT e t (k + 1) = valsT e t k ++ (if foldB (e.ats.getD k default).typ = t then (e.ats.getD k default).vals else []) := by
  unfold valsT
  rw [List.take_succ_eq_append_getElem h, List.flatMap_append]
  simp [List.getD, h]
theorem valsT_all (e : Ent) (t : ByteArray) : valsT e t e.ats.length = valsB e t := by unfold valsT valsB; rw [List.take_length]
theorem flat_len (l : List At) (t : ByteArray) : (l.flatMap fun a => if foldB a.typ = t then a.vals else []).length ≤ (l.map fun a => a.vals.length).sum := by
  induction l with
  | nil => simp
  | cons a r ih =>
    have h1 : (if foldB a.typ = t then a.vals else []).length ≤ a.vals.length := by split <;> simp
    simp only [List.flatMap_cons, List.length_append, List.map_cons, List.sum_cons]
    omega
theorem valsT_len {e : Ent} {n : Nat} (h : EntOk e n) (t : ByteArray) (k : Nat) : (valsT e t k).length ≤ n := by
  have h1 := flat_len (e.ats.take k) t
  have h2 : ((e.ats.take k).map fun a => a.vals.length).sum ≤ (e.ats.map fun a => a.vals.length).sum := by
    have h3 := congrArg (fun l : List At => (l.map fun a => a.vals.length).sum) (List.take_append_drop k e.ats)
    simp only [List.map_append, List.sum_append] at h3
    omega
  have h4 := h.vals
  unfold valsT
  omega
theorem vals_le {e : Ent} {n : Nat} (h : EntOk e n) {k : Nat} (hk : k < e.ats.length) : (e.ats.getD k default).vals.length ≤ n := by
  have h2 : ∀ (l : List At) (a : At), a ∈ l → a.vals.length ≤ (l.map fun a => a.vals.length).sum := by
    intro l a ha
    induction l with
    | nil => cases ha
    | cons x r ih =>
      simp only [List.map_cons, List.sum_cons]
      rcases List.mem_cons.1 ha with rfl | ha
      · omega
      · have := ih ha; omega
  have := h2 _ _ (getA_mem hk)
  have := h.vals
  omega
def VRel (w : World) (e : Ent) (t : ByteArray) (l i : Value) (wr : World) : Prop := ∃ k : Nat, k ≤ e.ats.length ∧ i = .int .i64 k ∧ Hold w ((Row 9 1 l (valsT e t k).length (strs (valsT e t k))).sep Asrt.emp) wr
def RetOwn (w : World) (l : List ByteArray) (e : Ending) (w' : World) : Prop := ∃ v, e = .returned v ∧ Own w' w.heap.size 9 1 v l.length (strs l) ∧ Below w.heap.size w w'
set_option maxRecDepth 100000 in
set_option maxHeartbeats 1600000 in
theorem values_own (w : World) (dv av : Value) (e : Ent) (t : ByteArray) (h : EntAt w dv av e) (hk : EntOk e 1048576) : Calls Tryd.prog 34 #[.agg #[dv, av], .string t] w (RetOwn w (valsB e t)) := by
  have HE := Lib.hid h
  have HK := Lib.hid hk
  have hatl := hk.atl
  have hbox := (Below.refl w.heap.size w).alloc (Nat.le_refl _) (.cells #[dv, av] 25)
  have H0 : Hid (Hold w Asrt.emp (w.alloc (.cells #[dv, av] 25))) := Lib.hid ((Hold.start w).keeps hbox)
  have hlen := (h.below hbox).len
  have HP : Hid (VRel w e t (.slice none 0 0) (.int .i64 0) (w.alloc (.cells #[dv, av] 25))) := Lib.hid ⟨0, Nat.zero_le _, rfl, H0.out.addNil 9 1⟩
  clear h hk hbox
  go_enter Tryd.func34, Tryd.ntmps34
  go_wp2
  go_loopw [5, 11] (fun l i wr => VRel w e t l i wr) (fun _ i _ => e.ats.length - (intOf i).toNat)
  case atStart => exact HP.out
  case round =>
    clear HP hlen H0
    obtain ⟨k, hk, rfl, hH⟩ := hrel
    by_cases hlt : k < e.ats.length
    · obtain ⟨A, u, hA, hc0, hc1, hsl⟩ := (HE.out.below hH.old).at k hlt
      have hsc := valsT_succ (t := t) hlt
      have hts := HK.out.typ _ (getA_mem hlt)
      have hvl := vals_le HK.out hlt
      have hVl := valsT_len HK.out t k
      obtain ⟨a, ha⟩ : ∃ a, a = e.ats.getD k default := ⟨_, rfl⟩
      rw [← ha] at hc0 hsl hsc hts hvl
      have HSc := Lib.hid hsc
      have HW := Lib.hid hH
      have HSl := Lib.hid hsl
      obtain ⟨ao, cap, hu⟩ : ∃ ao cap, u = .slice ao a.vals.length cap := by
        obtain ⟨_, ao, cap, e, _⟩ := hsl
        exact ⟨ao, cap, e⟩
      subst hu
      clear ha hsc hH hsl
      go_wp2_with fail
      refine (fold_any a.typ _ (by omega)).mono ?_
      rintro e2 w2 ⟨rfl, hb2⟩
      obtain ⟨bc, bf⟩ := bcellS hb2
      have hz : wr.heap.size < w2.heap.size := by have := hb2.size; simp at this; omega
      have HB2 : Hid (Below wr.heap.size wr w2) := Lib.hid (((Below.refl _ _).alloc (Nat.le_refl _) _).trans (hb2.mono (by simp)))
      have HW2 := Lib.hid (HW.out.keeps HB2.out)
      have HSl2 := Lib.hid (HSl.out.below' HB2.out)
      clear hb2 hA hc0 hc1
      by_cases he : foldB a.typ = t
      · have e1 := text_yes he
        rw [if_pos he] at HSc
        clear he
        go_wp2_with (at_builtin; refine wpList_app (sx := .tmp 20) elS HW2.out rfl _ rfl rfl rfl HSl2.out (strs_one _) (by omega) (by omega) ?_; intro v9 xs9 w9 X9 H9)
        have HF : Hid (Hold w ((Row 9 1 v9 (valsT e t (k + 1)).length (strs (valsT e t (k + 1)))).sep Asrt.emp) w9) := Lib.hid (by rw [HSc.out, List.length_append, strs_append]; rw [X9.out] at H9; exact H9)
        clear H9 X9 bc bf
        go_roundw
        case rel => exact ⟨k + 1, by omega, by go_num, HF.out⟩
        case measure => simp [intOf]; omega
      · have e1 := text_no he
        rw [if_neg he, List.append_nil] at HSc
        clear he
        go_wp2
        go_roundw
        case rel => exact ⟨k + 1, by omega, by go_num, by rw [HSc.out]; exact HW2.out⟩
        case measure => simp [intOf]; omega
    · obtain rfl : k = e.ats.length := by omega
      rw [valsT_all] at hH
      have HF : Hid (Own wr w.heap.size 9 1 u5 (valsB e t).length (strs (valsB e t)) ∧ Below w.heap.size w wr) := Lib.hid hH.fin
      clear hH
      go_wp2
      go_ret
      exact ⟨_, rfl, HF.out.1, HF.out.2⟩
theorem values_any (w : World) (dv av : Value) (e : Ent) (t : ByteArray) (h : EntAt w dv av e) (hk : EntOk e 1048576) : Calls Tryd.prog 34 #[.agg #[dv, av], .string t] w (RetStrs w (valsB e t)) := by
  refine (values_own w dv av e t h hk).mono ?_
  rintro x w' ⟨v, rfl, ho, hb⟩
  exact ⟨v, rfl, (Hold.of_own ho hb).sl, hb⟩
def XVRel (w : World) (b : Nat) (dv av : Value) (e : Ent) (t : ByteArray) (l i : Value) (wr : World) : Prop := ∃ k : Nat, k ≤ e.ats.length ∧ i = .int .i64 k ∧ Hold w ((Row 9 1 l (valsT e t k).length (strs (valsT e t k))).sep ((Blk b #[dv, av] 25).sep Asrt.emp)) wr
set_option maxRecDepth 100000 in
set_option maxHeartbeats 1600000 in
theorem xvals_own (w : World) (dv av : Value) (e : Ent) (s : ByteArray) (h : EntAt w dv av e) (hk : EntOk e 1048576) (hs : s.size ≤ 140737488351232) : Calls Tryd.prog 7 #[.agg #[dv, av], .string s] w (RetOwn w (valsB e (foldB s))) := by
  obtain ⟨t, ht⟩ : ∃ t, t = foldB s := ⟨_, rfl⟩
  have HFs : Hid (∀ w', Calls Tryd.prog 20 #[.string s] w' (RetS w' t)) := Lib.hid fun w' => by rw [ht]; exact xfold_any s w' hs
  rw [← ht]
  have HE := Lib.hid h
  have HK := Lib.hid hk
  have hatl := hk.atl
  have HP : Hid (XVRel w w.heap.size dv av e t (.slice none 0 0) (.int .i64 0) (w.alloc (.cells #[dv, av] 25))) := Lib.hid ⟨0, Nat.zero_le _, rfl, ((Hold.start w).addBlk (cs := #[dv, av]) (t := 25) (b := w.heap.size) rfl).addNil 9 1⟩
  clear h hk ht hs
  go_enter Tryd.func7, Tryd.ntmps7
  go_wp2
  obtain ⟨b, hb⟩ : ∃ b, b = w.heap.size := ⟨_, rfl⟩
  rw [← hb] at HP ⊢
  clear hb
  go_loopw [5, 6] (fun l i wr => XVRel w b dv av e t l i wr) (fun _ i _ => e.ats.length - (intOf i).toNat)
  case atStart => exact HP.out
  case round =>
    clear HP
    obtain ⟨k, hk, rfl, hH⟩ := hrel
    have kb := blk_cell hH.up2.blk 1
    have hlen := (HE.out.below hH.old).len
    by_cases hlt : k < e.ats.length
    · obtain ⟨A, u, hA, hc0, hc1, hsl⟩ := (HE.out.below hH.old).at k hlt
      have hsc := valsT_succ (t := t) hlt
      have hts := HK.out.typ _ (getA_mem hlt)
      have hvl := vals_le HK.out hlt
      have hVl := valsT_len HK.out t k
      obtain ⟨a, ha⟩ : ∃ a, a = e.ats.getD k default := ⟨_, rfl⟩
      rw [← ha] at hc0 hsl hsc hts hvl
      have HSc := Lib.hid hsc
      have HW := Lib.hid hH
      have HSl := Lib.hid hsl
      obtain ⟨ao, cap, hu⟩ : ∃ ao cap, u = .slice ao a.vals.length cap := by
        obtain ⟨_, ao, cap, e, _⟩ := hsl
        exact ⟨ao, cap, e⟩
      subst hu
      have HC1 := Lib.hid hc1
      clear ha hsc hH hsl hc1
      go_wp2_with fail
      refine (xfold_any a.typ _ (by omega)).mono ?_
      rintro e2 w2 ⟨rfl, hb2⟩
      have HB2 := Lib.hid hb2
      clear hb2
      go_wp2_with fail
      refine (HFs.out _).mono ?_
      rintro e3 w3 ⟨rfl, hb3⟩
      have HB3 : Hid (Below wr.heap.size wr w3) := Lib.hid (HB2.out.trans (hb3.mono HB2.out.size))
      have HW3 := Lib.hid (HW.out.keeps HB3.out)
      have HSl3 := Lib.hid (HSl.out.below' HB3.out)
      have kb3 := blk_cell HW3.out.up2.blk 1
      have hc3 : w3.cell? ⟨A.block, A.off + 1, none⟩ = some (.slice ao a.vals.length cap) := (HB3.out.cell (World.block_lt_of_cell? _ _ HC1.out)).trans HC1.out
      clear hb3 hc0 kb
      by_cases he : foldB a.typ = t
      · have e1 := text_yes he
        rw [if_pos he] at HSc
        clear he
        go_wp2_with (at_builtin; refine wpList_app (sx := .tmp 24) elS HW3.out rfl _ rfl rfl rfl HSl3.out (strs_one _) (by omega) (by omega) ?_; intro v9 xs9 w9 X9 H9)
        have HF : Hid (Hold w ((Row 9 1 v9 (valsT e t (k + 1)).length (strs (valsT e t (k + 1)))).sep ((Blk b #[dv, av] 25).sep Asrt.emp)) w9) := Lib.hid (by rw [HSc.out, List.length_append, strs_append]; rw [X9.out] at H9; exact H9)
        clear H9 X9
        go_roundw
        case rel => exact ⟨k + 1, by omega, by go_num, HF.out⟩
        case measure => simp [intOf]; omega
      · have e1 := text_no he
        rw [if_neg he, List.append_nil] at HSc
        clear he
        go_wp2
        go_roundw
        case rel => exact ⟨k + 1, by omega, by go_num, by rw [HSc.out]; exact HW3.out⟩
        case measure => simp [intOf]; omega
    · obtain rfl : k = e.ats.length := by omega
      rw [valsT_all] at hH
      have HF : Hid (Own wr w.heap.size 9 1 u5 (valsB e t).length (strs (valsB e t)) ∧ Below w.heap.size w wr) := Lib.hid hH.up2.drop1.fin
      clear hH
      go_wp2
      go_ret
      exact ⟨_, rfl, HF.out.1, HF.out.2⟩
theorem xvals_any (w : World) (dv av : Value) (e : Ent) (s : ByteArray) (h : EntAt w dv av e) (hk : EntOk e 1048576) (hs : s.size ≤ 140737488351232) : Calls Tryd.prog 7 #[.agg #[dv, av], .string s] w (RetStrs w (valsB e (foldB s))) := by
  refine (xvals_own w dv av e s h hk hs).mono ?_
  rintro x w' ⟨v, rfl, ho, hb⟩
  exact ⟨v, rfl, (Hold.of_own ho hb).sl, hb⟩
end Go.Proofs.YtindlfiifckdnaaDoor.Sc
