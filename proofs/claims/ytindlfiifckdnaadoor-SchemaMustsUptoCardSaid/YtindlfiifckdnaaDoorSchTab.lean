/-
  The tables of chapter 14, plain; and the functions that are switches over texts. Written by a program (wip/tools/sch_gen.py).
-/
import Derived.Test.YtindlfiifckdnaaDoorSchFold
import Derived.Test.YtindlfiifckdnaaDoorShelf
namespace Go.Proofs.YtindlfiifckdnaaDoor.Sc
open Go.RowKit L
abbrev s_account : ByteArray := ⟨#[97, 99, 99, 111, 117, 110, 116]⟩
abbrev s_cn : ByteArray := ⟨#[99, 110]⟩
abbrev s_dc : ByteArray := ⟨#[100, 99]⟩
abbrev s_description : ByteArray := ⟨#[100, 101, 115, 99, 114, 105, 112, 116, 105, 111, 110]⟩
abbrev s_displayname : ByteArray := ⟨#[100, 105, 115, 112, 108, 97, 121, 110, 97, 109, 101]⟩
abbrev s_domain : ByteArray := ⟨#[100, 111, 109, 97, 105, 110]⟩
abbrev s_gidnumber : ByteArray := ⟨#[103, 105, 100, 110, 117, 109, 98, 101, 114]⟩
abbrev s_groupofnames : ByteArray := ⟨#[103, 114, 111, 117, 112, 111, 102, 110, 97, 109, 101, 115]⟩
abbrev s_l : ByteArray := ⟨#[108]⟩
abbrev s_mail : ByteArray := ⟨#[109, 97, 105, 108]⟩
abbrev s_manager : ByteArray := ⟨#[109, 97, 110, 97, 103, 101, 114]⟩
abbrev s_member : ByteArray := ⟨#[109, 101, 109, 98, 101, 114]⟩
abbrev s_o : ByteArray := ⟨#[111]⟩
abbrev s_objectclass : ByteArray := ⟨#[111, 98, 106, 101, 99, 116, 99, 108, 97, 115, 115]⟩
abbrev s_organization : ByteArray := ⟨#[111, 114, 103, 97, 110, 105, 122, 97, 116, 105, 111, 110]⟩
abbrev s_organizationalunit : ByteArray := ⟨#[111, 114, 103, 97, 110, 105, 122, 97, 116, 105, 111, 110, 97, 108, 117, 110, 105, 116]⟩
abbrev s_ou : ByteArray := ⟨#[111, 117]⟩
abbrev s_person : ByteArray := ⟨#[112, 101, 114, 115, 111, 110]⟩
abbrev s_seealso : ByteArray := ⟨#[115, 101, 101, 97, 108, 115, 111]⟩
abbrev s_sn : ByteArray := ⟨#[115, 110]⟩
abbrev s_telephonenumber : ByteArray := ⟨#[116, 101, 108, 101, 112, 104, 111, 110, 101, 110, 117, 109, 98, 101, 114]⟩
abbrev s_title : ByteArray := ⟨#[116, 105, 116, 108, 101]⟩
abbrev s_top : ByteArray := ⟨#[116, 111, 112]⟩
abbrev s_uid : ByteArray := ⟨#[117, 105, 100]⟩
abbrev s_uidnumber : ByteArray := ⟨#[117, 105, 100, 110, 117, 109, 98, 101, 114]⟩
abbrev s_userpassword : ByteArray := ⟨#[117, 115, 101, 114, 112, 97, 115, 115, 119, 111, 114, 100]⟩
def tyL : List (ByteArray × Nat × Bool) := [(s_telephonenumber, 5, false), (s_userpassword, 4, false), (s_displayname, 1, true), (s_objectclass, 1, false), (s_cn, 1, false), (s_sn, 1, false), (s_ou, 1, false), (s_o, 1, false), (s_dc, 1, false), (s_uid, 1, false), (s_mail, 1, false), (s_description, 1, false), (s_title, 1, false), (s_l, 1, false), (s_uidnumber, 2, true), (s_gidnumber, 2, true), (s_member, 3, false), (s_manager, 3, false), (s_seealso, 3, false)]
def nm19 : List ByteArray := [s_cn, s_dc, s_description, s_displayname, s_gidnumber, s_l, s_mail, s_manager, s_member, s_o, s_objectclass, s_ou, s_seealso, s_sn, s_telephonenumber, s_title, s_uid, s_uidnumber, s_userpassword]
def typeB (t : ByteArray) : Option (Nat × Bool) := (tyL.find? fun p => decide (p.1 = t)).map (·.2)
def classB (t : ByteArray) : Option (List ByteArray × List ByteArray) :=
  if t = s_top then some ([s_objectclass], [])
  else if t = s_person then some ([s_cn, s_sn], [s_userpassword, s_telephonenumber, s_description, s_title, s_mail, s_manager, s_displayname, s_seealso, s_l, s_uid, s_uidnumber, s_gidnumber, s_ou])
  else if t = s_organization then some ([s_o], [s_description, s_l, s_telephonenumber, s_userpassword, s_seealso])
  else if t = s_organizationalunit then some ([s_ou], [s_description, s_l, s_telephonenumber, s_userpassword, s_seealso, s_manager])
  else if t = s_domain then some ([s_dc], [s_description, s_o, s_l])
  else if t = s_account then some ([s_uid], [s_description, s_l, s_o, s_ou, s_userpassword, s_uidnumber, s_gidnumber])
  else if t = s_groupofnames then some ([s_cn, s_member], [s_description, s_o, s_ou, s_seealso])
  else none
def muB (o : Option (List ByteArray × List ByteArray)) : List ByteArray := (o.map (·.1)).getD []
def maB (o : Option (List ByteArray × List ByteArray)) : List ByteArray := (o.map (·.2)).getD []
theorem text_eq {a b : ByteArray} : (a.toList == b.toList) = true ↔ a = b := by
  constructor
  · intro h
    have h := beq_iff_eq.1 h
    rw [ByteArray.toList_eq, ByteArray.toList_eq] at h
    exact ByteArray.ext (Array.toList_inj.1 h)
  · rintro rfl; simp
theorem text_yes {a b : ByteArray} (h : a = b) : (a.toList == b.toList) = true := text_eq.2 h
theorem text_no {a b : ByteArray} (h : ¬ a = b) : (a.toList == b.toList) = false := by
  cases hx : (a.toList == b.toList) with
  | false => rfl
  | true => exact absurd (text_eq.1 hx) h
/-- the library's table of blanks is as it was laid -/
def Tab (w : World) : Prop := Lib.TabIs Tryd.prog w "strings.asciiSpace" .u8 Lib.asciiSpaceTab
theorem Tab.below {w w' : World} (h : Tab w) (hb : Below w.heap.size w w') : Tab w' := by
  unfold Tab Lib.TabIs World.var? at h ⊢
  cases hg : (Tryd.prog).globalNamed "strings.asciiSpace" with
  | none => rw [hg] at h; cases h
  | some g =>
    rw [hg] at h
    have hlt : g < w.heap.size := by
      cases hx : w.heap[g]? with
      | none => simp [hx] at h
      | some x => exact (Array.getElem?_eq_some_iff.1 hx).1
    simp only [Option.bind_some] at h ⊢
    rw [hb.block g hlt]
    exact h
def RetClassN (w : World) (o : Option (List ByteArray × List ByteArray)) (e : Ending) (w' : World) : Prop :=
  ∃ v1 v2, e = .returned (.tuple #[v1, v2, .bool o.isSome]) ∧ Sl w' 1 v1 (muB o).length (strs (muB o)) ∧ Sl w' 1 v2 (maB o).length (strs (maB o)) ∧ Below w.heap.size w w'
theorem fresh_of {n m l c : Nat} (h : m ≤ n) : ∀ g, (Value.slice (some ⟨n, 0, none⟩) l c).ownBlock = some g → m ≤ g := by
  intro g hg
  cases hg
  exact h
def RetClassF (w : World) (o : Option (List ByteArray × List ByteArray)) (e : Ending) (w' : World) : Prop :=
  ∃ v1 v2, e = .returned (.tuple #[v1, v2, .bool o.isSome]) ∧ Sl w' 1 v1 (muB o).length (strs (muB o)) ∧ Sl w' 1 v2 (maB o).length (strs (maB o)) ∧ Below w.heap.size w w' ∧ ∀ g, v2.ownBlock = some g → w.heap.size ≤ g
theorem built (w : World) (l : List ByteArray) (h : l.length ≤ 100) : Sl (w.alloc (.cells (strs l).toArray 9)) 1 (.slice (some ⟨w.heap.size, 0, none⟩) l.length l.length) l.length (strs l) := by
  have := sl_built w (strs l) 9 (by simp [strs, maxLen]; omega)
  simpa [strs] using this
/-- fields of a constant text -/
theorem fields_any (s : ByteArray) (l : List ByteArray) (w : World) (hT : Tab w) (hs : s.size < 4294967281) (ha : (s.data.toList.all fun b => decide (b.toNat < 128)) = true) (hl : (Lib.fields s.data.toList).map (fun l => (⟨l.toArray⟩ : ByteArray)) = l) (hn : l.length ≤ 100) :
    Calls Tryd.prog 43 #[.string s] w fun e w' => e = .returned (.slice (some ⟨w.heap.size, 0, none⟩) l.length l.length) ∧ Sl w' 1 (.slice (some ⟨w.heap.size, 0, none⟩) l.length l.length) l.length (strs l) ∧ Below w.heap.size w w' := by
  refine (Tryd.strings_Fields s w hs (fun j b hj => by
    have := List.all_eq_true.1 ha b (List.mem_of_getElem? hj)
    simpa using this) hT).mono ?_
  rintro e w' ⟨rfl, rfl⟩
  have e1 : (Lib.fields s.data.toList).length = l.length := by rw [← hl]; simp
  have e2 : (Lib.fields s.data.toList).map (fun l => Value.string ⟨l.toArray⟩) = strs l := by rw [← hl]; simp [strs]
  rw [e1, e2]
  exact ⟨rfl, built w l hn, (Below.refl _ _).alloc (Nat.le_refl _) _⟩
set_option maxRecDepth 100000 in
set_option maxHeartbeats 3200000 in
theorem xclass_any (s : ByteArray) (w : World) (hs : s.size ≤ 140737488351232) : Calls Tryd.prog 8 #[.string s] w (RetClassF w (classB (foldB s))) := by
  obtain ⟨t, ht⟩ : ∃ t, t = foldB s := ⟨_, rfl⟩
  have hf := xfold_any s w hs
  rw [← ht] at hf ⊢
  have HF := Lib.hid hf
  clear hf ht hs
  by_cases h0 : t = s_top
  · have HC : Hid (classB t = some ([s_objectclass], [])) := Lib.hid (by subst h0; decide)
    have e0 : (t.toList == [116, 111, 112]) = true := by rw [show ([116, 111, 112] : List UInt8) = (s_top).toList from by rw [ByteArray.toList_eq]]; exact text_yes h0
    clear h0
    go_enter Tryd.func8, Tryd.ntmps8
    go_wp2_with fail
    refine HF.out.mono ?_
    rintro e w1 ⟨rfl, hb1⟩
    have HB1 := Lib.hid hb1
    clear hb1
    have hm := built w1 [s_objectclass] (by decide)
    have HM := Lib.hid hm
    clear hm
    go_wp2
    go_ret3
    rw [HC.out]
    exact ⟨_, _, rfl, HM.out, Sl.nil _ _, HB1.out.alloc HB1.out.size _, fun g hg => by cases hg⟩
  have e0 : (t.toList == [116, 111, 112]) = false := by rw [show ([116, 111, 112] : List UInt8) = (s_top).toList from by rw [ByteArray.toList_eq]]; exact text_no h0
  by_cases h1 : t = s_person
  · have HC : Hid (classB t = some ([s_cn, s_sn], [s_userpassword, s_telephonenumber, s_description, s_title, s_mail, s_manager, s_displayname, s_seealso, s_l, s_uid, s_uidnumber, s_gidnumber, s_ou])) := Lib.hid (by subst h1; decide)
    have e1 : (t.toList == [112, 101, 114, 115, 111, 110]) = true := by rw [show ([112, 101, 114, 115, 111, 110] : List UInt8) = (s_person).toList from by rw [ByteArray.toList_eq]]; exact text_yes h1
    clear h1
    go_enter Tryd.func8, Tryd.ntmps8
    go_wp2_with fail
    refine HF.out.mono ?_
    rintro e w1 ⟨rfl, hb1⟩
    have HB1 := Lib.hid hb1
    clear hb1
    have hm := built w1 [s_cn, s_sn] (by decide)
    have hn := built (w1.alloc (.cells (strs [s_cn, s_sn]).toArray 9)) [s_userpassword, s_telephonenumber, s_description, s_title, s_mail, s_manager, s_displayname, s_seealso, s_l, s_uid, s_uidnumber, s_gidnumber, s_ou] (by decide)
    rw [show (w1.alloc (.cells (strs [s_cn, s_sn]).toArray 9)).heap.size = w1.heap.size + 1 from by simp] at hn
    have HM := Lib.hid hm
    have HN := Lib.hid hn
    clear hm hn
    go_wp2
    go_ret3
    rw [HC.out]
    exact ⟨_, _, rfl, HM.out.below' ((Below.refl _ _).alloc (Nat.le_refl _) _), HN.out, (HB1.out.alloc HB1.out.size _).alloc (Nat.le_trans HB1.out.size (Nat.le_of_lt (by simp))) _, fresh_of (Nat.le_trans HB1.out.size (Nat.le_succ _))⟩
  have e1 : (t.toList == [112, 101, 114, 115, 111, 110]) = false := by rw [show ([112, 101, 114, 115, 111, 110] : List UInt8) = (s_person).toList from by rw [ByteArray.toList_eq]]; exact text_no h1
  by_cases h2 : t = s_organization
  · have HC : Hid (classB t = some ([s_o], [s_description, s_l, s_telephonenumber, s_userpassword, s_seealso])) := Lib.hid (by subst h2; decide)
    have e2 : (t.toList == [111, 114, 103, 97, 110, 105, 122, 97, 116, 105, 111, 110]) = true := by rw [show ([111, 114, 103, 97, 110, 105, 122, 97, 116, 105, 111, 110] : List UInt8) = (s_organization).toList from by rw [ByteArray.toList_eq]]; exact text_yes h2
    clear h2
    go_enter Tryd.func8, Tryd.ntmps8
    go_wp2_with fail
    refine HF.out.mono ?_
    rintro e w1 ⟨rfl, hb1⟩
    have HB1 := Lib.hid hb1
    clear hb1
    have hm := built w1 [s_o] (by decide)
    have hn := built (w1.alloc (.cells (strs [s_o]).toArray 9)) [s_description, s_l, s_telephonenumber, s_userpassword, s_seealso] (by decide)
    rw [show (w1.alloc (.cells (strs [s_o]).toArray 9)).heap.size = w1.heap.size + 1 from by simp] at hn
    have HM := Lib.hid hm
    have HN := Lib.hid hn
    clear hm hn
    go_wp2
    go_ret3
    rw [HC.out]
    exact ⟨_, _, rfl, HM.out.below' ((Below.refl _ _).alloc (Nat.le_refl _) _), HN.out, (HB1.out.alloc HB1.out.size _).alloc (Nat.le_trans HB1.out.size (Nat.le_of_lt (by simp))) _, fresh_of (Nat.le_trans HB1.out.size (Nat.le_succ _))⟩
  have e2 : (t.toList == [111, 114, 103, 97, 110, 105, 122, 97, 116, 105, 111, 110]) = false := by rw [show ([111, 114, 103, 97, 110, 105, 122, 97, 116, 105, 111, 110] : List UInt8) = (s_organization).toList from by rw [ByteArray.toList_eq]]; exact text_no h2
  by_cases h3 : t = s_organizationalunit
  · have HC : Hid (classB t = some ([s_ou], [s_description, s_l, s_telephonenumber, s_userpassword, s_seealso, s_manager])) := Lib.hid (by subst h3; decide)
    have e3 : (t.toList == [111, 114, 103, 97, 110, 105, 122, 97, 116, 105, 111, 110, 97, 108, 117, 110, 105, 116]) = true := by rw [show ([111, 114, 103, 97, 110, 105, 122, 97, 116, 105, 111, 110, 97, 108, 117, 110, 105, 116] : List UInt8) = (s_organizationalunit).toList from by rw [ByteArray.toList_eq]]; exact text_yes h3
    clear h3
    go_enter Tryd.func8, Tryd.ntmps8
    go_wp2_with fail
    refine HF.out.mono ?_
    rintro e w1 ⟨rfl, hb1⟩
    have HB1 := Lib.hid hb1
    clear hb1
    have hm := built w1 [s_ou] (by decide)
    have hn := built (w1.alloc (.cells (strs [s_ou]).toArray 9)) [s_description, s_l, s_telephonenumber, s_userpassword, s_seealso, s_manager] (by decide)
    rw [show (w1.alloc (.cells (strs [s_ou]).toArray 9)).heap.size = w1.heap.size + 1 from by simp] at hn
    have HM := Lib.hid hm
    have HN := Lib.hid hn
    clear hm hn
    go_wp2
    go_ret3
    rw [HC.out]
    exact ⟨_, _, rfl, HM.out.below' ((Below.refl _ _).alloc (Nat.le_refl _) _), HN.out, (HB1.out.alloc HB1.out.size _).alloc (Nat.le_trans HB1.out.size (Nat.le_of_lt (by simp))) _, fresh_of (Nat.le_trans HB1.out.size (Nat.le_succ _))⟩
  have e3 : (t.toList == [111, 114, 103, 97, 110, 105, 122, 97, 116, 105, 111, 110, 97, 108, 117, 110, 105, 116]) = false := by rw [show ([111, 114, 103, 97, 110, 105, 122, 97, 116, 105, 111, 110, 97, 108, 117, 110, 105, 116] : List UInt8) = (s_organizationalunit).toList from by rw [ByteArray.toList_eq]]; exact text_no h3
  by_cases h4 : t = s_domain
  · have HC : Hid (classB t = some ([s_dc], [s_description, s_o, s_l])) := Lib.hid (by subst h4; decide)
    have e4 : (t.toList == [100, 111, 109, 97, 105, 110]) = true := by rw [show ([100, 111, 109, 97, 105, 110] : List UInt8) = (s_domain).toList from by rw [ByteArray.toList_eq]]; exact text_yes h4
    clear h4
    go_enter Tryd.func8, Tryd.ntmps8
    go_wp2_with fail
    refine HF.out.mono ?_
    rintro e w1 ⟨rfl, hb1⟩
    have HB1 := Lib.hid hb1
    clear hb1
    have hm := built w1 [s_dc] (by decide)
    have hn := built (w1.alloc (.cells (strs [s_dc]).toArray 9)) [s_description, s_o, s_l] (by decide)
    rw [show (w1.alloc (.cells (strs [s_dc]).toArray 9)).heap.size = w1.heap.size + 1 from by simp] at hn
    have HM := Lib.hid hm
    have HN := Lib.hid hn
    clear hm hn
    go_wp2
    go_ret3
    rw [HC.out]
    exact ⟨_, _, rfl, HM.out.below' ((Below.refl _ _).alloc (Nat.le_refl _) _), HN.out, (HB1.out.alloc HB1.out.size _).alloc (Nat.le_trans HB1.out.size (Nat.le_of_lt (by simp))) _, fresh_of (Nat.le_trans HB1.out.size (Nat.le_succ _))⟩
  have e4 : (t.toList == [100, 111, 109, 97, 105, 110]) = false := by rw [show ([100, 111, 109, 97, 105, 110] : List UInt8) = (s_domain).toList from by rw [ByteArray.toList_eq]]; exact text_no h4
  by_cases h5 : t = s_account
  · have HC : Hid (classB t = some ([s_uid], [s_description, s_l, s_o, s_ou, s_userpassword, s_uidnumber, s_gidnumber])) := Lib.hid (by subst h5; decide)
    have e5 : (t.toList == [97, 99, 99, 111, 117, 110, 116]) = true := by rw [show ([97, 99, 99, 111, 117, 110, 116] : List UInt8) = (s_account).toList from by rw [ByteArray.toList_eq]]; exact text_yes h5
    clear h5
    go_enter Tryd.func8, Tryd.ntmps8
    go_wp2_with fail
    refine HF.out.mono ?_
    rintro e w1 ⟨rfl, hb1⟩
    have HB1 := Lib.hid hb1
    clear hb1
    have hm := built w1 [s_uid] (by decide)
    have hn := built (w1.alloc (.cells (strs [s_uid]).toArray 9)) [s_description, s_l, s_o, s_ou, s_userpassword, s_uidnumber, s_gidnumber] (by decide)
    rw [show (w1.alloc (.cells (strs [s_uid]).toArray 9)).heap.size = w1.heap.size + 1 from by simp] at hn
    have HM := Lib.hid hm
    have HN := Lib.hid hn
    clear hm hn
    go_wp2
    go_ret3
    rw [HC.out]
    exact ⟨_, _, rfl, HM.out.below' ((Below.refl _ _).alloc (Nat.le_refl _) _), HN.out, (HB1.out.alloc HB1.out.size _).alloc (Nat.le_trans HB1.out.size (Nat.le_of_lt (by simp))) _, fresh_of (Nat.le_trans HB1.out.size (Nat.le_succ _))⟩
  have e5 : (t.toList == [97, 99, 99, 111, 117, 110, 116]) = false := by rw [show ([97, 99, 99, 111, 117, 110, 116] : List UInt8) = (s_account).toList from by rw [ByteArray.toList_eq]]; exact text_no h5
  by_cases h6 : t = s_groupofnames
  · have HC : Hid (classB t = some ([s_cn, s_member], [s_description, s_o, s_ou, s_seealso])) := Lib.hid (by subst h6; decide)
    have e6 : (t.toList == [103, 114, 111, 117, 112, 111, 102, 110, 97, 109, 101, 115]) = true := by rw [show ([103, 114, 111, 117, 112, 111, 102, 110, 97, 109, 101, 115] : List UInt8) = (s_groupofnames).toList from by rw [ByteArray.toList_eq]]; exact text_yes h6
    clear h6
    go_enter Tryd.func8, Tryd.ntmps8
    go_wp2_with fail
    refine HF.out.mono ?_
    rintro e w1 ⟨rfl, hb1⟩
    have HB1 := Lib.hid hb1
    clear hb1
    have hm := built w1 [s_cn, s_member] (by decide)
    have hn := built (w1.alloc (.cells (strs [s_cn, s_member]).toArray 9)) [s_description, s_o, s_ou, s_seealso] (by decide)
    rw [show (w1.alloc (.cells (strs [s_cn, s_member]).toArray 9)).heap.size = w1.heap.size + 1 from by simp] at hn
    have HM := Lib.hid hm
    have HN := Lib.hid hn
    clear hm hn
    go_wp2
    go_ret3
    rw [HC.out]
    exact ⟨_, _, rfl, HM.out.below' ((Below.refl _ _).alloc (Nat.le_refl _) _), HN.out, (HB1.out.alloc HB1.out.size _).alloc (Nat.le_trans HB1.out.size (Nat.le_of_lt (by simp))) _, fresh_of (Nat.le_trans HB1.out.size (Nat.le_succ _))⟩
  have e6 : (t.toList == [103, 114, 111, 117, 112, 111, 102, 110, 97, 109, 101, 115]) = false := by rw [show ([103, 114, 111, 117, 112, 111, 102, 110, 97, 109, 101, 115] : List UInt8) = (s_groupofnames).toList from by rw [ByteArray.toList_eq]]; exact text_no h6
  have HC : Hid (classB t = none) := Lib.hid (by unfold classB; rw [if_neg h0]; rw [if_neg h1]; rw [if_neg h2]; rw [if_neg h3]; rw [if_neg h4]; rw [if_neg h5]; rw [if_neg h6])
  clear h0 h1 h2 h3 h4 h5 h6
  go_enter Tryd.func8, Tryd.ntmps8
  go_wp2_with fail
  refine HF.out.mono ?_
  rintro e w1 ⟨rfl, hb1⟩
  have HB1 := Lib.hid hb1
  clear hb1
  go_wp2
  go_ret3
  rw [HC.out]
  exact ⟨_, _, rfl, Sl.nil _ _, Sl.nil _ _, HB1.out, fun g hg => by cases hg⟩
set_option maxRecDepth 100000 in
set_option maxHeartbeats 3200000 in
theorem class_any (s : ByteArray) (w : World) (hs : s.size ≤ 140737488351232) (hT : Tab w) : Calls Tryd.prog 32 #[.string s] w (RetClassF w (classB (foldB s))) := by
  obtain ⟨t, ht⟩ : ∃ t, t = foldB s := ⟨_, rfl⟩
  have hf := fold_any s w hs
  rw [← ht] at hf ⊢
  have HF := Lib.hid hf
  have HT := Lib.hid hT
  clear hf ht hs hT
  by_cases h0 : t = s_top
  · have HC : Hid (classB t = some ([s_objectclass], [])) := Lib.hid (by subst h0; decide)
    have e0 : (t.toList == [116, 111, 112]) = true := by rw [show ([116, 111, 112] : List UInt8) = (s_top).toList from by rw [ByteArray.toList_eq]]; exact text_yes h0
    clear h0
    go_enter Tryd.func32, Tryd.ntmps32
    go_wp2_with fail
    refine HF.out.mono ?_
    rintro e w1 ⟨rfl, hb1⟩
    have HB1 := Lib.hid hb1
    clear hb1
    have hm := built w1 [s_objectclass] (by decide)
    have hb2 : Below w.heap.size w (w1.alloc (.cells (strs [s_objectclass]).toArray 9)) := HB1.out.alloc HB1.out.size _
    have HM := Lib.hid hm
    have HB2 := Lib.hid hb2
    clear hm hb2
    go_wp2
    go_ret3
    rw [HC.out]
    exact ⟨_, _, rfl, HM.out, Sl.nil _ _, HB2.out, fun g hg => by cases hg⟩
  have e0 : (t.toList == [116, 111, 112]) = false := by rw [show ([116, 111, 112] : List UInt8) = (s_top).toList from by rw [ByteArray.toList_eq]]; exact text_no h0
  by_cases h1 : t = s_person
  · have HC : Hid (classB t = some ([s_cn, s_sn], [s_userpassword, s_telephonenumber, s_description, s_title, s_mail, s_manager, s_displayname, s_seealso, s_l, s_uid, s_uidnumber, s_gidnumber, s_ou])) := Lib.hid (by subst h1; decide)
    have e1 : (t.toList == [112, 101, 114, 115, 111, 110]) = true := by rw [show ([112, 101, 114, 115, 111, 110] : List UInt8) = (s_person).toList from by rw [ByteArray.toList_eq]]; exact text_yes h1
    clear h1
    go_enter Tryd.func32, Tryd.ntmps32
    go_wp2_with fail
    refine HF.out.mono ?_
    rintro e w1 ⟨rfl, hb1⟩
    have HB1 := Lib.hid hb1
    clear hb1
    have hm := built w1 [s_cn, s_sn] (by decide)
    have hb2 : Below w.heap.size w (w1.alloc (.cells (strs [s_cn, s_sn]).toArray 9)) := HB1.out.alloc HB1.out.size _
    have HM := Lib.hid hm
    have HB2 := Lib.hid hb2
    clear hm hb2
    go_wp2_with fail
    refine (fields_any ⟨#[117, 115, 101, 114, 112, 97, 115, 115, 119, 111, 114, 100, 32, 116, 101, 108, 101, 112, 104, 111, 110, 101, 110, 117, 109, 98, 101, 114, 32, 100, 101, 115, 99, 114, 105, 112, 116, 105, 111, 110, 32, 116, 105, 116, 108, 101, 32, 109, 97, 105, 108, 32, 109, 97, 110, 97, 103, 101, 114, 32, 100, 105, 115, 112, 108, 97, 121, 110, 97, 109, 101, 32, 115, 101, 101, 97, 108, 115, 111, 32, 108, 32, 117, 105, 100, 32, 117, 105, 100, 110, 117, 109, 98, 101, 114, 32, 103, 105, 100, 110, 117, 109, 98, 101, 114, 32, 111, 117]⟩ [s_userpassword, s_telephonenumber, s_description, s_title, s_mail, s_manager, s_displayname, s_seealso, s_l, s_uid, s_uidnumber, s_gidnumber, s_ou] _ (HT.out.below HB2.out) (by decide) (by decide +kernel) (by decide +kernel) (by decide)).mono ?_
    rintro e w2 ⟨rfl, h2, hb2⟩
    rw [show (w1.alloc (.cells (strs [s_cn, s_sn]).toArray 9)).heap.size = w1.heap.size + 1 from by simp] at h2
    have HN := Lib.hid h2
    have HB3 : Hid (Below w.heap.size w w2) := Lib.hid (HB2.out.trans (hb2.mono HB2.out.size))
    have HM2 := Lib.hid (HM.out.below' hb2)
    clear h2 hb2
    go_wp2
    go_ret3
    rw [HC.out]
    exact ⟨_, _, rfl, HM2.out, HN.out, HB3.out, fresh_of (Nat.le_trans HB1.out.size (Nat.le_succ _))⟩
  have e1 : (t.toList == [112, 101, 114, 115, 111, 110]) = false := by rw [show ([112, 101, 114, 115, 111, 110] : List UInt8) = (s_person).toList from by rw [ByteArray.toList_eq]]; exact text_no h1
  by_cases h2 : t = s_organization
  · have HC : Hid (classB t = some ([s_o], [s_description, s_l, s_telephonenumber, s_userpassword, s_seealso])) := Lib.hid (by subst h2; decide)
    have e2 : (t.toList == [111, 114, 103, 97, 110, 105, 122, 97, 116, 105, 111, 110]) = true := by rw [show ([111, 114, 103, 97, 110, 105, 122, 97, 116, 105, 111, 110] : List UInt8) = (s_organization).toList from by rw [ByteArray.toList_eq]]; exact text_yes h2
    clear h2
    go_enter Tryd.func32, Tryd.ntmps32
    go_wp2_with fail
    refine HF.out.mono ?_
    rintro e w1 ⟨rfl, hb1⟩
    have HB1 := Lib.hid hb1
    clear hb1
    have hm := built w1 [s_o] (by decide)
    have hb2 : Below w.heap.size w (w1.alloc (.cells (strs [s_o]).toArray 9)) := HB1.out.alloc HB1.out.size _
    have HM := Lib.hid hm
    have HB2 := Lib.hid hb2
    clear hm hb2
    go_wp2_with fail
    refine (fields_any ⟨#[100, 101, 115, 99, 114, 105, 112, 116, 105, 111, 110, 32, 108, 32, 116, 101, 108, 101, 112, 104, 111, 110, 101, 110, 117, 109, 98, 101, 114, 32, 117, 115, 101, 114, 112, 97, 115, 115, 119, 111, 114, 100, 32, 115, 101, 101, 97, 108, 115, 111]⟩ [s_description, s_l, s_telephonenumber, s_userpassword, s_seealso] _ (HT.out.below HB2.out) (by decide) (by decide +kernel) (by decide +kernel) (by decide)).mono ?_
    rintro e w2 ⟨rfl, h2, hb2⟩
    rw [show (w1.alloc (.cells (strs [s_o]).toArray 9)).heap.size = w1.heap.size + 1 from by simp] at h2
    have HN := Lib.hid h2
    have HB3 : Hid (Below w.heap.size w w2) := Lib.hid (HB2.out.trans (hb2.mono HB2.out.size))
    have HM2 := Lib.hid (HM.out.below' hb2)
    clear h2 hb2
    go_wp2
    go_ret3
    rw [HC.out]
    exact ⟨_, _, rfl, HM2.out, HN.out, HB3.out, fresh_of (Nat.le_trans HB1.out.size (Nat.le_succ _))⟩
  have e2 : (t.toList == [111, 114, 103, 97, 110, 105, 122, 97, 116, 105, 111, 110]) = false := by rw [show ([111, 114, 103, 97, 110, 105, 122, 97, 116, 105, 111, 110] : List UInt8) = (s_organization).toList from by rw [ByteArray.toList_eq]]; exact text_no h2
  by_cases h3 : t = s_organizationalunit
  · have HC : Hid (classB t = some ([s_ou], [s_description, s_l, s_telephonenumber, s_userpassword, s_seealso, s_manager])) := Lib.hid (by subst h3; decide)
    have e3 : (t.toList == [111, 114, 103, 97, 110, 105, 122, 97, 116, 105, 111, 110, 97, 108, 117, 110, 105, 116]) = true := by rw [show ([111, 114, 103, 97, 110, 105, 122, 97, 116, 105, 111, 110, 97, 108, 117, 110, 105, 116] : List UInt8) = (s_organizationalunit).toList from by rw [ByteArray.toList_eq]]; exact text_yes h3
    clear h3
    go_enter Tryd.func32, Tryd.ntmps32
    go_wp2_with fail
    refine HF.out.mono ?_
    rintro e w1 ⟨rfl, hb1⟩
    have HB1 := Lib.hid hb1
    clear hb1
    have hm := built w1 [s_ou] (by decide)
    have hb2 : Below w.heap.size w (w1.alloc (.cells (strs [s_ou]).toArray 9)) := HB1.out.alloc HB1.out.size _
    have HM := Lib.hid hm
    have HB2 := Lib.hid hb2
    clear hm hb2
    go_wp2_with fail
    refine (fields_any ⟨#[100, 101, 115, 99, 114, 105, 112, 116, 105, 111, 110, 32, 108, 32, 116, 101, 108, 101, 112, 104, 111, 110, 101, 110, 117, 109, 98, 101, 114, 32, 117, 115, 101, 114, 112, 97, 115, 115, 119, 111, 114, 100, 32, 115, 101, 101, 97, 108, 115, 111, 32, 109, 97, 110, 97, 103, 101, 114]⟩ [s_description, s_l, s_telephonenumber, s_userpassword, s_seealso, s_manager] _ (HT.out.below HB2.out) (by decide) (by decide +kernel) (by decide +kernel) (by decide)).mono ?_
    rintro e w2 ⟨rfl, h2, hb2⟩
    rw [show (w1.alloc (.cells (strs [s_ou]).toArray 9)).heap.size = w1.heap.size + 1 from by simp] at h2
    have HN := Lib.hid h2
    have HB3 : Hid (Below w.heap.size w w2) := Lib.hid (HB2.out.trans (hb2.mono HB2.out.size))
    have HM2 := Lib.hid (HM.out.below' hb2)
    clear h2 hb2
    go_wp2
    go_ret3
    rw [HC.out]
    exact ⟨_, _, rfl, HM2.out, HN.out, HB3.out, fresh_of (Nat.le_trans HB1.out.size (Nat.le_succ _))⟩
  have e3 : (t.toList == [111, 114, 103, 97, 110, 105, 122, 97, 116, 105, 111, 110, 97, 108, 117, 110, 105, 116]) = false := by rw [show ([111, 114, 103, 97, 110, 105, 122, 97, 116, 105, 111, 110, 97, 108, 117, 110, 105, 116] : List UInt8) = (s_organizationalunit).toList from by rw [ByteArray.toList_eq]]; exact text_no h3
  by_cases h4 : t = s_domain
  · have HC : Hid (classB t = some ([s_dc], [s_description, s_o, s_l])) := Lib.hid (by subst h4; decide)
    have e4 : (t.toList == [100, 111, 109, 97, 105, 110]) = true := by rw [show ([100, 111, 109, 97, 105, 110] : List UInt8) = (s_domain).toList from by rw [ByteArray.toList_eq]]; exact text_yes h4
    clear h4
    go_enter Tryd.func32, Tryd.ntmps32
    go_wp2_with fail
    refine HF.out.mono ?_
    rintro e w1 ⟨rfl, hb1⟩
    have HB1 := Lib.hid hb1
    clear hb1
    have hm := built w1 [s_dc] (by decide)
    have hb2 : Below w.heap.size w (w1.alloc (.cells (strs [s_dc]).toArray 9)) := HB1.out.alloc HB1.out.size _
    have HM := Lib.hid hm
    have HB2 := Lib.hid hb2
    clear hm hb2
    go_wp2_with fail
    refine (fields_any ⟨#[100, 101, 115, 99, 114, 105, 112, 116, 105, 111, 110, 32, 111, 32, 108]⟩ [s_description, s_o, s_l] _ (HT.out.below HB2.out) (by decide) (by decide +kernel) (by decide +kernel) (by decide)).mono ?_
    rintro e w2 ⟨rfl, h2, hb2⟩
    rw [show (w1.alloc (.cells (strs [s_dc]).toArray 9)).heap.size = w1.heap.size + 1 from by simp] at h2
    have HN := Lib.hid h2
    have HB3 : Hid (Below w.heap.size w w2) := Lib.hid (HB2.out.trans (hb2.mono HB2.out.size))
    have HM2 := Lib.hid (HM.out.below' hb2)
    clear h2 hb2
    go_wp2
    go_ret3
    rw [HC.out]
    exact ⟨_, _, rfl, HM2.out, HN.out, HB3.out, fresh_of (Nat.le_trans HB1.out.size (Nat.le_succ _))⟩
  have e4 : (t.toList == [100, 111, 109, 97, 105, 110]) = false := by rw [show ([100, 111, 109, 97, 105, 110] : List UInt8) = (s_domain).toList from by rw [ByteArray.toList_eq]]; exact text_no h4
  by_cases h5 : t = s_account
  · have HC : Hid (classB t = some ([s_uid], [s_description, s_l, s_o, s_ou, s_userpassword, s_uidnumber, s_gidnumber])) := Lib.hid (by subst h5; decide)
    have e5 : (t.toList == [97, 99, 99, 111, 117, 110, 116]) = true := by rw [show ([97, 99, 99, 111, 117, 110, 116] : List UInt8) = (s_account).toList from by rw [ByteArray.toList_eq]]; exact text_yes h5
    clear h5
    go_enter Tryd.func32, Tryd.ntmps32
    go_wp2_with fail
    refine HF.out.mono ?_
    rintro e w1 ⟨rfl, hb1⟩
    have HB1 := Lib.hid hb1
    clear hb1
    have hm := built w1 [s_uid] (by decide)
    have hb2 : Below w.heap.size w (w1.alloc (.cells (strs [s_uid]).toArray 9)) := HB1.out.alloc HB1.out.size _
    have HM := Lib.hid hm
    have HB2 := Lib.hid hb2
    clear hm hb2
    go_wp2_with fail
    refine (fields_any ⟨#[100, 101, 115, 99, 114, 105, 112, 116, 105, 111, 110, 32, 108, 32, 111, 32, 111, 117, 32, 117, 115, 101, 114, 112, 97, 115, 115, 119, 111, 114, 100, 32, 117, 105, 100, 110, 117, 109, 98, 101, 114, 32, 103, 105, 100, 110, 117, 109, 98, 101, 114]⟩ [s_description, s_l, s_o, s_ou, s_userpassword, s_uidnumber, s_gidnumber] _ (HT.out.below HB2.out) (by decide) (by decide +kernel) (by decide +kernel) (by decide)).mono ?_
    rintro e w2 ⟨rfl, h2, hb2⟩
    rw [show (w1.alloc (.cells (strs [s_uid]).toArray 9)).heap.size = w1.heap.size + 1 from by simp] at h2
    have HN := Lib.hid h2
    have HB3 : Hid (Below w.heap.size w w2) := Lib.hid (HB2.out.trans (hb2.mono HB2.out.size))
    have HM2 := Lib.hid (HM.out.below' hb2)
    clear h2 hb2
    go_wp2
    go_ret3
    rw [HC.out]
    exact ⟨_, _, rfl, HM2.out, HN.out, HB3.out, fresh_of (Nat.le_trans HB1.out.size (Nat.le_succ _))⟩
  have e5 : (t.toList == [97, 99, 99, 111, 117, 110, 116]) = false := by rw [show ([97, 99, 99, 111, 117, 110, 116] : List UInt8) = (s_account).toList from by rw [ByteArray.toList_eq]]; exact text_no h5
  by_cases h6 : t = s_groupofnames
  · have HC : Hid (classB t = some ([s_cn, s_member], [s_description, s_o, s_ou, s_seealso])) := Lib.hid (by subst h6; decide)
    have e6 : (t.toList == [103, 114, 111, 117, 112, 111, 102, 110, 97, 109, 101, 115]) = true := by rw [show ([103, 114, 111, 117, 112, 111, 102, 110, 97, 109, 101, 115] : List UInt8) = (s_groupofnames).toList from by rw [ByteArray.toList_eq]]; exact text_yes h6
    clear h6
    go_enter Tryd.func32, Tryd.ntmps32
    go_wp2_with fail
    refine HF.out.mono ?_
    rintro e w1 ⟨rfl, hb1⟩
    have HB1 := Lib.hid hb1
    clear hb1
    have hm := built w1 [s_cn, s_member] (by decide)
    have hb2 : Below w.heap.size w (w1.alloc (.cells (strs [s_cn, s_member]).toArray 9)) := HB1.out.alloc HB1.out.size _
    have HM := Lib.hid hm
    have HB2 := Lib.hid hb2
    clear hm hb2
    go_wp2_with fail
    refine (fields_any ⟨#[100, 101, 115, 99, 114, 105, 112, 116, 105, 111, 110, 32, 111, 32, 111, 117, 32, 115, 101, 101, 97, 108, 115, 111]⟩ [s_description, s_o, s_ou, s_seealso] _ (HT.out.below HB2.out) (by decide) (by decide +kernel) (by decide +kernel) (by decide)).mono ?_
    rintro e w2 ⟨rfl, h2, hb2⟩
    rw [show (w1.alloc (.cells (strs [s_cn, s_member]).toArray 9)).heap.size = w1.heap.size + 1 from by simp] at h2
    have HN := Lib.hid h2
    have HB3 : Hid (Below w.heap.size w w2) := Lib.hid (HB2.out.trans (hb2.mono HB2.out.size))
    have HM2 := Lib.hid (HM.out.below' hb2)
    clear h2 hb2
    go_wp2
    go_ret3
    rw [HC.out]
    exact ⟨_, _, rfl, HM2.out, HN.out, HB3.out, fresh_of (Nat.le_trans HB1.out.size (Nat.le_succ _))⟩
  have e6 : (t.toList == [103, 114, 111, 117, 112, 111, 102, 110, 97, 109, 101, 115]) = false := by rw [show ([103, 114, 111, 117, 112, 111, 102, 110, 97, 109, 101, 115] : List UInt8) = (s_groupofnames).toList from by rw [ByteArray.toList_eq]]; exact text_no h6
  have HC : Hid (classB t = none) := Lib.hid (by unfold classB; rw [if_neg h0]; rw [if_neg h1]; rw [if_neg h2]; rw [if_neg h3]; rw [if_neg h4]; rw [if_neg h5]; rw [if_neg h6])
  clear h0 h1 h2 h3 h4 h5 h6
  go_enter Tryd.func32, Tryd.ntmps32
  go_wp2_with fail
  refine HF.out.mono ?_
  rintro e w1 ⟨rfl, hb1⟩
  have HB1 := Lib.hid hb1
  clear hb1
  go_wp2
  go_ret3
  rw [HC.out]
  exact ⟨_, _, rfl, Sl.nil _ _, Sl.nil _ _, HB1.out, fun g hg => by cases hg⟩
end Go.Proofs.YtindlfiifckdnaaDoor.Sc
