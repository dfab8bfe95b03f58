/-
  Check of chapter 14's reference; where it says 0 so does the program's.
-/
import Derived.Test.YtindlfiifckdnaaDoorSchXNamed
import Derived.Test.YtindlfiifckdnaaDoorSchChk
namespace Go.Proofs.YtindlfiifckdnaaDoor.Sc
open Go.RowKit L
def xcheckB (e : Ent) : Int :=
  if undefB e = true then 17 else if (valsB e s_objectclass).isEmpty = true then 65 else if cntB e = false then 19 else if classedB e = false then 65 else if namedB e = false then 64 else 0
set_option maxRecDepth 100000 in
set_option maxHeartbeats 1600000 in
theorem xcheck_any (w : World) (dv av : Value) (e : Ent) (h : EntAt w dv av e) (hk : EntOk e 1048576) : Calls Tryd.prog 6 #[.agg #[dv, av]] w (RetInt w (xcheckB e)) := by
  have HE := Lib.hid h
  have HK := Lib.hid hk
  have H0 := Lib.hid ((Hold.start w).addBlk (cs := #[dv, av]) (t := 25) (b := w.heap.size) rfl)
  obtain ⟨z, hz⟩ : ∃ z, z = xcheckB e := ⟨_, rfl⟩
  have HZ := Lib.hid hz
  rw [← hz]
  clear h hk hz
  go_enter Tryd.func6, Tryd.ntmps6
  go_wp2_with fail
  refine (xknown_any _ dv av e (HE.out.below H0.out.old) HK.out).mono ?_
  rintro e2 w2 ⟨rfl, hb2⟩
  have H2 := Lib.hid (H0.out.keeps hb2)
  clear hb2
  have c0 := blk_cell H2.out.blk 0
  have c1 := blk_cell H2.out.blk 1
  obtain ⟨b1, h1⟩ : ∃ b1, b1 = undefB e := ⟨_, rfl⟩
  rw [← h1]
  have B1 := Lib.hid h1
  clear h1
  cases b1 with
  | true =>
    have Hr : Hid (z = 17) := Lib.hid (by rw [HZ.out]; unfold xcheckB; rw [if_pos B1.out.symm])
    go_wp2
    go_ret
    rw [Hr.out]
    exact ⟨rfl, H2.out.old⟩
  | false =>
    go_wp2_with fail
    refine (xvals_any _ dv av e s_objectclass (HE.out.below H2.out.old) HK.out (by decide)).mono ?_
    rw [fold_oc]
    rintro e3 w3 ⟨v, rfl, hsl, hb3⟩
    have H3 := Lib.hid (H2.out.keeps hb3)
    have hlen := hsl.run_len (P := Tryd.prog) Tryd.underlying28
    have hvl := valsT_len HK.out s_objectclass e.ats.length
    rw [valsT_all] at hvl
    clear hb3 c0 c1 H2 hsl
    have c0 := blk_cell H3.out.blk 0
    have c1 := blk_cell H3.out.blk 1
    obtain ⟨l, hl⟩ : ∃ l, l = valsB e s_objectclass := ⟨_, rfl⟩
    rw [← hl] at hlen hvl
    have B2 := Lib.hid hl
    clear hl
    cases l with
    | nil =>
      have Hr : Hid (z = 65) := Lib.hid (by rw [HZ.out]; unfold xcheckB; rw [if_neg (by rw [← B1.out]; decide), if_pos (by rw [← B2.out]; rfl)])
      go_wp2
      go_ret
      rw [Hr.out]
      exact ⟨rfl, H3.out.old⟩
    | cons x r =>
      have Hne : Hid (¬ (valsB e s_objectclass).isEmpty = true) := Lib.hid (by rw [← B2.out]; simp)
      obtain ⟨n, hn⟩ : ∃ n, n = (x :: r).length := ⟨_, rfl⟩
      rw [← hn] at hlen hvl
      have q0 : ((n : Int) == 0) = false := by rw [beq_eq_false_iff_ne, hn]; simp; omega
      clear hn B2
      go_wp2_with fail
      refine (xcounts_any _ dv av e (HE.out.below H3.out.old) HK.out).mono ?_
      rintro e4 w4 ⟨rfl, hb4⟩
      have H4 := Lib.hid (H3.out.keeps hb4)
      clear hb4 c0 c1 H3
      have c0 := blk_cell H4.out.blk 0
      have c1 := blk_cell H4.out.blk 1
      obtain ⟨b3, h3⟩ : ∃ b3, b3 = cntB e := ⟨_, rfl⟩
      rw [← h3]
      have B3 := Lib.hid h3
      clear h3
      cases b3 with
      | false =>
        have Hr : Hid (z = 19) := Lib.hid (by rw [HZ.out]; unfold xcheckB; rw [if_neg (by rw [← B1.out]; decide), if_neg Hne.out, if_pos B3.out.symm])
        go_wp2
        go_ret
        rw [Hr.out]
        exact ⟨rfl, H4.out.old⟩
      | true =>
        go_wp2_with fail
        refine (xclasses_any _ dv av e (HE.out.below H4.out.old) HK.out).mono ?_
        rintro e5 w5 ⟨rfl, hb5⟩
        have H5 := Lib.hid (H4.out.keeps hb5)
        clear hb5 c0 c1 H4
        have c0 := blk_cell H5.out.blk 0
        have c1 := blk_cell H5.out.blk 1
        obtain ⟨b4, h4⟩ : ∃ b4, b4 = classedB e := ⟨_, rfl⟩
        rw [← h4]
        have B4 := Lib.hid h4
        clear h4
        cases b4 with
        | false =>
          have Hr : Hid (z = 65) := Lib.hid (by rw [HZ.out]; unfold xcheckB; rw [if_neg (by rw [← B1.out]; decide), if_neg Hne.out, if_neg (by rw [← B3.out]; decide), if_pos B4.out.symm])
          go_wp2
          go_ret
          rw [Hr.out]
          exact ⟨rfl, H5.out.old⟩
        | true =>
          go_wp2_with fail
          refine (xnamed_any _ dv av e (HE.out.below H5.out.old) HK.out).mono ?_
          rintro e6 w6 ⟨rfl, hb6⟩
          have H6 := Lib.hid (H5.out.keeps hb6)
          clear hb6 c0 c1 H5
          obtain ⟨b5, h5⟩ : ∃ b5, b5 = namedB e := ⟨_, rfl⟩
          rw [← h5]
          have B5 := Lib.hid h5
          clear h5
          cases b5 with
          | false =>
            have Hr : Hid (z = 64) := Lib.hid (by rw [HZ.out]; unfold xcheckB; rw [if_neg (by rw [← B1.out]; decide), if_neg Hne.out, if_neg (by rw [← B3.out]; decide), if_neg (by rw [← B4.out]; decide), if_pos B5.out.symm])
            go_wp2
            go_ret
            rw [Hr.out]
            exact ⟨rfl, H6.out.old⟩
          | true =>
            have Hr : Hid (z = 0) := Lib.hid (by rw [HZ.out]; unfold xcheckB; rw [if_neg (by rw [← B1.out]; decide), if_neg Hne.out, if_neg (by rw [← B3.out]; decide), if_neg (by rw [← B4.out]; decide), if_neg (by rw [← B5.out]; decide)])
            go_wp2
            go_ret
            rw [Hr.out]
            exact ⟨rfl, H6.out.old⟩
/-! plain -/
theorem typed_of {e : Ent} (h : undefB e = false) : ∀ a ∈ e.ats, ∃ p, typeB (foldB a.typ) = some p := by
  intro a ha
  unfold undefB at h
  rw [Bool.or_eq_false_iff] at h
  have := List.any_eq_false.1 h.1 a ha
  unfold noType at this
  cases ht : typeB (foldB a.typ) with
  | none => rw [ht] at this; exact absurd rfl this
  | some p => exact ⟨p, rfl⟩
theorem canon_of {a : At} (h : ∃ p, typeB (foldB a.typ) = some p) : canonB a = foldB a.typ := by
  obtain ⟨p, h⟩ := h
  unfold canonB
  rw [h]
theorem con_of (l : List At) : ∀ seen : List ByteArray, (∀ a ∈ l, ∃ p, typeB (foldB a.typ) = some p) → cntL seen l = true → conL seen l = false := by
  induction l with
  | nil => intro _ _ _; rfl
  | cons a r ih =>
    intro seen ht h
    unfold cntL at h
    rw [Bool.and_eq_true, Bool.and_eq_true] at h
    obtain ⟨⟨h1, h2⟩, h3⟩ := h
    have hc := canon_of (ht a (List.mem_cons_self ..))
    unfold conL
    rw [hc, ih _ (fun b hb => ht b (List.mem_cons_of_mem _ hb)) h3, Bool.or_false]
    unfold badC
    unfold lensB at h2
    rw [hc]
    simp only [Bool.and_eq_true, decide_eq_true_eq, Bool.not_eq_true', Bool.and_eq_false_iff, decide_eq_false_iff_not] at h1 h2
    obtain ⟨⟨h4, h5⟩, h6⟩ := h2
    rw [h1]
    simp only [Bool.false_or, Bool.or_eq_false_iff, decide_eq_false_iff_not, Bool.and_eq_false_iff]
    exact ⟨⟨by omega, by omega⟩, h6⟩
theorem oc_any {e : Ent} (h : (valsB e s_objectclass).isEmpty = false) : (e.ats.any fun a => ocB a.typ) = true := by
  cases hh : e.ats.any fun a => ocB a.typ with
  | true => rfl
  | false =>
    have h0 : valsB e s_objectclass = [] := by
      unfold valsB
      rw [List.flatMap_eq_nil_iff]
      intro a ha
      have := List.any_eq_false.1 hh a ha
      unfold ocB at this
      rw [if_neg (by simpa using this)]
    rw [h0] at h
    cases h
theorem check_zero {e : Ent} (h : xcheckB e = 0) : checkB e = 0 ∧ undefB e = false ∧ valsB e s_objectclass ≠ [] := by
  unfold xcheckB at h
  split at h
  · exact absurd h (by decide)
  · split at h
    · exact absurd h (by decide)
    · split at h
      · exact absurd h (by decide)
      · split at h
        · exact absurd h (by decide)
        · split at h
          · exact absurd h (by decide)
          · rename_i h1 h2 h3 h4 h5
            have h1' : undefB e = false := by simpa using h1
            have h3' : cntB e = true := by simpa using h3
            unfold cntB at h3'
            rw [Bool.and_eq_true] at h3'
            refine ⟨?_, h1', fun h => h2 (by rw [h]; rfl)⟩
            unfold checkB
            rw [if_neg h1, if_neg (by rw [oc_any (by simpa using h2)]; decide), if_neg, if_neg h4, if_neg h5]
            unfold conB
            rw [con_of _ _ (typed_of h1') h3'.1, Bool.false_or]
            have := h3'.2
            simp only [decide_eq_true_eq] at this ⊢
            omega
/-- an entry without what one of its classes asks -/
def without (e : Ent) (typ : ByteArray) : Ent := ⟨e.dn, e.ats.filter fun a => !decide (foldB a.typ = typ)⟩
theorem without_none (e : Ent) (typ : ByteArray) : valsB (without e typ) typ = [] := by
  unfold valsB without
  rw [List.flatMap_eq_nil_iff]
  intro a ha
  rw [List.mem_filter] at ha
  rw [if_neg (by simpa using ha.2)]
theorem without_other (e : Ent) {typ t : ByteArray} (h : t ≠ typ) : valsB (without e typ) t = valsB e t := by
  unfold valsB without
  show (e.ats.filter _).flatMap _ = _
  induction e.ats with
  | nil => rfl
  | cons a r ih =>
    rw [List.filter_cons]
    split
    · simp only [List.flatMap_cons, ih]
    · rename_i h1
      have h2 : foldB a.typ = typ := by simpa using h1
      rw [ih, List.flatMap_cons, if_neg (by rw [h2]; exact fun h3 => h h3.symm), List.nil_append]
theorem clsL_none {e : Ent} {typ : ByteArray} (ht : valsB e typ = []) : ∀ (l all : List ByteArray) (c : ByteArray), c ∈ l → typ ∈ muB (classB (foldB c)) → clsL e all l = none := by
  intro l
  induction l with
  | nil => intro _ _ h; cases h
  | cons x r ih =>
    intro all c hc hm
    unfold clsL
    split
    · rfl
    · rename_i hx
      rcases List.mem_cons.1 hc with rfl | hc
      · exact absurd (List.any_eq_true.2 ⟨typ, hm, by rw [ht]; rfl⟩) hx
      · exact ih _ c hc hm
theorem without_no {e : Ent} {c typ : ByteArray} (hc : c ∈ valsB e s_objectclass) (hm : typ ∈ muB (classB (foldB c))) : checkB (without e typ) ≠ 0 := by
  intro h
  unfold checkB at h
  split at h
  · exact absurd h (by decide)
  · split at h
    · exact absurd h (by decide)
    · split at h
      · exact absurd h (by decide)
      · split at h
        · exact absurd h (by decide)
        · rename_i h1 h2 h3 h4
          by_cases ho : typ = s_objectclass
          · subst ho
            apply h2
            cases hh : (without e s_objectclass).ats.any fun a => ocB a.typ with
            | false => rfl
            | true =>
              obtain ⟨a, ha, hq⟩ := List.any_eq_true.1 hh
              unfold without at ha
              rw [List.mem_filter] at ha
              unfold ocB at hq
              have h5 := ha.2
              simp only [Bool.not_eq_true', decide_eq_false_iff_not, decide_eq_true_eq] at h5 hq
              exact absurd hq h5
          · apply h4
            unfold classedB
            rw [clsL_none (without_none e typ) _ _ c (by rw [without_other e (fun h => ho h.symm)]; exact hc) hm]
end Go.Proofs.YtindlfiifckdnaaDoor.Sc
