/-
  Check of chapter 14 (the program's).
-/
import Derived.Test.YtindlfiifckdnaaDoorSchCls
namespace Go.Proofs.YtindlfiifckdnaaDoor.Sc
open Go.RowKit L
theorem enters_check1 : ∀ (args : Array Value) (w : World), (callFunc 24 args).run Tryd.prog w = .ok (Next.enter 24 args) w := enters Tryd.func24 (by kernel_rfl) (by kernel_rfl)
def checkB (e : Ent) : Int :=
  if undefB e = true then 17 else if (e.ats.any fun a => ocB a.typ) = false then 65 else if conB e = true then 19 else if classedB e = false then 65 else if namedB e = false then 64 else 0
def RetInt (w : World) (z : Int) (e : Ending) (w' : World) : Prop := e = .returned (.int .i64 z) ∧ Below w.heap.size w w'
set_option maxRecDepth 100000 in
set_option maxHeartbeats 1600000 in
theorem check_any (w : World) (dv av : Value) (e : Ent) (h : EntAt w dv av e) (hk : EntOk e 1048576) (hT : Tab w) : Calls Tryd.prog 10 #[.agg #[dv, av]] w (RetInt w (checkB e)) := by
  have HE := Lib.hid h
  have HK := Lib.hid hk
  have HT := Lib.hid hT
  have H0 := Lib.hid ((Hold.start w).addBlk (cs := #[dv, av]) (t := 25) (b := w.heap.size) rfl)
  have hmf : ∀ (fn : Fn) (first cap : Array Value) (w : World), (Instr.makeFunc fn first cap).run Tryd.prog w = .ok (.func fn first cap) w := fun _ _ _ _ => rfl
  obtain ⟨z, hz⟩ : ∃ z, z = checkB e := ⟨_, rfl⟩
  have HZ := Lib.hid hz
  rw [← hz]
  clear h hk hT hz
  go_enter Tryd.func10, Tryd.ntmps10
  go_wp2_with fail
  refine (undef_any _ dv av e (HE.out.below H0.out.old) HK.out (HT.out.below H0.out.old)).mono ?_
  rintro e2 w2 ⟨rfl, hb2⟩
  have H2 := Lib.hid (H0.out.keeps hb2)
  clear hb2
  have c0 := blk_cell H2.out.blk 0
  have c1 := blk_cell H2.out.blk 1
  obtain ⟨b1, h1⟩ : ∃ b1, b1 = undefB e := ⟨_, rfl⟩
  rw [← h1]
  have B1 := Lib.hid h1
  clear h1
  cases b1 with
  | true =>
    have Hr : Hid (z = 17) := Lib.hid (by rw [HZ.out]; unfold checkB; rw [if_pos B1.out.symm])
    go_wp2
    go_ret
    rw [Hr.out]
    exact ⟨rfl, H2.out.old⟩
  | false =>
    go_wp2_with fail
    refine (containsA_any 24 enters_check1 #[] (fun a => ocB a.typ) dv av e w2 (HE.out.below H2.out.old) (by have := HK.out.atl; omega) (fun a ha ao n c w' _ => check1_any a.typ ao n c w' (by have := HK.out.typ a ha; omega))).mono ?_
    rintro e3 w3 ⟨rfl, hb3⟩
    have H3 := Lib.hid (H2.out.keeps hb3)
    clear hb3 c0 c1 H2
    have c0 := blk_cell H3.out.blk 0
    have c1 := blk_cell H3.out.blk 1
    obtain ⟨b2, h2⟩ : ∃ b2, b2 = e.ats.any fun a => ocB a.typ := ⟨_, rfl⟩
    rw [← h2]
    have B2 := Lib.hid h2
    clear h2
    cases b2 with
    | false =>
      have Hr : Hid (z = 65) := Lib.hid (by rw [HZ.out]; unfold checkB; rw [if_neg (by rw [← B1.out]; decide), if_pos B2.out.symm])
      go_wp2
      go_ret
      rw [Hr.out]
      exact ⟨rfl, H3.out.old⟩
    | true =>
      go_wp2_with fail
      refine (con_any _ dv av e (HE.out.below H3.out.old) HK.out).mono ?_
      rintro e4 w4 ⟨rfl, hb4⟩
      have H4 := Lib.hid (H3.out.keeps hb4)
      clear hb4 c0 c1 H3
      have c0 := blk_cell H4.out.blk 0
      have c1 := blk_cell H4.out.blk 1
      obtain ⟨b3, h3⟩ : ∃ b3, b3 = conB e := ⟨_, rfl⟩
      rw [← h3]
      have B3 := Lib.hid h3
      clear h3
      cases b3 with
      | true =>
        have Hr : Hid (z = 19) := Lib.hid (by rw [HZ.out]; unfold checkB; rw [if_neg (by rw [← B1.out]; decide), if_neg (by rw [← B2.out]; decide), if_pos B3.out.symm])
        go_wp2
        go_ret
        rw [Hr.out]
        exact ⟨rfl, H4.out.old⟩
      | false =>
        go_wp2_with fail
        refine (classed_any _ dv av e (HE.out.below H4.out.old) HK.out (HT.out.below H4.out.old)).mono ?_
        rintro e5 w5 ⟨rfl, hb5⟩
        have H5 := Lib.hid (H4.out.keeps hb5)
        clear hb5 c0 c1 H4
        have c0 := blk_cell H5.out.blk 0
        have c1 := blk_cell H5.out.blk 1
        obtain ⟨b4, h4⟩ : ∃ b4, b4 = classedB e := ⟨_, rfl⟩
        rw [← h4]
        have B4 := Lib.hid h4
        clear h4
        cases b4 with
        | false =>
          have Hr : Hid (z = 65) := Lib.hid (by rw [HZ.out]; unfold checkB; rw [if_neg (by rw [← B1.out]; decide), if_neg (by rw [← B2.out]; decide), if_neg (by rw [← B3.out]; decide), if_pos B4.out.symm])
          go_wp2
          go_ret
          rw [Hr.out]
          exact ⟨rfl, H5.out.old⟩
        | true =>
          go_wp2_with fail
          refine (named_any _ dv av e (HE.out.below H5.out.old) HK.out).mono ?_
          rintro e6 w6 ⟨rfl, hb6⟩
          have H6 := Lib.hid (H5.out.keeps hb6)
          clear hb6 c0 c1 H5
          obtain ⟨b5, h5⟩ : ∃ b5, b5 = namedB e := ⟨_, rfl⟩
          rw [← h5]
          have B5 := Lib.hid h5
          clear h5
          cases b5 with
          | false =>
            have Hr : Hid (z = 64) := Lib.hid (by rw [HZ.out]; unfold checkB; rw [if_neg (by rw [← B1.out]; decide), if_neg (by rw [← B2.out]; decide), if_neg (by rw [← B3.out]; decide), if_neg (by rw [← B4.out]; decide), if_pos B5.out.symm])
            go_wp2
            go_ret
            rw [Hr.out]
            exact ⟨rfl, H6.out.old⟩
          | true =>
            have Hr : Hid (z = 0) := Lib.hid (by rw [HZ.out]; unfold checkB; rw [if_neg (by rw [← B1.out]; decide), if_neg (by rw [← B2.out]; decide), if_neg (by rw [← B3.out]; decide), if_neg (by rw [← B4.out]; decide), if_neg (by rw [← B5.out]; decide)])
            go_wp2
            go_ret
            rw [Hr.out]
            exact ⟨rfl, H6.out.old⟩
end Go.Proofs.YtindlfiifckdnaaDoor.Sc
