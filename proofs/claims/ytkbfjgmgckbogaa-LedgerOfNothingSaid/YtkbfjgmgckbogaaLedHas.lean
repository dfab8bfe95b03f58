/-
  has and removes of chapter 5.
-/
import Derived.Test.YtkbfjgmgckbogaaF10
namespace Go.Proofs.Ytkbfjgmgckbogaa.Ld
open Go.RowKit L Oct Dsk Fr Kp
section
variable {W0 w : World} {R : Asrt} {b n : Nat} {d : D}
theorem has_names (fs : List AF) (s : ByteArray) : hasN (sortN (fs.map AF.name)) s = (getF fs s).isSome := by
  have hm : ∀ x, x ∈ sortN (fs.map AF.name) ↔ x ∈ fs.map AF.name := fun x => (sortN_perm _).mem_iff
  cases hg : getF fs s with
  | none =>
    refine hasN_no fun h => ?_
    obtain ⟨f, hf, hn⟩ := List.mem_map.1 ((hm s).1 h)
    exact getF_none hg f hf hn
  | some f =>
    obtain ⟨h1, h2⟩ := getF_name hg
    exact hasN_yes ((hm s).2 (List.mem_map.2 ⟨f, h1, h2⟩))
def RetHasD (W0 : World) (R : Asrt) (b : Nat) (d : D) (x : Bool) (e : Ending) (w' : World) : Prop := e = .returned (.bool x) ∧ Hold W0 ((DiskA b d).sep R) w'
theorem has_any (H : Hold W0 ((DiskA b d).sep R) w) (hi : DInv d n) (hn : n ≤ 4096) (s : ByteArray) :
    Calls Try.prog 43 #[ptr b, .string s] w (RetHasD W0 R b d (getF d.fs s).isSome) := by
  have hl := list_any H (Nat.le_trans hi.len hn) (fun f hf => Nat.le_trans (hi.names f hf) (by omega))
  obtain ⟨names, hnm⟩ : ∃ names, names = sortN (d.fs.map AF.name) := ⟨_, rfl⟩
  have hnl : names.length = d.fs.length := by rw [hnm, (sortN_perm _).length_eq, List.length_map]
  have hh : Hid (hasN names s = (getF d.fs s).isSome) := Lib.hid (by rw [hnm, has_names])
  unfold RetList at hl
  rw [← hnm, ← hnl] at hl
  have HL := Lib.hid hl
  clear hl hnm hnl H hi hn
  unfold ptr at HL ⊢
  go_enter Try.func43, Try.ntmps43
  go_wp2_with fail
  refine HL.out.mono ?_
  rintro e w2 ⟨v, rfl, h2⟩
  have H2 := Lib.hid h2
  clear h2 HL
  go_wp2_with fail
  refine (contains_any v names s _ H2.out.sl).mono ?_
  rintro e w3 ⟨rfl, hb3⟩
  have H3 := Lib.hid (H2.out.keeps hb3).drop1
  clear hb3 H2
  go_wp2
  go_ret
  rw [hh.out]
  exact ⟨rfl, H3.out⟩
def RmRel (W0 : World) (R : Asrt) (b n : Nat) (names : List ByteArray) (d : D) (i : Value) (wr : World) : Prop :=
  ∃ (k : Nat) (d' : D), k ≤ names.length ∧ i = .int .i64 k ∧ removes d' (names.drop k) = removes d names ∧ DInv d' n ∧ Hold W0 ((DiskA b d').sep R) wr
set_option maxRecDepth 100000 in
set_option maxHeartbeats 1600000 in
theorem removes_any (H : Hold W0 ((DiskA b d).sep R) w) (hi : DInv d n) (hn : n ≤ 4096) (v : Value) (names : List ByteArray) (hv : Reads W0 R 1 v names.length (strs names)) :
    Calls Try.prog 35 #[ptr b, v] w (RetApp W0 R b (removes d names)) := by
  have hlen := (hv.at H.drop1).run_len Try.underlying50
  have hmx := (hv.at H.drop1).le'
  have HV := Lib.hid hv
  have HR : Hid (RmRel W0 R b n names d (.int .i64 0) w) := Lib.hid ⟨0, d, Nat.zero_le _, rfl, by simp, hi, H⟩
  clear H hi hv
  unfold ptr
  go_enter Try.func35, Try.ntmps35
  go_wp2
  go_loopw [10] (fun i wr => RmRel W0 R b n names d i wr) (fun i _ => names.length - (intOf i).toNat)
  case atStart => exact HR.out
  case round =>
    clear HR
    obtain ⟨k, d', hk, rfl, heq, hi', hH⟩ := hrel
    have Heq := Lib.hid heq
    have HI := Lib.hid hi'
    have HW := Lib.hid hH
    clear heq hi' hH
    by_cases hlt : k < names.length
    · obtain ⟨A, u, hA, hblk, hc, Hu⟩ := (HV.out.at HW.out.drop1).at1 (P := Try.prog) Try.underlying50 Try.size9 k hlt
      rw [Hu.out, strs_get names k hlt] at hc
      obtain ⟨s, hs⟩ : ∃ s, s = names.getD k ByteArray.empty := ⟨_, rfl⟩
      rw [← hs] at hc
      have hdrop : Hid (removes d' (names.drop k) = if (getF d'.fs s).isNone then removes d' (names.drop (k + 1)) else if (d'.remove [s]).2 = 0 then removes (d'.remove [s]).1 (names.drop (k + 1)) else d'.remove [s]) := Lib.hid (by
        rw [List.drop_eq_getElem_cons hlt, removes, show names[k] = s from by rw [hs]; simp [List.getD, hlt]])
      clear hs hblk Hu
      cases hg : getF d'.fs s with
      | none =>
        have he := Lib.hid (hdrop.out.trans (if_pos (by rw [hg]; rfl)))
        have Hg : Hid ((getF d'.fs s).isSome = false) := Lib.hid (by rw [hg]; rfl)
        clear hg
        go_wp2_with fail
        refine (has_any HW.out HI.out hn s).mono ?_
        rintro e w3 ⟨rfl, h3⟩
        rw [Hg.out]
        have H3 := Lib.hid h3
        clear h3 HW
        go_wp2
        go_roundw
        case rel => exact ⟨k + 1, d', by omega, by go_num, by rw [← he.out, Heq.out], HI.out, H3.out⟩
        case measure => simp [intOf]; omega
      | some f =>
        have h1 := hdrop.out.trans (if_neg (by rw [hg]; simp))
        have Hg : Hid ((getF d'.fs s).isSome = true) := Lib.hid (by rw [hg]; rfl)
        clear hg
        by_cases h3 : (d'.remove [s]).2 = 0
        · have he := Lib.hid (h1.trans (if_pos h3))
          have H3h := Lib.hid h3
          clear h1 h3
          go_wp2_with fail
          refine (has_any HW.out HI.out hn s).mono ?_
          rintro e w3 ⟨rfl, h3⟩
          rw [Hg.out]
          have H3 := Lib.hid h3
          clear h3 HW
          go_wp2_with fail
          refine (remove_lit H3.out rfl HI.out.ok.left s).mono ?_
          rintro e w5 ⟨rfl, H5⟩
          rw [H3h.out]
          have H5h := Lib.hid H5
          clear H3 H5
          go_wp2
          go_roundw
          case rel => exact ⟨k + 1, (d'.remove [s]).1, by omega, by go_num, by rw [← he.out, Heq.out], HI.out.remove s, H5h.out⟩
          case measure => simp [intOf]; omega
        · have he := Lib.hid (h1.trans (if_neg h3))
          obtain ⟨m, hm⟩ : ∃ m : Nat, m = (d'.remove [s]).2 := ⟨_, rfl⟩
          have hm0 : ((m : Int) == 0) = false := by rw [beq_eq_false_iff_ne]; omega
          have hm1 : ((m : Int) != 0) = true := by simp; omega
          have Hm := Lib.hid hm
          clear h1 h3 hm
          go_wp2_with fail
          refine (has_any HW.out HI.out hn s).mono ?_
          rintro e w3 ⟨rfl, h3⟩
          rw [Hg.out]
          have H3 := Lib.hid h3
          clear h3 HW
          go_wp2_with fail
          refine (remove_lit H3.out rfl HI.out.ok.left s).mono ?_
          rintro e w5 ⟨rfl, H5⟩
          rw [← Hm.out]
          have H5h := Lib.hid H5
          clear H3 H5
          go_wp2
          go_ret
          rw [← Heq.out, he.out]
          exact ⟨ret_int (by rw [Hm.out]), H5h.out⟩
    · have hend : Hid (removes d names = (d', 0)) := Lib.hid (by rw [← Heq.out, List.drop_eq_nil_of_le (by omega)]; rfl)
      go_wp2
      go_ret
      rw [hend.out]
      exact ⟨rfl, HW.out⟩
theorem removes_inv : ∀ (l : List ByteArray) {d : D}, DInv d n → DInv (removes d l).1 n
  | [], _, h => h
  | s :: l, d, h => by
    unfold removes
    split
    · exact removes_inv l h
    · split
      · exact removes_inv l (h.remove s)
      · exact h.remove s
end
end Go.Proofs.Ytkbfjgmgckbogaa.Ld
