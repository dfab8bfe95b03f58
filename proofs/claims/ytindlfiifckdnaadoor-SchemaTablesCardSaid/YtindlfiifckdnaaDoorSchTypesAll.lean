/-
  Types of chapter 14: the names in their order.
-/
import Derived.Test.YtindlfiifckdnaaDoorSchType
import Derived.Test.YtindlfiifckdnaaDoorSchEnt
import Derived.Test.YtindlfiifckdnaaDoorMapR
import Derived.Test.YtindlfiifckdnaaDoorShelf
import Derived.Sort.OwnSorted
import Derived.Sort.KeysCollected
namespace Go.Proofs.YtindlfiifckdnaaDoor.Sc
open Go.RowKit L Go.MapKept
theorem mdel_perm : ∀ {l : List (ByteArray × Value)}, (l.map (·.1)).Nodup → ∀ {s : ByteArray} {v : Value}, (s, v) ∈ l → (l.map (·.1)).Perm (s :: (mdel l s).map (·.1))
  | [], _, s, v, h => by cases h
  | q :: r, hn, s, v, h => by
    have hn' := List.nodup_cons.1 hn
    by_cases e : q.1 = s
    · have hr : mdel r s = r := by
        unfold mdel
        refine List.filter_eq_self.2 fun y hy => ?_
        have : y.1 ≠ s := fun h2 => hn'.1 (List.mem_map.2 ⟨y, hy, by simp [h2, e]⟩)
        simp [this]
      have h1 : mdel (q :: r) s = mdel r s := by simp [mdel, e]
      rw [h1, hr, List.map_cons, e]
    · have h2 : (s, v) ∈ r := by
        rcases List.mem_cons.1 h with h | h
        · exact (e (by rw [← h])).elim
        · exact h
      have ih := mdel_perm hn'.2 h2
      have h1 : mdel (q :: r) s = q :: mdel r s := by simp [mdel, e]
      rw [h1, List.map_cons, List.map_cons]
      exact (ih.cons _).trans (List.Perm.swap ..)
theorem tyKV_len : tyKV.length = 19 := by kernel_rfl
theorem nm_sorted : ((nm19.map fun s => s.data.toList).mergeSort fun x y => decide (x ≤ y)) = nm19.map fun s => s.data.toList := by
  refine List.mergeSort_of_pairwise ?_
  decide
theorem nm_perm : (tyKV.map (·.1)).Perm nm19 := by decide
theorem sorted_nm {ks : List ByteArray} (h : ks.Perm (tyKV.map (·.1))) : ((ks.map fun s => s.data.toList).mergeSort fun x y => decide (x ≤ y)).map Go.Proofs.encStr = strs nm19 := by
  rw [Go.mergeSort_of_perm ((h.trans nm_perm).map fun s : ByteArray => s.data.toList), nm_sorted]
  unfold strs
  rw [List.map_map]
  refine List.map_congr_left fun s _ => ?_
  simp [Go.Proofs.encStr]
/-- behind the sort -/
theorem sorted_row {W0 wr : World} {R : Asrt} {g cap : Nat} {ks : List ByteArray} {m n : Nat} {os : Array Obj} (H : Hold W0 ((Row 9 1 (.slice (some ⟨g, 0, none⟩) m cap) m (strs ks)).sep R) wr) (hm : m = ks.length) {ts : List (List UInt8)} (ht : ts.length = m) :
    Go.Sort.Holds Go.Proofs.encStr wr g 0 (ks.map fun s => s.data.toList).toArray ∧ g < wr.heap.size ∧
      Sl (Go.Sort.grow (Go.Sort.putRow Go.Proofs.encStr (Go.Sort.ahead wr n) g 0 ts.toArray) os) 1 (.slice (some ⟨g, 0, none⟩) m cap) m (ts.map Go.Proofs.encStr) ∧
      Below W0.heap.size W0 (Go.Sort.grow (Go.Sort.putRow Go.Proofs.encStr (Go.Sort.ahead wr n) g 0 ts.toArray) os) := by
  obtain ⟨ho, hb⟩ := H.fin
  obtain ⟨h0, h1 | ⟨g', cap', cur, hv, hB, hg, hn, hcm, hs, htk⟩⟩ := ho
  · cases h1.1
  · simp only [Value.slice.injEq, Option.some.injEq, Addr.mk.injEq, true_and, and_true] at hv
    obtain ⟨rfl, rfl⟩ := hv
    have hlt := hg.lt
    have hH : Go.Sort.Holds Go.Proofs.encStr wr g 0 (ks.map fun s => s.data.toList).toArray := by
      intro j hj
      have hj' : j < ks.length := by simpa using hj
      refine ⟨?_, by rw [Nat.zero_add]; exact hg.free (by omega)⟩
      rw [Nat.zero_add, hg.cell, ← Array.getElem?_toList]
      have h2 : (cur.toList.take (m * 1))[j]? = (strs ks)[j]? := by rw [htk]
      rw [List.getElem?_take_of_lt (by omega)] at h2
      rw [h2]
      simp [strs, hj', Go.Proofs.encStr]
    refine ⟨hH, hlt, ?_, ?_⟩
    · have hA : Go.Sort.Holds Go.Proofs.encStr (Go.Sort.ahead wr n) g 0 (ks.map fun s => s.data.toList).toArray := hH
      have h2 := Go.Sort.holds_putRow Go.Proofs.encStr (Go.Sort.ahead wr n) g 0 _ ts.toArray hA (by simp; omega)
      have h3 := Go.Sort.holds_grow Go.Proofs.encStr _ os g 0 _ (by simpa using hlt) h2
      refine ⟨by simp; omega, _, cap, rfl, hn, hcm, (fun h => by cases h), fun a ha j hj => ?_⟩
      cases ha
      have hj' : j < ts.toArray.size := by simp; omega
      have h4 := (h3 j hj').1
      rw [Addr.add_lit]
      rw [h4]
      have hj2 : j < ts.length := by omega
      simp [List.getD, hj2]
    · refine hb.trans ⟨rfl, rfl, rfl, by simp, fun k hk => ?_⟩
      rw [Go.Sort.heap_grow_old _ _ (by simp; have := hb.size; omega)]
      have : g ≠ k := by omega
      simp [Go.Sort.putRow, Go.Sort.mapBlock, Go.Sort.ahead, Array.getElem?_modify, this]
def TaRel (w : World) (mb r : Nat) (v : Value) (wr : World) : Prop := ∃ (lr : List (ByteArray × Value)) (ks : List ByteArray), Hid ((ks ++ lr.map (·.1)).Perm (tyKV.map (·.1))) ∧ ks.length + lr.length ≤ 19 ∧
  Hold w ((RangeA mb r tyKV lr).sep ((Row 9 1 v ks.length (strs ks)).sep Asrt.emp)) wr
set_option maxRecDepth 100000 in
set_option maxHeartbeats 1600000 in
theorem Types_any (w : World) : Calls Tryd.prog 12 #[] w (RetStrs w nm19) := by
  go_enter Tryd.func12, Tryd.ntmps12
  go_wp2_with fail
  refine (types_any _).mono ?_
  rintro e w2 ⟨mb, rfl, H2⟩
  have HM := Lib.hid H2
  clear H2
  go_wp2_with (at_range; refine wpList_mrange HM.out rfl _ 51 rfl Tryd.underlying51 rfl ?_; intro r w1 H3)
  have HP : Hid (TaRel w mb r (.slice none 0 0) w1) := Lib.hid ⟨tyKV, [], Lib.hid (by simp), by rw [tyKV_len]; decide, by
    have := H3.addNil 9 1
    exact this.perm (by ac_rfl)⟩
  clear H3 HM
  go_frame
  go_loopw [1] (fun v wr => TaRel w mb r v wr) (fun _ wr => wr.rangeLeft mb r)
  case atStart => exact HP.out
  case round =>
    clear HP
    obtain ⟨lr, ks, hp, hle, H4⟩ := hrel
    have HL := Lib.hid H4.range_left
    have HN := Lib.hid H4.range_nodup.1
    go_wp2_with (at_next; refine wpList_mnext H4 rfl _ rfl rfl ?_ ?_)
    · intro hnil
      subst hnil
      have HR := Lib.hid H4.up2
      have hps : ks.Perm (tyKV.map (·.1)) := by have := hp.out; simpa using this
      have hkl : ks.length = 19 := by rw [hps.length_eq, List.length_map, tyKV_len]
      have HS := Lib.hid (sorted_nm hps)
      obtain ⟨ao, cap, hv⟩ := H4.up2.own.shape
      obtain ⟨g, hg⟩ : ∃ g, ao = some ⟨g, 0, none⟩ := by
        rcases H4.up2.own.2 with ⟨h1, h2⟩ | ⟨g, cap', cur, h1, _⟩
        · omega
        · rw [hv] at h1
          simp only [Value.slice.injEq] at h1
          exact ⟨g, h1.1⟩
      subst hv hg
      obtain ⟨m, hm⟩ : ∃ m, m = ks.length := ⟨_, rfl⟩
      rw [← hm] at HR
      have hsrt := fun (n : Nat) (os : Array Obj) => sorted_row (n := n) (os := os) HR.out hm (ts := (ks.map fun s => s.data.toList).mergeSort fun x y => decide (x ≤ y)) (by simp [hm])
      have HQ := Lib.hid hsrt
      have HX := Lib.hid (Tryd.slices_Sort_string g 0 cap (ks.map fun s => s.data.toList) wr (hsrt 0 #[]).1 (hsrt 0 #[]).2.1 (by simp; omega))
      rw [List.length_map, ← hm] at HX
      have Hm : Hid (m = 19) := Lib.hid (by omega)
      rw [← hm]
      clear H4 hp hps hsrt hle hkl hm
      go_wp2_with fail
      refine HX.out.mono ?_
      rintro e w5 ⟨rfl, n, os, rfl⟩
      have HF := Lib.hid (HQ.out n os).2.2
      rw [HS.out] at HF
      clear HX HQ HS
      go_wp2
      go_ret
      exact ⟨_, rfl, by have := HF.out.1; rw [Hm.out] at this; rw [Hm.out]; exact this, HF.out.2⟩
    · intro s v w2 hps hlt H5 hen
      have HK : Hid ((ks ++ [s] ++ (mdel lr s).map (·.1)).Perm (tyKV.map (·.1))) := Lib.hid (by
        have h1 := mdel_perm HN.out hps
        refine List.Perm.trans ?_ hp.out
        rw [List.append_assoc]
        exact (h1.symm).append_left ks)
      have hle2 : (ks ++ [s]).length + (mdel lr s).length ≤ 19 := by
        have h1 := (mdel_perm HN.out hps).length_eq
        simp only [List.length_map, List.length_cons] at h1
        simp only [List.length_append, List.length_cons, List.length_nil]
        omega
      have hkl : ks.length ≤ 18 := by
        simp only [List.length_append, List.length_cons, List.length_nil] at hle2
        omega
      have HL2 := Lib.hid H5.range_left
      have HG := Lib.hid H5.up2
      have Hlt := Lib.hid hlt
      have Hle2 := Lib.hid hle2
      clear H4 H5 hps hlt hp hle hle2
      go_wp2_with (at_builtin; refine wpList_appLit (sx := .tmp 9) elS HG.out [.string s] rfl _ rfl rfl rfl rfl (by simp [Value.oneCell']) (by simp; omega) (by simp; omega) ?_; intro v9 xs9 w9 X9 H9)
      have HF : Hid (Hold w ((RangeA mb r tyKV (mdel lr s)).sep ((Row 9 1 v9 (ks ++ [s]).length (strs (ks ++ [s]))).sep Asrt.emp)) w9) := Lib.hid (by
        have h1 := H9.up2
        rw [X9.out] at h1
        rw [strs_append, List.length_append]
        exact h1)
      have HL9 := Lib.hid HF.out.range_left
      clear H9 X9
      go_roundw
      case rel => exact ⟨mdel lr s, ks ++ [s], HK, Hle2.out, HF.out⟩
      case measure => rw [HL9.out, HL.out]; exact Hlt.out
end Go.Proofs.YtindlfiifckdnaaDoor.Sc
