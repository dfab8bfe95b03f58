/-
  named of chapter 14.
-/
import Derived.Test.YtindlfiifckdnaaDoorSchDraw
namespace Go.Proofs.YtindlfiifckdnaaDoor.Sc
open Go.RowKit L
def namedA (e : Ent) (a : ByteArray × ByteArray) : Bool := match typeB (foldB a.1) with | none => false | some _ => (valsB e (foldB a.1)).any fun v => decide (foldB v = foldB a.2)
def namedB (e : Ent) : Bool := match e.dn with | [] => true | a :: _ => namedA e a
theorem EntAt.dlen {w : World} {dv av : Value} {e : Ent} (h : EntAt w dv av e) : ∀ (ty : TypeId) (w' : World), (Builtin.len_ #[22] ty #[dv]).run Tryd.prog w' = .ok (.int .i64 e.dn.length) w' := h.dn.run_len (P := Tryd.prog) Tryd.underlying22
theorem EntAt.dat {w : World} {dv av : Value} {e : Ent} (h : EntAt w dv av e) (k : Nat) (hk : k < e.dn.length) :
    ∃ (A : Addr), (∀ w' : World, (Instr.indexAt 22 dv (.int .i64 (k : Int))).run Tryd.prog w' = .ok (.pointer (some A)) w') ∧ w.cell? A = some (.string (e.dn.getD k default).1) ∧ w.cell? ⟨A.block, A.off + 1, none⟩ = some (.string (e.dn.getD k default).2) := by
  obtain ⟨A, hA, hblk, hcell⟩ := run_indexAt_sl (P := Tryd.prog) h.dn Tryd.underlying22 Tryd.size46 .i64 (k : Int) (by omega) (by omega)
  have h0 := hcell 0 (by omega)
  have h1 := hcell 1 (by omega)
  simp only [Int.toNat_natCast, Nat.add_zero] at h0 h1
  obtain ⟨g0, g1⟩ := dcl_get e.dn k hk
  rw [g0] at h0
  rw [g1] at h1
  exact ⟨A, hA, h0, h1⟩
set_option maxRecDepth 100000 in
set_option maxHeartbeats 1600000 in
theorem named_any (w : World) (dv av : Value) (e : Ent) (h : EntAt w dv av e) (hk : EntOk e 1048576) : Calls Tryd.prog 28 #[.agg #[dv, av]] w (RetBl w (namedB e)) := by
  have HE := Lib.hid h
  have HK := Lib.hid hk
  have hlen := h.dlen
  have hmf : ∀ (fn : Fn) (first cap : Array Value) (w : World), (Instr.makeFunc fn first cap).run Tryd.prog w = .ok (.func fn first cap) w := fun _ _ _ _ => rfl
  have HB0 := Lib.hid ((Below.refl w.heap.size w).alloc (Nat.le_refl _) (.cells #[dv, av] 25))
  cases hd : e.dn with
  | nil =>
    have Hr : Hid (namedB e = true) := Lib.hid (by unfold namedB; rw [hd])
    rw [hd] at hlen
    clear hd h hk
    go_enter Tryd.func28, Tryd.ntmps28
    go_wp2
    go_ret
    rw [Hr.out]
    exact ⟨rfl, HB0.out⟩
  | cons a r =>
    have Hr : Hid (namedB e = namedA e a) := Lib.hid (by unfold namedB; rw [hd])
    have hn : 0 < e.dn.length := by rw [hd]; simp
    have ha : e.dn.getD 0 default = a := by rw [hd]; rfl
    obtain ⟨n, hn2⟩ : ∃ n, n = e.dn.length := ⟨_, rfl⟩
    have hat := (h.below HB0.out).dat 0 hn
    rw [ha] at hat
    obtain ⟨A, hA', hc0, hc1⟩ := hat
    have hA : ∀ w' : World, (Instr.indexAt 22 dv (.int .i64 0)).run Tryd.prog w' = .ok (.pointer (some A)) w' := hA'
    clear hA'
    have hsz := hk.dns a (by rw [hd]; simp)
    have hs1 := hsz.1
    have hs2 := hsz.2
    rw [← hn2] at hlen hn
    have q0 : ((n : Int) == 0) = false := by rw [beq_eq_false_iff_ne]; omega
    clear hd h hk ha hn2 hsz
    go_enter Tryd.func28, Tryd.ntmps28
    go_wp2_with fail
    refine (type_any a.1 _ (by omega)).mono ?_
    rintro e2 w2 ⟨rfl, hb2⟩
    obtain ⟨bc, bf⟩ := bcellS hb2
    have hz : w.heap.size + 1 < w2.heap.size := by have := hb2.size; simp at this; omega
    have HB1 : Hid (Below w.heap.size w w2) := Lib.hid ((HB0.out.alloc HB0.out.size _).trans (hb2.mono (by have := hb2.size; simp at this; simp; try omega)))
    clear hb2
    have k0 := bc w.heap.size 0 (by simp; omega)
    have k1 := bc w.heap.size 1 (by simp; omega)
    have k2 := bc (w.heap.size + 1) 0 (by simp)
    have k3 := bc (w.heap.size + 1) 1 (by simp)
    have k4 : w2.cell? ⟨w.heap.size + 1, 1, none⟩ = some (.string a.2) := by
      rw [k3, World.cell?_alloc_at _ _ _ _ (by simp)]; rfl
    have K4 := Lib.hid k4
    cases ho : typeB (foldB a.1) with
    | none =>
      have Hr2 : Hid (namedB e = false) := Lib.hid (by rw [Hr.out]; unfold namedA; rw [ho])
      clear ho Hr
      simp only [typeV]
      go_wp2
      go_ret
      rw [Hr2.out]
      exact ⟨rfl, HB1.out⟩
    | some p =>
      have Hr2 : Hid (namedB e = (valsB e (foldB a.1)).any fun v => decide (foldB v = foldB a.2)) := Lib.hid (by rw [Hr.out]; unfold namedA; rw [ho])
      clear ho Hr
      simp only [typeV]
      go_wp2_with fail
      refine (values_any _ dv av e (foldB a.1) (HE.out.below HB1.out) HK.out).mono ?_
      rintro e3 w3 ⟨v, rfl, hsl, hb3⟩
      have HB3 : Hid (Below w.heap.size w w3) := Lib.hid (HB1.out.trans (hb3.mono HB1.out.size))
      have h3 := (bcellS hb3).1 (w.heap.size + 1) 1 (by omega)
      rw [K4.out] at h3
      have hz3 : w.heap.size + 1 < w3.heap.size := by have := hb3.size; omega
      have hvl := valsT_len HK.out (foldB a.1) e.ats.length
      rw [valsT_all] at hvl
      have hcf := containsS_any 40 enters_named1 #[.pointer (some ⟨w.heap.size + 1, 0, none⟩)] (fun v => decide (foldB v = foldB a.2)) v (valsB e (foldB a.1)) w3 hsl (by omega) (fun s hs w' hw' => named1_any s a.2 (w.heap.size + 1) w' (by have := valsB_size HK.out _ s hs; omega) (by omega) (by have := hw'.size; omega) (by rw [(bcellS hw').1 _ _ hz3]; exact h3))
      have HCf := Lib.hid hcf
      clear hsl hb3 hvl hcf h3
      go_wp2_with fail
      refine HCf.out.mono ?_
      rintro e4 w4 ⟨rfl, hb4⟩
      have HB4 : Hid (Below w.heap.size w w4) := Lib.hid (HB3.out.trans (hb4.mono HB3.out.size))
      obtain ⟨x, hx⟩ : ∃ x, x = (valsB e (foldB a.1)).any fun v => decide (foldB v = foldB a.2) := ⟨_, rfl⟩
      rw [← hx] at Hr2 ⊢
      clear hb4 hx HCf
      go_wp2
      go_ret
      rw [Hr2.out]
      exact ⟨rfl, HB4.out⟩
end Go.Proofs.YtindlfiifckdnaaDoor.Sc
