/-
  slices.ContainsFunc over texts and over attributes, of any function whose answer is told.
-/
import Derived.Test.YtindlfiifckdnaaDoorSchEnt
namespace Go.Proofs.YtindlfiifckdnaaDoor.Sc
open Go.RowKit L
def RetBl (w : World) (b : Bool) (e : Ending) (w' : World) : Prop := e = .returned (.bool b) ∧ Below w.heap.size w w'
def RetIdx (w : World) (b : Bool) (e : Ending) (w' : World) : Prop := ∃ z : Int, e = .returned (.int .i64 z) ∧ decide (0 ≤ z) = b ∧ Below w.heap.size w w'
def IxRel {α : Type} (w : World) (l : List α) (p : α → Bool) (d : α) (i : Value) (wr : World) : Prop := ∃ k : Nat, k ≤ l.length ∧ i = .int .i64 k ∧ (∀ j, j < k → p (l.getD j d) = false) ∧ Below w.heap.size w wr
theorem any_yes {α : Type} {l : List α} {p : α → Bool} {d : α} {k : Nat} (hk : k < l.length) (h : p (l.getD k d) = true) : l.any p = true := List.any_eq_true.2 ⟨_, by simp [List.getD, hk], h⟩
theorem any_no {α : Type} {l : List α} {p : α → Bool} {d : α} (h : ∀ j, j < l.length → p (l.getD j d) = false) : l.any p = false := by
  cases hx : l.any p with
  | false => rfl
  | true =>
    obtain ⟨x, hm, hp⟩ := List.any_eq_true.1 hx
    obtain ⟨j, hj, rfl⟩ := List.getElem_of_mem hm
    have := h j hj
    rw [show l.getD j d = l[j] from by simp [List.getD, hj], hp] at this
    cases this
set_option maxHeartbeats 800000 in
theorem indexS_any (K : Nat) (hK : ∀ (args : Array Value) (w : World), (callFunc K args).run Tryd.prog w = .ok (Next.enter K args) w) (cap : Array Value) (p : ByteArray → Bool) (v : Value) (l : List ByteArray) (w : World) (hv : Sl w 1 v l.length (strs l)) (hl : l.length ≤ 1099511627776)
    (hf : ∀ s ∈ l, ∀ w', Below w.heap.size w w' → Calls Tryd.prog K (#[.string s] ++ cap) w' (RetBl w' (p s))) :
    Calls Tryd.prog 44 #[v, .func (.func K) #[] cap] w (RetIdx w (l.any p)) := by
  have hlen := hv.run_len Tryd.underlying28
  have HV := Lib.hid hv
  have HFn := Lib.hid hf
  clear hv hf
  go_enter Tryd.func44, Tryd.ntmps44
  go_wp2
  go_loopw [8] (fun i wr => IxRel w l p ByteArray.empty i wr) (fun i _ => l.length - (intOf i).toNat)
  case atStart => exact ⟨0, Nat.zero_le _, rfl, (fun j hj => by omega), Below.refl _ _⟩
  case round =>
    obtain ⟨k, hk, rfl, hall, hb⟩ := hrel
    have Hall := Lib.hid hall
    have HB := Lib.hid hb
    clear hall hb
    by_cases hlt : k < l.length
    · obtain ⟨A, u, hA, _, hc, Hu⟩ := (HV.out.below' HB.out).at1 (P := Tryd.prog) Tryd.underlying28 Tryd.size9 k hlt
      rw [Hu.out, strs_get l k hlt] at hc
      have hcall := HFn.out (l.getD k ByteArray.empty) (by simp [List.getD, hlt]) wr HB.out
      obtain ⟨x, hx⟩ : ∃ x, x = l.getD k ByteArray.empty := ⟨_, rfl⟩
      rw [← hx] at hc hcall
      have HX := Lib.hid hx
      have HCall := Lib.hid hcall
      clear Hu hx hcall
      go_wp2_with fail
      refine HCall.out.mono ?_
      rintro e w2 ⟨rfl, hb2⟩
      have HB2 : Hid (Below w.heap.size w w2) := Lib.hid (HB.out.trans (hb2.mono HB.out.size))
      clear hb2 hA hc HCall
      cases hp : p x with
      | true =>
        have Hr : Hid (l.any p = true) := Lib.hid (any_yes (d := ByteArray.empty) hlt (by rw [← HX.out]; exact hp))
        clear hp
        go_wp2
        go_ret
        rw [Hr.out]
        exact ⟨_, rfl, by simp, HB2.out⟩
      | false =>
        have Hn : Hid (∀ j, j < k + 1 → p (l.getD j ByteArray.empty) = false) := Lib.hid fun j hj => by
          by_cases e : j = k
          · subst e; rw [← HX.out]; exact hp
          · exact Hall.out j (by omega)
        clear hp
        go_wp2
        go_roundw
        case rel => exact ⟨k + 1, by omega, by go_num, Hn.out, HB2.out⟩
        case measure => simp [intOf]; omega
    · obtain rfl : k = l.length := by omega
      have Hr : Hid (l.any p = false) := Lib.hid (any_no (d := ByteArray.empty) Hall.out)
      go_wp2
      go_ret
      rw [Hr.out]
      exact ⟨-1, rfl, by simp, HB.out⟩
theorem containsS_any (K : Nat) (hK : ∀ (args : Array Value) (w : World), (callFunc K args).run Tryd.prog w = .ok (Next.enter K args) w) (cap : Array Value) (p : ByteArray → Bool) (v : Value) (l : List ByteArray) (w : World) (hv : Sl w 1 v l.length (strs l)) (hl : l.length ≤ 1099511627776)
    (hf : ∀ s ∈ l, ∀ w', Below w.heap.size w w' → Calls Tryd.prog K (#[.string s] ++ cap) w' (RetBl w' (p s))) :
    Calls Tryd.prog 33 #[v, .func (.func K) #[] cap] w (RetBl w (l.any p)) := by
  have HI := Lib.hid (indexS_any K hK cap p v l w hv hl hf)
  clear hv hf
  go_enter Tryd.func33, Tryd.ntmps33
  go_wp2_with fail
  refine HI.out.mono ?_
  rintro e w2 ⟨z, rfl, hz, hb⟩
  have Hz := Lib.hid hz
  have HB := Lib.hid hb
  clear hz hb
  go_wp2
  go_ret
  rw [← Hz.out]
  exact ⟨rfl, HB.out⟩
set_option maxHeartbeats 800000 in
theorem indexA_any (K : Nat) (hK : ∀ (args : Array Value) (w : World), (callFunc K args).run Tryd.prog w = .ok (Next.enter K args) w) (cap : Array Value) (p : At → Bool) (dv av : Value) (en : Ent) (w : World) (hv : EntAt w dv av en) (hl : en.ats.length ≤ 1099511627776)
    (hf : ∀ a ∈ en.ats, ∀ ao n c w', Below w.heap.size w w' → Calls Tryd.prog K (#[.agg #[.string a.typ, .slice ao n c]] ++ cap) w' (RetBl w' (p a))) :
    Calls Tryd.prog 36 #[av, .func (.func K) #[] cap] w (RetIdx w (en.ats.any p)) := by
  have hlen := hv.len
  have HV := Lib.hid hv
  have HFn := Lib.hid hf
  clear hv hf
  go_enter Tryd.func36, Tryd.ntmps36
  go_wp2
  go_loopw [8] (fun i wr => IxRel w en.ats p default i wr) (fun i _ => en.ats.length - (intOf i).toNat)
  case atStart => exact ⟨0, Nat.zero_le _, rfl, (fun j hj => by omega), Below.refl _ _⟩
  case round =>
    obtain ⟨k, hk, rfl, hall, hb⟩ := hrel
    have Hall := Lib.hid hall
    have HB := Lib.hid hb
    clear hall hb
    by_cases hlt : k < en.ats.length
    · obtain ⟨A, u, hA, hc0, hc1, hsl⟩ := (HV.out.below HB.out).at k hlt
      obtain ⟨ao, n, cp, rfl⟩ : ∃ ao n cp, u = .slice ao n cp := by
        obtain ⟨_, ao, cap, e, _⟩ := hsl
        exact ⟨ao, _, cap, e⟩
      have hcall := HFn.out (en.ats.getD k default) (getA_mem hlt) ao n cp wr HB.out
      obtain ⟨x, hx⟩ : ∃ x, x = en.ats.getD k default := ⟨_, rfl⟩
      rw [← hx] at hc0 hcall
      have HX := Lib.hid hx
      have HCall := Lib.hid hcall
      clear hx hcall hsl
      go_wp2_with fail
      refine HCall.out.mono ?_
      rintro e w2 ⟨rfl, hb2⟩
      have HB2 : Hid (Below w.heap.size w w2) := Lib.hid (HB.out.trans (hb2.mono HB.out.size))
      clear hb2 hA hc0 hc1 HCall
      cases hp : p x with
      | true =>
        have Hr : Hid (en.ats.any p = true) := Lib.hid (any_yes (d := default) hlt (by rw [← HX.out]; exact hp))
        clear hp
        go_wp2
        go_ret
        rw [Hr.out]
        exact ⟨_, rfl, by simp, HB2.out⟩
      | false =>
        have Hn : Hid (∀ j, j < k + 1 → p (en.ats.getD j default) = false) := Lib.hid fun j hj => by
          by_cases e : j = k
          · subst e; rw [← HX.out]; exact hp
          · exact Hall.out j (by omega)
        clear hp
        go_wp2
        go_roundw
        case rel => exact ⟨k + 1, by omega, by go_num, Hn.out, HB2.out⟩
        case measure => simp [intOf]; omega
    · obtain rfl : k = en.ats.length := by omega
      have Hr : Hid (en.ats.any p = false) := Lib.hid (any_no (d := default) Hall.out)
      go_wp2
      go_ret
      rw [Hr.out]
      exact ⟨-1, rfl, by simp, HB.out⟩
theorem containsA_any (K : Nat) (hK : ∀ (args : Array Value) (w : World), (callFunc K args).run Tryd.prog w = .ok (Next.enter K args) w) (cap : Array Value) (p : At → Bool) (dv av : Value) (en : Ent) (w : World) (hv : EntAt w dv av en) (hl : en.ats.length ≤ 1099511627776)
    (hf : ∀ a ∈ en.ats, ∀ ao n c w', Below w.heap.size w w' → Calls Tryd.prog K (#[.agg #[.string a.typ, .slice ao n c]] ++ cap) w' (RetBl w' (p a))) :
    Calls Tryd.prog 23 #[av, .func (.func K) #[] cap] w (RetBl w (en.ats.any p)) := by
  have HI := Lib.hid (indexA_any K hK cap p dv av en w hv hl hf)
  clear hv hf
  go_enter Tryd.func23, Tryd.ntmps23
  go_wp2_with fail
  refine HI.out.mono ?_
  rintro e w2 ⟨z, rfl, hz, hb⟩
  have Hz := Lib.hid hz
  have HB := Lib.hid hb
  clear hz hb
  go_wp2
  go_ret
  rw [← Hz.out]
  exact ⟨rfl, HB.out⟩
end Go.Proofs.YtindlfiifckdnaaDoor.Sc
