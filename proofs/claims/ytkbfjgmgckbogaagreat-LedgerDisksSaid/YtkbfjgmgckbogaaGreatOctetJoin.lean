/-
  octet.Join: all rows, one behind the other, as new memory.
-/
import Derived.Test.YtkbfjgmgckbogaaGreatShelf
import Derived.Test.YtkbfjgmgckbogaaGreatF5
import Derived.Test.YtkbfjgmgckbogaaGreatF3
namespace Go.Proofs.YtkbfjgmgckbogaaGreat.Oct
open Go.RowKit L
/-- new bytes, owned; or none at all -/
def OwnB (w : World) (B : Nat) (v : Value) (l : List UInt8) : Prop := Own w B 5 1 v l.length (u8s l) ∨ (l = [] ∧ ∃ a, v = .slice (some a) 0 0)
theorem OwnB.sl {w : World} {B : Nat} {v : Value} {l : List UInt8} (h : OwnB w B v l) : Sl w 1 v l.length (u8s l) := by
  rcases h with h | ⟨rfl, a, rfl⟩
  · exact h.sl
  · exact ⟨by simp [u8s], some a, 0, rfl, Nat.le_refl _, Nat.zero_le _, (fun h => by cases h), (fun a' _ j hj => by simp at hj)⟩
theorem OwnB.own {w : World} {B : Nat} {v : Value} {l : List UInt8} (h : OwnB w B v l) (hl : 0 < l.length) : Own w B 5 1 v l.length (u8s l) := by
  rcases h with h | ⟨rfl, _⟩
  · exact h
  · simp at hl
theorem OwnB.own' {w : World} {B B' : Nat} {v : Value} {l : List UInt8} (h : OwnB w B v l) (hl : 0 < l.length) (hB : B' ≤ B) : Own w B' 5 1 v l.length (u8s l) :=
  (h.own hl).from fun k hk => Nat.le_trans hB ((h.own hl).lt k hk).1
theorem OwnB.below {w w' : World} {B : Nat} {v : Value} {l : List UInt8} (h : OwnB w B v l) (hb : Below w.heap.size w w') : OwnB w' B v l := by
  rcases h with h | h
  · exact .inl (h.below hb)
  · exact .inr h
theorem ownB_of_fresh {B : Nat} {w : World} {v : Value} {l : List UInt8} (h : Lib.FreshBytes B w v l) : OwnB w B v l := by
  obtain ⟨g, cap, zs, rfl, hB, hl, hm, hz, hr, hb, hc, hf⟩ := h
  by_cases h0 : cap = 0
  · subst h0
    have : l = [] := List.eq_nil_of_length_eq_zero (by omega)
    subst this
    exact .inr ⟨rfl, _, rfl⟩
  · refine .inl ⟨by simp [u8s], .inr ⟨g, cap, ?_⟩⟩
    have h1 := hc 0 (by omega)
    unfold World.cell? at h1
    cases ho : w.heap[g]? with
    | none => simp [ho] at h1
    | some o =>
      cases o with
      | cells cur t fz =>
        have hcell : ∀ i, i < cap → cur[i]? = some (.int .u8 (zs.getD i 0)) := by
          intro i hi
          have := hc i hi
          simpa [World.cell?, ho] using this
        have hsz : cap ≤ cur.size := by
          have := hcell (cap - 1) (by omega)
          have := (Array.getElem?_eq_some_iff.1 this).1
          omega
        refine ⟨cur, rfl, hB, ⟨t, fz, ho, fun i hi => ?_⟩, hl, hm, by omega, ?_⟩
        · have := hf i (by omega)
          simpa [World.frozen?, ho] using this
        · have hlz : l.length = (zs.take l.length).length := by rw [List.length_take]; omega
          apply List.ext_getElem
          · simp [u8s]; omega
          · intro i h1 h2
            have hi : i < l.length := by simpa [u8s] using h2
            have hcu := hcell i (by omega)
            rw [List.getElem_take, Array.getElem_toList]
            have e1 : cur[i]'(by omega) = .int .u8 (zs.getD i 0) := by
              rw [Array.getElem?_eq_getElem (by omega)] at hcu
              exact Option.some.inj hcu
            rw [e1]
            have hzi : zs.getD i 0 = (zs.take l.length).getD i 0 := by
              simp [List.getD, hi]
            have hbi : l[i]'hi = ((zs.take l.length).map fun z => UInt8.ofNat z.toNat)[i]'(by rw [List.length_map, ← hlz]; exact hi) := by
              have : ∀ (a b : List UInt8) (e : a = b) (h : i < b.length) , b[i]'h = a[i]'(by rw [e]; exact h) := by intro a b e h; subst e; rfl
              exact this _ _ hb hi
            simp only [u8s, List.getElem_map, hbi]
            have hlt : i < zs.length := by omega
            have hrz := hr (zs[i]) (List.getElem_mem _)
            simp only [List.getElem_take, List.getD, List.getElem?_eq_getElem hlt, Option.getD_some]
            rw [UInt8.toNat_ofNat']
            congr 1
            omega
      | _ => simp [ho] at h1
theorem lens_flatten (ls : List (List UInt8)) : Lib.lens ls = ls.flatten.length := by
  simp [Lib.lens, List.length_flatten]
theorem join_flatten : ∀ (ls : List (List UInt8)), Lib.join ls [] = ls.flatten
  | [] => rfl
  | x :: r => by rw [Lib.join_cons]; simp [Lib.joinTail]
set_option maxHeartbeats 400000 in
theorem join_any {W0 w : World} {R : Asrt} (h : Hold W0 R w) (va : Value) (vs : List Value) (ls : List (List UInt8)) (ha : ReadsRows W0 R va vs (u8ss ls)) (hn : ls.length ≤ 140737488355328) (hlen : ls.flatten.length ≤ 140737488355328) :
    Calls Tryz.prog 11 #[va] w (RetV fun v' w' => OwnB w' w.heap.size v' ls.flatten ∧ Below w.heap.size w w') := by
  have hll : (u8ss ls).length = ls.length := by simp [u8ss]
  have hsl := ha.outer h
  rw [hll] at hsl
  have hin : ∀ k, k < ls.length → Sl w 1 (vs.getD k undef) (ls.getD k []).length (u8s (ls.getD k [])) := by
    intro k hk
    have := (ha.inner (i := k) (by rw [hll]; exact hk)).at h
    rwa [u8ss_get, u8s_length] at this
  clear ha
  obtain ⟨hvl, ao, cap, rfl, hnc, hcm, hnone, hcell⟩ := hsl
  have hj : Calls Tryz.prog 26 #[.slice ao ls.length cap, .slice none 0 0] w (RetV fun v' w' => OwnB w' w.heap.size v' ls.flatten ∧ Below w.heap.size w w') := by
    match hls : ls with
    | [] =>
      refine (Tryz.bytes_Join_none ao cap _ w).mono ?_
      rintro e w' ⟨rfl, rfl⟩
      exact ⟨_, rfl, .inl (Own.lit w [] 5 (Nat.zero_le _)), (Below.refl _ _).alloc (Nat.le_refl _) _⟩
    | [l0] =>
      have h0 := hin 0 (by simp)
      simp only [List.getD_cons_zero] at h0
      cases ao with
      | none => have := hnone rfl; simp at hnc; omega
      | some a =>
        obtain ⟨b, o, sp⟩ := a
        have hc0 := hcell _ rfl 0 (by simp)
        obtain ⟨hl0, ao0, cap0, hv0, hnc0, hcm0, hnone0, hcell0⟩ := h0
        have hsp : sp = none := by
          unfold World.cell? at hc0
          simp only [Addr.add] at hc0
          cases hh : w.heap[b]? with
          | none => simp [hh] at hc0
          | some ob => cases ob <;> simp [hh] at hc0; exact hc0.1
        subst hsp
        rw [hv0] at hc0
        by_cases hl : l0.length = 0
        · have hl0' : l0 = [] := List.eq_nil_of_length_eq_zero hl
          subst hl0'
          refine (Tryz.bytes_Join_one_empty b o cap ao0 cap0 _ w hc0).mono ?_
          rintro e w' ⟨rfl, rfl⟩
          exact ⟨_, rfl, .inl (Own.nil _ _ _ _), Below.refl _ _⟩
        · cases ao0 with
          | none => have := hnone0 rfl; omega
          | some ad0 =>
            refine (Tryz.bytes_Join_one b o cap ad0 cap0 l0 _ w hc0 (fun i x hx => ?_) (by omega) (by simpa using hlen)).mono ?_
            · have hi := (List.getElem?_eq_some_iff.1 hx).1
              rw [hcell0 ad0 rfl i (by omega), u8s_get _ _ hi]
              simp [List.getD, hx]
            · rintro e w' ⟨v', rfl, hf, hb⟩
              exact ⟨v', rfl, by simpa using ownB_of_fresh hf, hb⟩
    | l0 :: l1 :: r =>
      cases ao with
      | none => have := hnone rfl; simp at hnc; omega
      | some a =>
        obtain ⟨b, o, sp⟩ := a
        have hc0 := hcell _ rfl 0 (by simp)
        have hsp : sp = none := by
          unfold World.cell? at hc0
          simp only [Addr.add] at hc0
          cases hh : w.heap[b]? with
          | none => simp [hh] at hc0
          | some ob => cases ob <;> simp [hh] at hc0; exact hc0.1
        subst hsp
        rw [← hls] at hlen hn hin hvl hcell hnc ⊢
        refine (Tryz.bytes_Join_many b o ls.length cap vs ls (.slice none 0 0) [] w rfl (by rw [hls]; simp) ⟨by simpa using hvl, fun i v hv => ?_, fun i v l hv hl => ?_⟩ hnc ⟨none, 0, rfl, fun _ => rfl, (fun a h => by cases h)⟩ hn (by rw [lens_flatten]; simpa using hlen)).mono ?_
        · have hi := (List.getElem?_eq_some_iff.1 hv).1
          rw [hcell _ rfl i (by omega)]
          simp [List.getD, hv]
        · have hi := (List.getElem?_eq_some_iff.1 hl).1
          have := hin i hi
          simp only [List.getD, hv, hl, Option.getD_some] at this
          obtain ⟨hl0, ao0, cap0, hv0, hnc0, hcm0, hnone0, hcell0⟩ := this
          refine ⟨ao0, cap0, hv0, fun e => ?_, fun a ha j x hx => ?_⟩
          · have := hnone0 e
            exact List.eq_nil_of_length_eq_zero (by omega)
          · have hj := (List.getElem?_eq_some_iff.1 hx).1
            rw [hcell0 a ha j (by omega), u8s_get _ _ hj]
            simp [List.getD, hx]
        · rintro e w' ⟨v', rfl, hf, hb⟩
          rw [join_flatten] at hf
          exact ⟨v', rfl, ownB_of_fresh hf, hb⟩
  have HJ := Lib.hid hj
  clear hj hin hvl hcell hnone hcm hnc hll
  go_enter Tryz.func11, Tryz.ntmps11
  go_wp2_with (go_at_call 26; refine HJ.out.mono ?_; rintro e w' ⟨v', rfl, hown, hb⟩)
  have Ho := Lib.hid hown
  clear hown
  go_ret
  exact ⟨v', rfl, Ho.out, hb⟩
end Go.Proofs.YtkbfjgmgckbogaaGreat.Oct
