/-
  List of chapter 3: the files' names, sorted; and whether two lists of texts are alike.
-/
import Derived.Test.YtkbfjgmgckbogaaGreatF7
import Derived.Test.YtkbfjgmgckbogaaGreatIter
import Derived.Deep.QuietTactic
import Derived.BigQuiet
namespace Go.Proofs.YtkbfjgmgckbogaaGreat.Dsk
open Go.RowKit L Oct
/-- texts in Go's order -/
def sortN (l : List ByteArray) : List ByteArray := ((l.map fun s => s.data.toList).mergeSort fun x y => decide (x ≤ y)).map fun x => ⟨x.toArray⟩
theorem sortN_perm (l : List ByteArray) : (sortN l).Perm l := by
  unfold sortN
  have h := (List.mergeSort_perm (l.map fun s : ByteArray => s.data.toList) fun x y => decide (x ≤ y)).map fun x : List UInt8 => (⟨x.toArray⟩ : ByteArray)
  rw [List.map_map] at h
  have e : l.map ((fun x : List UInt8 => (⟨x.toArray⟩ : ByteArray)) ∘ fun s : ByteArray => s.data.toList) = l := by
    conv => rhs; rw [← List.map_id l]
    refine List.map_congr_left fun s _ => ?_
    simp
  rwa [e] at h
theorem sortN_of {ss : List (List UInt8)} {l : List ByteArray} (h : ss.Perm (l.map fun s => s.data.toList)) : (ss.mergeSort fun x y => decide (x ≤ y)).map Go.Proofs.encStr = strs (sortN l) := by
  rw [Go.mergeSort_of_perm h]
  unfold strs sortN
  rw [List.map_map]
  refine List.map_congr_left fun s _ => ?_
  simp [Go.Proofs.encStr]
def readL (_ : Value) : Option (DataW Unit × List MemPlace) := some (.nil, [])
def datL (m : List (ByteArray × Value)) : List (Lit × DataW Unit) := m.map fun p => (.string p.1.data.toList, .nil)
theorem ownsMap_of {w : World} {b : Nat} {m : List (ByteArray × Value)} (h : MapAt w b m) (hn : m.length ≤ 140737488355328) (hs : ∀ p ∈ m, p.1.size ≤ 140737488355328) :
    w.ownsMap Tryz.prog 9 readL b m.length (.map ((datL m).foldr DataW.insert [])) := by
  obtain ⟨es, clock, h1, h2, h3⟩ := h
  have key : ∀ x ∈ es.toList, ∃ p ∈ m, x.key = .string p.1 := by
    intro x hx
    obtain ⟨i, hi, rfl⟩ := List.getElem_of_mem hx
    obtain ⟨p, hp, hk, _⟩ := kvs_get (i := i) h3 (List.getElem?_eq_getElem hi)
    exact ⟨p, List.mem_of_getElem? hp, hk⟩
  have hrd : ∀ x p, x.key = Value.string p → p.size ≤ 140737488355328 → Go.WideElems.rd Tryz.prog 9 readL x = some (.string p.data.toList, .nil) := by
    intro x p hk hp
    unfold Go.WideElems.rd
    rw [hk, Go.WideMaps.keyOf_string_mk Tryz.underlying9 (by unfold maxLen; omega)]
    rfl
  refine ⟨es, clock, h1, ⟨by rw [kvs_length h3]; unfold maxLen; omega, h2, fun x hx => ?_⟩, by rw [kvs_length h3]; exact Nat.le_refl _, ?_⟩
  · obtain ⟨p, hp, hk⟩ := key x hx
    exact ⟨_, hrd x p.1 hk (hs p hp)⟩
  · congr 2
    unfold datL
    apply List.ext_getElem?
    intro i
    have hi := congrArg (fun l : List (Value × Value) => l[i]?) h3
    simp only [kvs, List.getElem?_map] at hi ⊢
    cases hm : m[i]? with
    | none =>
      rw [hm] at hi
      simp only [Option.map_none, Option.map_eq_none_iff] at hi
      rw [hi]; rfl
    | some p =>
      rw [hm] at hi
      simp only [Option.map_some, Option.map_eq_some_iff] at hi
      obtain ⟨x, hx, hkv⟩ := hi
      rw [hx]
      have hk : x.key = .string p.1 := by simpa [kv] using congrArg Prod.fst hkv
      simp only [Option.map_some, Option.some.injEq]
      rw [Go.WideElems.rg, hrd x p.1 hk (hs p (List.mem_of_getElem? hm))]
      rfl
theorem keysL (m : List (ByteArray × Value)) : (Go.strKeys (.map ((datL m).foldr DataW.insert []))).Perm ((m.map (·.1)).map fun s => s.data.toList) := by
  have h := (Go.WideShapes.sorted_perm (datL m)).map fun p : Lit × DataW Unit => Go.strOf p.1
  have e : (datL m).map (fun p => Go.strOf p.1) = (m.map (·.1)).map fun s => s.data.toList := by
    unfold datL
    rw [List.map_map, List.map_map]
    rfl
  rw [e] at h
  exact h
theorem sizeL (m : List (ByteArray × Value)) : Go.Maps.size (.map ((datL m).foldr DataW.insert [])) = m.length := by
  show ((datL m).foldr DataW.insert []).length = m.length
  rw [length_sorted]; simp [datL]
theorem keys_any (mb : Option Nat) (w : World) : Calls Tryz.prog 72 #[.map mb] w fun e w' => e = .returned (.func (.func 94) #[] #[.pointer (some ⟨w.heap.size, 0, none⟩)]) ∧ w' = w.alloc (.cells #[.map mb] 38) :=
  callsIn_wide.1 (Tryz.mapsKeys mb w)
def RetSorted (w : World) (l : List ByteArray) (e : Ending) (w' : World) : Prop := ∃ v, e = .returned v ∧ Own w' w.heap.size 9 1 v l.length (strs (sortN l)) ∧ Below w.heap.size w w'
theorem sorted_any {w : World} {mb : Nat} {m : List (ByteArray × Value)} (h : MapAt w mb m) (hn : m.length ≤ 4096) (hs : ∀ p ∈ m, p.1.size ≤ 140737488355328) :
    Calls Tryz.prog 71 #[.func (.func 94) #[] #[.pointer (some ⟨w.heap.size, 0, none⟩)]] (w.alloc (.cells #[.map (some mb)] 38)) (RetSorted (w.alloc (.cells #[.map (some mb)] 38)) (m.map (·.1))) := by
  refine (callsIn_wide.1 (Tryz.sortedKeys (H := Unit) mb m.length (.map ((datL m).foldr DataW.insert [])) readL w (ownsMap_of h (by omega) hs) (by rw [sizeL]; unfold maxLen; omega) (by rw [sizeL]; omega))).mono ?_
  rintro e w' ⟨v, ss, rfl, hp, hown, _, hb⟩
  have hp2 := hp.trans (keysL m)
  refine ⟨v, rfl, ?_, hb⟩
  have hlen : ss.length = (m.map (·.1)).length := by rw [hp2.length_eq, List.length_map]
  rw [sortN_of hp2, hlen] at hown
  exact Own.of hown
def RetList (W0 : World) (R : Asrt) (b : Nat) (d : D) (e : Ending) (w' : World) : Prop :=
  ∃ v, e = .returned v ∧ Hold W0 ((Row 9 1 v d.fs.length (strs (sortN (d.fs.map AF.name)))).sep ((DiskA b d).sep R)) w'
set_option maxHeartbeats 800000 in
theorem list_any {W0 w : World} {R : Asrt} {b : Nat} {d : D} (H : Hold W0 ((DiskA b d).sep R) w) (hn : d.fs.length ≤ 4096) (hs : ∀ f ∈ d.fs, f.name.size ≤ 140737488355328) :
    Calls Tryz.prog 37 #[ptr b] w (RetList W0 R b d) := by
  obtain ⟨mb, l, hl, H1⟩ := disk_open H
  have k1 := blk_cell H1.blk 1
  have hm := disk_mapAt H1
  have hso := sorted_any hm (by rw [ents, List.length_map, ← List.length_map Fl.f, hl]; exact hn) (fun p hp => by
    obtain ⟨x, hx, rfl⟩ := ents_mem hp
    exact hs x.f (by rw [← hl]; exact List.mem_map.2 ⟨x, hx, rfl⟩))
  have hen : (ents l).map (·.1) = d.fs.map AF.name := by rw [← hl, ents_names, List.map_map]; rfl
  rw [hen] at hso
  have HS := Lib.hid hso
  have HA : Hid (Hold W0 ((DiskA b d).sep R) (w.alloc (.cells #[.map (some mb)] 38))) := Lib.hid (H.keeps ((Below.refl _ _).alloc (Nat.le_refl _) _))
  clear H H1 hm hso hen hl hn hs
  show Calls Tryz.prog 37 #[.pointer (some ⟨b, 0, none⟩)] w _
  go_enter Tryz.func37, Tryz.ntmps37
  go_wp2_with (first
    | (go_at_call 72; refine (keys_any _ _).mono ?_; rintro e w2 ⟨rfl, rfl⟩)
    | (go_at_call 71; refine HS.out.mono ?_; rintro e w3 ⟨v, rfl, ho, hb⟩; have H3 := Lib.hid (HA.out.addRow hb ho); clear ho hb))
  go_ret
  refine ⟨v, rfl, ?_⟩
  have := H3.out
  rwa [List.length_map] at this
end Go.Proofs.YtkbfjgmgckbogaaGreat.Dsk
