/-
  Sync and Remove of chapter 3.
-/
import Derived.Test.YtnaggipeliifgaaDiskEachWalk
namespace Go.Proofs.Ytnaggipeliifgaa.Dsk
open Go.RowKit L Oct
set_option maxHeartbeats 800000 in
theorem sync_any {W0 w : World} {R : Asrt} {b : Nat} {d : D} (H : Hold W0 ((DiskA b d).sep R) w) (hd : d.left ≤ 9223372036854775807) (v : Value) (names : List ByteArray) (hv : Reads W0 R 1 v names.length (strs names)) :
    Calls Try.prog 13 #[ptr b, v] w (RetApp W0 R b (d.sync names)) := by
  have he := each_sync H hd v names hv
  show Calls Try.prog 13 #[.pointer (some ⟨b, 0, none⟩), v] w _
  go_enter Try.func13, Try.ntmps13
  go_wp2_with (go_at_call 33; refine he.mono ?_; rintro e w2 ⟨rfl, h2⟩; have H2 := Lib.hid h2; clear h2)
  go_ret
  exact ⟨rfl, H2.out⟩
set_option maxHeartbeats 800000 in
theorem remove_any {W0 w : World} {R : Asrt} {b : Nat} {d : D} (H : Hold W0 ((DiskA b d).sep R) w) (hd : d.left ≤ 9223372036854775807) (v : Value) (names : List ByteArray) (hv : Reads W0 R 1 v names.length (strs names)) :
    Calls Try.prog 19 #[ptr b, v] w (RetApp W0 R b (d.remove names)) := by
  have H1 := (H.addBlk (cs := #[ptr b]) (t := 25) (b := w.heap.size) rfl).up2
  have c0 : (w.alloc (.cells #[.pointer (some ⟨b, 0, none⟩)] 25)).cell? ⟨w.heap.size, 0, none⟩ = some (.pointer (some ⟨b, 0, none⟩)) := blk_cell H1.up2.blk 0
  have he := each_remove H1 hd v names hv
  have hmf : ∀ (fn : Fn) (first cap : Array Value) (w : World), (Instr.makeFunc fn first cap).run Try.prog w = .ok (.func fn first cap) w := fun _ _ _ _ => rfl
  show Calls Try.prog 19 #[.pointer (some ⟨b, 0, none⟩), v] w _
  go_enter Try.func19, Try.ntmps19
  go_wp2_with (go_at_call 33; refine he.mono ?_; rintro e w2 ⟨rfl, h2⟩; have H2 := Lib.hid h2.up2.drop1; clear h2)
  go_ret
  exact ⟨rfl, H2.out⟩
end Go.Proofs.Ytnaggipeliifgaa.Dsk
