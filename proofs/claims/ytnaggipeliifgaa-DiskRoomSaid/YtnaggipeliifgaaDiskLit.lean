/-
  Append and Sync of chapter 3 with one argument behind the name.
-/
import Derived.Test.YtnaggipeliifgaaDiskSync
namespace Go.Proofs.Ytnaggipeliifgaa.Dsk
open Go.RowKit L Oct
theorem append_lit {W0 w : World} {R : Asrt} {b bk : Nat} {d : D} (H : Hold W0 ((DiskA b d).sep R) w) (hbk : w.heap.size = bk) (hok : d.Ok) (s : ByteArray) (vr : Value) (l : List UInt8) (hr : Reads W0 R 1 vr l.length (u8s l)) (hlen : l.length ≤ 1073741824) :
    Calls Try.prog 12 #[ptr b, .string s, .slice (some ⟨bk, 0, none⟩) 1 1] (w.alloc (.cells #[vr] 23)) (RetApp W0 R b (d.append s l)) := by
  subst hbk
  have H1 := (H.addLit vr 23).up2
  have e : [l].flatten = l := by simp
  have := append_any H1 hok s (.slice (some ⟨w.heap.size, 0, none⟩) 1 1) [vr] [l] (fun w' hw' => ⟨hw'.sl, fun i hi => by
    have h0 : i = 0 := by simp [u8ss] at hi; exact hi
    subst h0
    have := hr w' hw'.drop1
    simpa [u8ss, u8s] using this⟩) (by simp) (by rw [e]; exact hlen)
  rw [e] at this
  refine this.mono ?_
  rintro e' w' ⟨h1, h2⟩
  exact ⟨h1, h2.up2.drop1⟩
theorem sync_lit {W0 w : World} {R : Asrt} {b bk : Nat} {d : D} (H : Hold W0 ((DiskA b d).sep R) w) (hbk : w.heap.size = bk) (hd : d.left ≤ 9223372036854775807) (s : ByteArray) :
    Calls Try.prog 13 #[ptr b, .slice (some ⟨bk, 0, none⟩) 1 1] (w.alloc (.cells #[.string s] 9)) (RetApp W0 R b (d.sync [s])) := by
  subst hbk
  have H1 := (H.addLit (.string s) 9).up2
  refine (sync_any H1 hd (.slice (some ⟨w.heap.size, 0, none⟩) 1 1) [s] (fun w' hw' => hw'.sl)).mono ?_
  rintro e' w' ⟨h1, h2⟩
  exact ⟨h1, h2.up2.drop1⟩
theorem remove_lit {W0 w : World} {R : Asrt} {b bk : Nat} {d : D} (H : Hold W0 ((DiskA b d).sep R) w) (hbk : w.heap.size = bk) (hd : d.left ≤ 9223372036854775807) (s : ByteArray) :
    Calls Try.prog 19 #[ptr b, .slice (some ⟨bk, 0, none⟩) 1 1] (w.alloc (.cells #[.string s] 9)) (RetApp W0 R b (d.remove [s])) := by
  subst hbk
  have H1 := (H.addLit (.string s) 9).up2
  refine (remove_any H1 hd (.slice (some ⟨w.heap.size, 0, none⟩) 1 1) [s] (fun w' hw' => hw'.sl)).mono ?_
  rintro e' w' ⟨h1, h2⟩
  exact ⟨h1, h2.up2.drop1⟩
end Go.Proofs.Ytnaggipeliifgaa.Dsk
