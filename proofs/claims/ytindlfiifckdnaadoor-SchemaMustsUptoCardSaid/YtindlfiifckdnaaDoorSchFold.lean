/-
  Fold of chapter 13: letters small, rows of blanks one, none at the ends. Plain, and walked: the program's and the reference's.
-/
import Derived.Test.YtindlfiifckdnaaDoorGrow
import Derived.Test.YtindlfiifckdnaaDoorFetch
import Derived.Test.YtindlfiifckdnaaDoorMask
import Derived.Test.YtindlfiifckdnaaDoorAssoc
import Derived.Test.YtindlfiifckdnaaDoorFacts
namespace Go.Proofs.YtindlfiifckdnaaDoor.Sc
open Go.RowKit L
theorem u8s_append (a b : List UInt8) : u8s (a ++ b) = u8s a ++ u8s b := by simp [u8s]
theorem u8s_length (l : List UInt8) : (u8s l).length = l.length := by simp [u8s]
theorem u8s_take (l : List UInt8) (n : Nat) : (u8s l).take n = u8s (l.take n) := by simp [u8s]
theorem el8 : ElemOk Tryd.prog 54 5 1 1 := elemOk Tryd.underlying54 Tryd.info5 rfl (by decide)
def low (c : UInt8) : UInt8 := if 65 ≤ c.toNat ∧ c.toNat ≤ 90 then UInt8.ofNat (c.toNat + 32) else c
def endB (b : List UInt8) : Bool := b.isEmpty || decide (b.getD (b.length - 1) 0 = 32)
def fstep (b : List UInt8) (c : UInt8) : List UInt8 := if c.toNat = 32 ∧ endB b = true then b else b ++ [low c]
def ftrim (b : List UInt8) : List UInt8 := if b.isEmpty = false ∧ endB b = true then b.take (b.length - 1) else b
def foldT (s : ByteArray) (k : Nat) : List UInt8 := (s.data.toList.take k).foldl fstep []
def foldB (s : ByteArray) : ByteArray := ⟨(ftrim (foldT s s.size)).toArray⟩
theorem foldT_zero (s : ByteArray) : foldT s 0 = [] := rfl
theorem foldT_succ {s : ByteArray} {k : Nat} (h : k < s.size) : foldT s (k + 1) = fstep (foldT s k) s[k] := by
  unfold foldT
  rw [take_snoc s k h, List.foldl_append]; rfl
theorem fstep_len (b : List UInt8) (c : UInt8) : (fstep b c).length ≤ b.length + 1 := by
  unfold fstep
  split <;> simp
theorem foldT_len (s : ByteArray) : ∀ k, k ≤ s.size → (foldT s k).length ≤ k
  | 0, _ => by rw [foldT_zero]; simp
  | k + 1, h => by
    have := foldT_len s k (by omega)
    have h2 := fstep_len (foldT s k) s[k]
    rw [foldT_succ (by omega)]; omega
theorem fold_size (s : ByteArray) : (foldB s).size ≤ s.size := by
  have := foldT_len s s.size (Nat.le_refl _)
  show (ftrim (foldT s s.size)).toArray.size ≤ _
  rw [List.size_toArray]
  unfold ftrim
  split
  · rw [List.length_take]; omega
  · exact this
theorem low_toNat (c : UInt8) : (low c).toNat = if 65 ≤ c.toNat ∧ c.toNat ≤ 90 then c.toNat + 32 else c.toNat := by
  unfold low
  split
  · rw [UInt8.toNat_ofNat']; omega
  · rfl
def FRel (w : World) (s : ByteArray) (b i : Value) (wr : World) : Prop := ∃ k : Nat, k ≤ s.size ∧ i = .int .i64 k ∧ Hold w ((Row 5 1 b (foldT s k).length (u8s (foldT s k))).sep Asrt.emp) wr
/-- the ways of a step -/
theorem fstep_way (b : List UInt8) (c : UInt8) :
    (c.toNat = 32 ∧ b = [] ∧ fstep b c = b) ∨ (c.toNat = 32 ∧ 0 < b.length ∧ (b.getD (b.length - 1) 0).toNat = 32 ∧ fstep b c = b) ∨
    (c.toNat = 32 ∧ 0 < b.length ∧ (b.getD (b.length - 1) 0).toNat ≠ 32 ∧ u8s (fstep b c) = u8s b ++ [.int .u8 (c.toNat : Int)] ∧ (fstep b c).length = b.length + 1) ∨
    (c.toNat ≠ 32 ∧ 65 ≤ c.toNat ∧ c.toNat ≤ 90 ∧ u8s (fstep b c) = u8s b ++ [.int .u8 ((c.toNat : Int) + 32)] ∧ (fstep b c).length = b.length + 1) ∨
    (c.toNat ≠ 32 ∧ ¬ (65 ≤ c.toNat ∧ c.toNat ≤ 90) ∧ u8s (fstep b c) = u8s b ++ [.int .u8 (c.toNat : Int)] ∧ (fstep b c).length = b.length + 1) := by
  have hl := low_toNat c
  by_cases h32 : c.toNat = 32
  · rw [if_neg (by omega)] at hl
    by_cases hb : b = []
    · exact .inl ⟨h32, hb, by unfold fstep; rw [if_pos ⟨h32, by rw [hb]; rfl⟩]⟩
    · have hpos : 0 < b.length := List.length_pos_iff.2 hb
      have he : b.isEmpty = false := by cases b with | nil => exact absurd rfl hb | cons x r => rfl
      by_cases hz : (b.getD (b.length - 1) 0).toNat = 32
      · refine .inr (.inl ⟨h32, hpos, hz, ?_⟩)
        unfold fstep
        rw [if_pos ⟨h32, by unfold endB; rw [he, show b.getD (b.length - 1) 0 = 32 from UInt8.toNat_inj.1 hz]; rfl⟩]
      · refine .inr (.inr (.inl ⟨h32, hpos, hz, ?_, ?_⟩))
        · unfold fstep
          rw [if_neg (fun h => hz (by
            have h2 := h.2
            unfold endB at h2
            rw [he, Bool.false_or] at h2
            rw [of_decide_eq_true h2]; rfl)), u8s_append]
          simp [u8s, hl]
        · unfold fstep
          rw [if_neg (fun h => hz (by
            have h2 := h.2
            unfold endB at h2
            rw [he, Bool.false_or] at h2
            rw [of_decide_eq_true h2]; rfl))]
          simp
  · have hst : fstep b c = b ++ [low c] := by unfold fstep; rw [if_neg (fun h => h32 h.1)]
    rw [hst, u8s_append]
    by_cases hA : 65 ≤ c.toNat ∧ c.toNat ≤ 90
    · rw [if_pos hA] at hl
      exact .inr (.inr (.inr (.inl ⟨h32, hA.1, hA.2, by simp [u8s, hl], by simp⟩)))
    · rw [if_neg hA] at hl
      exact .inr (.inr (.inr (.inr ⟨h32, hA, by simp [u8s, hl], by simp⟩)))
/-- the ways of the end -/
theorem ftrim_way (b : List UInt8) : (b = [] ∧ ftrim b = b) ∨ (0 < b.length ∧ (b.getD (b.length - 1) 0).toNat = 32 ∧ ftrim b = b.take (b.length - 1)) ∨ (0 < b.length ∧ (b.getD (b.length - 1) 0).toNat ≠ 32 ∧ ftrim b = b) := by
  by_cases hb : b = []
  · exact .inl ⟨hb, by rw [hb]; rfl⟩
  · have hpos : 0 < b.length := List.length_pos_iff.2 hb
    have he : b.isEmpty = false := by cases b with | nil => exact absurd rfl hb | cons x r => rfl
    by_cases hz : (b.getD (b.length - 1) 0).toNat = 32
    · refine .inr (.inl ⟨hpos, hz, ?_⟩)
      unfold ftrim
      rw [if_pos ⟨he, by unfold endB; rw [he, show b.getD (b.length - 1) 0 = 32 from UInt8.toNat_inj.1 hz]; rfl⟩]
    · refine .inr (.inr ⟨hpos, hz, ?_⟩)
      unfold ftrim
      rw [if_neg (fun h => hz (by
        have h2 := h.2
        unfold endB at h2
        rw [he, Bool.false_or] at h2
        rw [of_decide_eq_true h2]; rfl))]
theorem u8s_last {b : List UInt8} (h : 0 < b.length) : (u8s b).getD (b.length - 1) undef = .int .u8 ((b.getD (b.length - 1) 0).toNat : Int) := by
  unfold u8s
  simp [List.getD, show b.length - 1 < b.length from by omega]
def RetS (w : World) (s : ByteArray) (e : Ending) (w' : World) : Prop := e = .returned (.string s) ∧ Below w.heap.size w w'
set_option maxRecDepth 100000 in
set_option maxHeartbeats 1600000 in
theorem fold_any (s : ByteArray) (w : World) (hs : s.size ≤ 140737488351232) : Calls Tryd.prog 25 #[.string s] w (RetS w (foldB s)) := by
  go_enter Tryd.func25, Tryd.ntmps25
  go_wp2
  go_loopw [3, 9] (fun b i wr => FRel w s b i wr) (fun _ i _ => s.size - (intOf i).toNat)
  case atStart => exact ⟨0, Nat.zero_le _, rfl, (Hold.start w).addNil 5 1⟩
  case round =>
    obtain ⟨k, hk, rfl, hH⟩ := hrel
    have hBl := foldT_len s k hk
    obtain ⟨B, hB⟩ : ∃ B, B = foldT s k := ⟨_, rfl⟩
    rw [← hB] at hH hBl
    have hlen := hH.sl.run_len Tryd.underlying54
    by_cases hlt : k < s.size
    · have hsc := foldT_succ hlt
      rw [← hB] at hsc
      have HSc := Lib.hid hsc
      have hway := fstep_way B s[k]
      have hc255 := s[k].toNat_lt
      clear hsc hB
      rcases hway with ⟨h1, h2, h3⟩ | ⟨h1, h2, h3, h4⟩ | ⟨h1, h2, h3, h4, h5⟩ | ⟨h1, h2, h3, h4, h5⟩ | ⟨h1, h2, h4, h5⟩
      · subst h2
        have HF : Hid (Hold w ((Row 5 1 u3 (foldT s (k + 1)).length (u8s (foldT s (k + 1)))).sep Asrt.emp) wr) := Lib.hid (by rw [HSc.out, h3]; exact hH)
        have g1 : ((s[k].toNat : Int) == 32) = true := by simp; omega
        have h65 : s[k].toNat < 65 := by omega
        clear h3 h1
        go_wp2
        go_roundw
        case rel => exact ⟨k + 1, by omega, by go_num, HF.out⟩
        case measure => simp [intOf]; omega
      · have HF : Hid (Hold w ((Row 5 1 u3 (foldT s (k + 1)).length (u8s (foldT s (k + 1)))).sep Asrt.emp) wr) := Lib.hid (by rw [HSc.out, h4]; exact hH)
        obtain ⟨A, u, hA, _, hc, Hu⟩ := hH.sl.at1 (P := Tryd.prog) Tryd.underlying54 Tryd.size5 (B.length - 1) (by omega)
        rw [Hu.out, u8s_last h2] at hc
        obtain ⟨z, hz⟩ : ∃ z : UInt8, z = B.getD (B.length - 1) 0 := ⟨_, rfl⟩
        rw [← hz] at hc h3
        have gL : ((B.length : Int) == 0) = false := by rw [beq_eq_false_iff_ne]; omega
        have hz255 := z.toNat_lt
        clear hz
        rw [show ((B.length - 1 : Nat) : Int) = (B.length : Int) - 1 from by omega] at hA
        have a0 : IntKind.i64.wrap ((B.length : Int) - 1) = (B.length : Int) - 1 := IntWalk.i64_in _ (by omega)
        have g1 : ((s[k].toNat : Int) == 32) = true := by simp; omega
        have g2 : ((z.toNat : Int) == 32) = true := by rw [beq_iff_eq]; omega
        have h65 : s[k].toNat < 65 := by omega
        clear h4 h1 h3 Hu
        go_wp2
        go_roundw
        case rel => exact ⟨k + 1, by omega, by go_num, HF.out⟩
        case measure => simp [intOf]; omega
      · obtain ⟨A, u, hA, _, hc, Hu⟩ := hH.sl.at1 (P := Tryd.prog) Tryd.underlying54 Tryd.size5 (B.length - 1) (by omega)
        rw [Hu.out, u8s_last h2] at hc
        obtain ⟨z, hz⟩ : ∃ z : UInt8, z = B.getD (B.length - 1) 0 := ⟨_, rfl⟩
        rw [← hz] at hc h3
        have gL : ((B.length : Int) == 0) = false := by rw [beq_eq_false_iff_ne]; omega
        have hz255 := z.toNat_lt
        clear hz
        rw [show ((B.length - 1 : Nat) : Int) = (B.length : Int) - 1 from by omega] at hA
        have a0 : IntKind.i64.wrap ((B.length : Int) - 1) = (B.length : Int) - 1 := IntWalk.i64_in _ (by omega)
        have g1 : ((s[k].toNat : Int) == 32) = true := by simp; omega
        have g2 : ((z.toNat : Int) == 32) = false := by rw [beq_eq_false_iff_ne]; omega
        have h65 : s[k].toNat < 65 := by omega
        have H4 := Lib.hid h4
        have H5 := Lib.hid h5
        clear h4 h5 h3 Hu h1
        go_wp2_with (at_builtin; refine wpList_appLit (sx := .tmp 41) el8 hH [.int .u8 (s[k].toNat : Int)] rfl _ rfl rfl rfl rfl (by simp [Value.oneCell']) (by simp; omega) (by simp; omega) ?_; intro v9 xs9 w9 X9 H9)
        have HF : Hid (Hold w ((Row 5 1 v9 (foldT s (k + 1)).length (u8s (foldT s (k + 1)))).sep Asrt.emp) w9) := Lib.hid (by rw [X9.out, ← H4.out] at H9; rw [HSc.out, H5.out]; exact H9)
        clear H9 X9
        go_roundw
        case rel => exact ⟨k + 1, by omega, by go_num, HF.out⟩
        case measure => simp [intOf]; omega
      · have g1 : ((s[k].toNat : Int) == 32) = false := by simp; omega
        have a8 : IntKind.u8.wrap ((s[k].toNat : Int) + 32) = (s[k].toNat : Int) + 32 := IntWalk.u8_in _ (by omega)
        have H4 := Lib.hid h4
        have H5 := Lib.hid h5
        clear h4 h5
        go_wp2_with (at_builtin; refine wpList_appLit (sx := .tmp 41) el8 hH [.int .u8 ((s[k].toNat : Int) + 32)] rfl _ rfl rfl rfl rfl (by simp [Value.oneCell']) (by simp; omega) (by simp; omega) ?_; intro v9 xs9 w9 X9 H9)
        have HF : Hid (Hold w ((Row 5 1 v9 (foldT s (k + 1)).length (u8s (foldT s (k + 1)))).sep Asrt.emp) w9) := Lib.hid (by rw [X9.out, ← H4.out] at H9; rw [HSc.out, H5.out]; exact H9)
        clear H9 X9
        go_roundw
        case rel => exact ⟨k + 1, by omega, by go_num, HF.out⟩
        case measure => simp [intOf]; omega
      · have g1 : ((s[k].toNat : Int) == 32) = false := by simp; omega
        have H4 := Lib.hid h4
        have H5 := Lib.hid h5
        have hcase : s[k].toNat < 65 ∨ (65 ≤ s[k].toNat ∧ 90 < s[k].toNat) := by omega
        clear h4 h5 h2
        rcases hcase with h2 | ⟨h2, h3⟩
        all_goals
          go_wp2_with (at_builtin; refine wpList_appLit (sx := .tmp 41) el8 hH [.int .u8 (s[k].toNat : Int)] rfl _ rfl rfl rfl rfl (by simp [Value.oneCell']) (by simp; omega) (by simp; omega) ?_; intro v9 xs9 w9 X9 H9)
          have HF : Hid (Hold w ((Row 5 1 v9 (foldT s (k + 1)).length (u8s (foldT s (k + 1)))).sep Asrt.emp) w9) := Lib.hid (by rw [X9.out, ← H4.out] at H9; rw [HSc.out, H5.out]; exact H9)
          clear H9 X9
          go_roundw
          case rel => exact ⟨k + 1, by omega, by go_num, HF.out⟩
          case measure => simp [intOf]; omega
    · obtain rfl : k = s.size := by omega
      have HFo : Hid (foldB s = ⟨(ftrim B).toArray⟩) := Lib.hid (by rw [hB]; rfl)
      have hold := Lib.hid hH.old
      clear hB
      rcases ftrim_way B with ⟨h1, h2⟩ | ⟨h1, h2, h3⟩ | ⟨h1, h2, h3⟩
      · have cv := hH.sl.run_string (src := 54) (dst := 9) Tryd.underlying54 Tryd.underlying5 Tryd.underlying9
        rw [h2] at HFo
        subst h1
        clear h2
        go_wp2
        go_ret
        rw [HFo.out]
        exact ⟨rfl, hold.out⟩
      · obtain ⟨A, u, hA, _, hc, Hu⟩ := hH.sl.at1 (P := Tryd.prog) Tryd.underlying54 Tryd.size5 (B.length - 1) (by omega)
        rw [Hu.out, u8s_last h1] at hc
        obtain ⟨z, hz⟩ : ∃ z : UInt8, z = B.getD (B.length - 1) 0 := ⟨_, rfl⟩
        rw [← hz] at hc h2
        have hz255 := z.toNat_lt
        clear hz
        obtain ⟨v2, hr2, hs2, _⟩ := run_slice_sl (P := Tryd.prog) hH.sl Tryd.underlying54 Tryd.size5 none (some (.int .i64 ((B.length - 1 : Nat) : Int))) 0 (B.length - 1) (.inl ⟨rfl, rfl⟩) (.inr ⟨_, rfl⟩) (Nat.zero_le _) (by omega)
        have hs3 : Sl wr 1 v2 (B.take (B.length - 1)).length (u8s (B.take (B.length - 1))) := by
          rw [List.length_take, Nat.min_eq_left (by omega)]
          simpa [u8s_take] using hs2
        have cv := hs3.run_string (src := 54) (dst := 9) Tryd.underlying54 Tryd.underlying5 Tryd.underlying9
        rw [← h3] at cv
        rw [show ((B.length - 1 : Nat) : Int) = (B.length : Int) - 1 from by omega] at hA hr2
        have a0 : IntKind.i64.wrap ((B.length : Int) - 1) = (B.length : Int) - 1 := IntWalk.i64_in _ (by omega)
        have g2 : ((z.toNat : Int) == 32) = true := by rw [beq_iff_eq]; omega
        obtain ⟨S, hS⟩ : ∃ S, S = foldB s := ⟨_, rfl⟩
        rw [← HFo.out, ← hS] at cv
        have HS := Lib.hid hS
        clear h3 h2 Hu hs2 hs3 hS
        go_wp2
        go_ret
        rw [← HS.out]
        exact ⟨rfl, hold.out⟩
      · obtain ⟨A, u, hA, _, hc, Hu⟩ := hH.sl.at1 (P := Tryd.prog) Tryd.underlying54 Tryd.size5 (B.length - 1) (by omega)
        rw [Hu.out, u8s_last h1] at hc
        obtain ⟨z, hz⟩ : ∃ z : UInt8, z = B.getD (B.length - 1) 0 := ⟨_, rfl⟩
        rw [← hz] at hc h2
        have hz255 := z.toNat_lt
        clear hz
        have cv := hH.sl.run_string (src := 54) (dst := 9) Tryd.underlying54 Tryd.underlying5 Tryd.underlying9
        rw [h3] at HFo
        rw [show ((B.length - 1 : Nat) : Int) = (B.length : Int) - 1 from by omega] at hA
        have a0 : IntKind.i64.wrap ((B.length : Int) - 1) = (B.length : Int) - 1 := IntWalk.i64_in _ (by omega)
        have g2 : ((z.toNat : Int) == 32) = false := by rw [beq_eq_false_iff_ne]; omega
        obtain ⟨S, hS⟩ : ∃ S, S = foldB s := ⟨_, rfl⟩
        rw [← HFo.out, ← hS] at cv
        have HS := Lib.hid hS
        clear h3 h2 Hu hS
        go_wp2
        go_ret
        rw [← HS.out]
        exact ⟨rfl, hold.out⟩
set_option maxRecDepth 100000 in
set_option maxHeartbeats 1600000 in
theorem xfold_any (s : ByteArray) (w : World) (hs : s.size ≤ 140737488351232) : Calls Tryd.prog 20 #[.string s] w (RetS w (foldB s)) := by
  go_enter Tryd.func20, Tryd.ntmps20
  go_wp2
  go_loopw [3, 4] (fun b i wr => FRel w s b i wr) (fun _ i _ => s.size - (intOf i).toNat)
  case atStart => exact ⟨0, Nat.zero_le _, rfl, (Hold.start w).addNil 5 1⟩
  case round =>
    obtain ⟨k, hk, rfl, hH⟩ := hrel
    have hBl := foldT_len s k hk
    obtain ⟨B, hB⟩ : ∃ B, B = foldT s k := ⟨_, rfl⟩
    rw [← hB] at hH hBl
    have hlen := hH.sl.run_len Tryd.underlying54
    by_cases hlt : k < s.size
    · have hsc := foldT_succ hlt
      rw [← hB] at hsc
      have HSc := Lib.hid hsc
      have hway := fstep_way B s[k]
      have hc255 := s[k].toNat_lt
      clear hsc hB
      rcases hway with ⟨h1, h2, h3⟩ | ⟨h1, h2, h3, h4⟩ | ⟨h1, h2, h3, h4, h5⟩ | ⟨h1, h2, h3, h4, h5⟩ | ⟨h1, h2, h4, h5⟩
      · subst h2
        have HF : Hid (Hold w ((Row 5 1 u3 (foldT s (k + 1)).length (u8s (foldT s (k + 1)))).sep Asrt.emp) wr) := Lib.hid (by rw [HSc.out, h3]; exact hH)
        have g1 : ((s[k].toNat : Int) == 32) = true := by simp; omega
        have h65 : s[k].toNat < 65 := by omega
        clear h3 h1
        go_wp2
        go_roundw
        case rel => exact ⟨k + 1, by omega, by go_num, HF.out⟩
        case measure => simp [intOf]; omega
      · have HF : Hid (Hold w ((Row 5 1 u3 (foldT s (k + 1)).length (u8s (foldT s (k + 1)))).sep Asrt.emp) wr) := Lib.hid (by rw [HSc.out, h4]; exact hH)
        obtain ⟨A, u, hA, _, hc, Hu⟩ := hH.sl.at1 (P := Tryd.prog) Tryd.underlying54 Tryd.size5 (B.length - 1) (by omega)
        rw [Hu.out, u8s_last h2] at hc
        obtain ⟨z, hz⟩ : ∃ z : UInt8, z = B.getD (B.length - 1) 0 := ⟨_, rfl⟩
        rw [← hz] at hc h3
        have gL : ((B.length : Int) == 0) = false := by rw [beq_eq_false_iff_ne]; omega
        have hz255 := z.toNat_lt
        clear hz
        rw [show ((B.length - 1 : Nat) : Int) = (B.length : Int) - 1 from by omega] at hA
        have a0 : IntKind.i64.wrap ((B.length : Int) - 1) = (B.length : Int) - 1 := IntWalk.i64_in _ (by omega)
        have g1 : ((s[k].toNat : Int) == 32) = true := by simp; omega
        have g2 : ((z.toNat : Int) == 32) = true := by rw [beq_iff_eq]; omega
        have h65 : s[k].toNat < 65 := by omega
        clear h4 h1 h3 Hu
        go_wp2
        go_roundw
        case rel => exact ⟨k + 1, by omega, by go_num, HF.out⟩
        case measure => simp [intOf]; omega
      · obtain ⟨A, u, hA, _, hc, Hu⟩ := hH.sl.at1 (P := Tryd.prog) Tryd.underlying54 Tryd.size5 (B.length - 1) (by omega)
        rw [Hu.out, u8s_last h2] at hc
        obtain ⟨z, hz⟩ : ∃ z : UInt8, z = B.getD (B.length - 1) 0 := ⟨_, rfl⟩
        rw [← hz] at hc h3
        have gL : ((B.length : Int) == 0) = false := by rw [beq_eq_false_iff_ne]; omega
        have hz255 := z.toNat_lt
        clear hz
        rw [show ((B.length - 1 : Nat) : Int) = (B.length : Int) - 1 from by omega] at hA
        have a0 : IntKind.i64.wrap ((B.length : Int) - 1) = (B.length : Int) - 1 := IntWalk.i64_in _ (by omega)
        have g1 : ((s[k].toNat : Int) == 32) = true := by simp; omega
        have g2 : ((z.toNat : Int) == 32) = false := by rw [beq_eq_false_iff_ne]; omega
        have h65 : s[k].toNat < 65 := by omega
        have H4 := Lib.hid h4
        have H5 := Lib.hid h5
        clear h4 h5 h3 Hu h1
        go_wp2_with (at_builtin; refine wpList_appLit (sx := .tmp 39) el8 hH [.int .u8 (s[k].toNat : Int)] rfl _ rfl rfl rfl rfl (by simp [Value.oneCell']) (by simp; omega) (by simp; omega) ?_; intro v9 xs9 w9 X9 H9)
        have HF : Hid (Hold w ((Row 5 1 v9 (foldT s (k + 1)).length (u8s (foldT s (k + 1)))).sep Asrt.emp) w9) := Lib.hid (by rw [X9.out, ← H4.out] at H9; rw [HSc.out, H5.out]; exact H9)
        clear H9 X9
        go_roundw
        case rel => exact ⟨k + 1, by omega, by go_num, HF.out⟩
        case measure => simp [intOf]; omega
      · have g1 : ((s[k].toNat : Int) == 32) = false := by simp; omega
        have g9 : (((s[k].toNat : Int) + 32) == 32) = false := by rw [beq_eq_false_iff_ne]; omega
        have a8 : IntKind.u8.wrap ((s[k].toNat : Int) + 32) = (s[k].toNat : Int) + 32 := IntWalk.u8_in _ (by omega)
        have H4 := Lib.hid h4
        have H5 := Lib.hid h5
        clear h4 h5
        go_wp2_with (at_builtin; refine wpList_appLit (sx := .tmp 39) el8 hH [.int .u8 ((s[k].toNat : Int) + 32)] rfl _ rfl rfl rfl rfl (by simp [Value.oneCell']) (by simp; omega) (by simp; omega) ?_; intro v9 xs9 w9 X9 H9)
        have HF : Hid (Hold w ((Row 5 1 v9 (foldT s (k + 1)).length (u8s (foldT s (k + 1)))).sep Asrt.emp) w9) := Lib.hid (by rw [X9.out, ← H4.out] at H9; rw [HSc.out, H5.out]; exact H9)
        clear H9 X9
        go_roundw
        case rel => exact ⟨k + 1, by omega, by go_num, HF.out⟩
        case measure => simp [intOf]; omega
      · have g1 : ((s[k].toNat : Int) == 32) = false := by simp; omega
        have H4 := Lib.hid h4
        have H5 := Lib.hid h5
        have hcase : s[k].toNat < 65 ∨ (65 ≤ s[k].toNat ∧ 90 < s[k].toNat) := by omega
        clear h4 h5 h2
        rcases hcase with h2 | ⟨h2, h3⟩
        all_goals
          go_wp2_with (at_builtin; refine wpList_appLit (sx := .tmp 39) el8 hH [.int .u8 (s[k].toNat : Int)] rfl _ rfl rfl rfl rfl (by simp [Value.oneCell']) (by simp; omega) (by simp; omega) ?_; intro v9 xs9 w9 X9 H9)
          have HF : Hid (Hold w ((Row 5 1 v9 (foldT s (k + 1)).length (u8s (foldT s (k + 1)))).sep Asrt.emp) w9) := Lib.hid (by rw [X9.out, ← H4.out] at H9; rw [HSc.out, H5.out]; exact H9)
          clear H9 X9
          go_roundw
          case rel => exact ⟨k + 1, by omega, by go_num, HF.out⟩
          case measure => simp [intOf]; omega
    · obtain rfl : k = s.size := by omega
      have HFo : Hid (foldB s = ⟨(ftrim B).toArray⟩) := Lib.hid (by rw [hB]; rfl)
      have hold := Lib.hid hH.old
      clear hB
      rcases ftrim_way B with ⟨h1, h2⟩ | ⟨h1, h2, h3⟩ | ⟨h1, h2, h3⟩
      · have cv := hH.sl.run_string (src := 54) (dst := 9) Tryd.underlying54 Tryd.underlying5 Tryd.underlying9
        rw [h2] at HFo
        subst h1
        clear h2
        go_wp2
        go_ret
        rw [HFo.out]
        exact ⟨rfl, hold.out⟩
      · obtain ⟨A, u, hA, _, hc, Hu⟩ := hH.sl.at1 (P := Tryd.prog) Tryd.underlying54 Tryd.size5 (B.length - 1) (by omega)
        rw [Hu.out, u8s_last h1] at hc
        obtain ⟨z, hz⟩ : ∃ z : UInt8, z = B.getD (B.length - 1) 0 := ⟨_, rfl⟩
        rw [← hz] at hc h2
        have hz255 := z.toNat_lt
        clear hz
        obtain ⟨v2, hr2, hs2, _⟩ := run_slice_sl (P := Tryd.prog) hH.sl Tryd.underlying54 Tryd.size5 none (some (.int .i64 ((B.length - 1 : Nat) : Int))) 0 (B.length - 1) (.inl ⟨rfl, rfl⟩) (.inr ⟨_, rfl⟩) (Nat.zero_le _) (by omega)
        have hs3 : Sl wr 1 v2 (B.take (B.length - 1)).length (u8s (B.take (B.length - 1))) := by
          rw [List.length_take, Nat.min_eq_left (by omega)]
          simpa [u8s_take] using hs2
        have cv := hs3.run_string (src := 54) (dst := 9) Tryd.underlying54 Tryd.underlying5 Tryd.underlying9
        rw [← h3] at cv
        rw [show ((B.length - 1 : Nat) : Int) = (B.length : Int) - 1 from by omega] at hA hr2
        have a0 : IntKind.i64.wrap ((B.length : Int) - 1) = (B.length : Int) - 1 := IntWalk.i64_in _ (by omega)
        have g2 : ((z.toNat : Int) == 32) = true := by rw [beq_iff_eq]; omega
        obtain ⟨S, hS⟩ : ∃ S, S = foldB s := ⟨_, rfl⟩
        rw [← HFo.out, ← hS] at cv
        have HS := Lib.hid hS
        clear h3 h2 Hu hs2 hs3 hS
        go_wp2
        go_ret
        rw [← HS.out]
        exact ⟨rfl, hold.out⟩
      · obtain ⟨A, u, hA, _, hc, Hu⟩ := hH.sl.at1 (P := Tryd.prog) Tryd.underlying54 Tryd.size5 (B.length - 1) (by omega)
        rw [Hu.out, u8s_last h1] at hc
        obtain ⟨z, hz⟩ : ∃ z : UInt8, z = B.getD (B.length - 1) 0 := ⟨_, rfl⟩
        rw [← hz] at hc h2
        have hz255 := z.toNat_lt
        clear hz
        have cv := hH.sl.run_string (src := 54) (dst := 9) Tryd.underlying54 Tryd.underlying5 Tryd.underlying9
        rw [h3] at HFo
        rw [show ((B.length - 1 : Nat) : Int) = (B.length : Int) - 1 from by omega] at hA
        have a0 : IntKind.i64.wrap ((B.length : Int) - 1) = (B.length : Int) - 1 := IntWalk.i64_in _ (by omega)
        have g2 : ((z.toNat : Int) == 32) = false := by rw [beq_eq_false_iff_ne]; omega
        obtain ⟨S, hS⟩ : ∃ S, S = foldB s := ⟨_, rfl⟩
        rw [← HFo.out, ← hS] at cv
        have HS := Lib.hid hS
        clear h3 h2 Hu hS
        go_wp2
        go_ret
        rw [← HS.out]
        exact ⟨rfl, hold.out⟩
end Go.Proofs.YtindlfiifckdnaaDoor.Sc
