/-
  'TableOwn' answers true: what is told is new memory: whatever is done with it, the table stays. Conditions: none beside what a row says of every argument.
-/
import Derived.Test.YtbepbbjeieafhaaM8
import Derived.Test.YtbepbbjeieafhaaCellSet
import Derived.Deep.RegionHeld3
import Derived.Deep.DrawnRows
namespace Go.Proofs.Ytbepbbjeieafhaa.tableOwn
open Go.RowKit L Oct Bl Tb Fr
def SpRel (w : World) (n : Nat) (v : Value) (T : Asrt) (k : Nat) (wr : World) : Prop := ∃ X : List UInt8, X.length = n ∧ k ≤ n ∧ Hold w ((Row 5 1 v n (u8s X)).sep T) wr
def CpRel (w : World) (n : Nat) (v : Value) (T : Asrt) (k : Nat) (wr : World) : Prop := ∃ X : List Cl, X.length = n ∧ k ≤ n ∧ Hold w ((Row 39 4 v n (cls X)).sep T) wr
structure InO (w : World) (tb : Nat) (l : List Cl) (w' : World) : Prop where
  hold : ∃ R, Hold w ((Tab tb l).sep R) w'
theorem inO_next {w w1 w' : World} {tb : Nat} {l : List Cl} (hb : Below w1.heap.size w1 w') (h : InO w tb l w1) : InO w tb l w' := by
  obtain ⟨R, h⟩ := h.hold
  exact ⟨R, h.keeps hb⟩
theorem inO_old {w w' : World} {tb : Nat} {l : List Cl} (h : InO w tb l w') : Below w.heap.size w w' := by
  obtain ⟨R, h⟩ := h.hold
  exact h.old
theorem scanIn {w w' : World} {tb : Nat} {l : List Cl} (h : InO w tb l w') (hl : l.length ≤ 1000000) (a b : ByteArray) : Calls Try.prog 20 #[.pointer (some ⟨tb, 0, none⟩), .string a, .string b] w' (RetScan w' l a b) := by
  obtain ⟨R, h⟩ := h.hold
  exact scan_any h hl a b
theorem last_in {w w' : World} {tb : Nat} {l : List Cl} (h : InO w tb l w') (hl : 0 < l.length) : Calls Try.prog 26 #[.pointer (some ⟨tb, 0, none⟩)] w' fun e w'' => e = .returned (.string (l.getD (l.length - 1) default).key) ∧ Below w'.heap.size w' w'' := by
  obtain ⟨R, h⟩ := h.hold
  exact last8_any h hl
def InS (w : World) (tb : Nat) (l : List Cl) (A : Addr) (c : Cl) (w' : World) : Prop := InO w tb l w' ∧ w'.cell? A = some (.string c.key)
theorem inS_next {w w1 w' : World} {tb : Nat} {l : List Cl} {A : Addr} {c : Cl} (hb : Below w1.heap.size w1 w') (h : InO w tb l w1) (hc : w1.cell? A = some (.string c.key)) : InS w tb l A c w' := ⟨inO_next hb h, cell_next hb hc⟩
set_option maxRecDepth 100000 in
set_option maxHeartbeats 3200000 in
theorem walk {w : World} (v0 : Value) (l0 : List Cl) (h0 : Sl w 4 v0 l0.length (cls l0)) (_b0 : l0.length * 48 ≤ 140737488351232) (i0 : ∀ c ∈ l0, CellIn c) :
    Calls Try.prog 9 #[v0] w fun e w' => e = .returned (.bool true) ∧ Below w.heap.size w w' := by
  have Hi := Lib.hid i0
  have hlen0 := h0.run_len Try.underlying22
  clear i0
  go_enter Try.func9, Try.ntmps9
  go_wp2_with fail
  refine (heavy_any v0 l0 w h0 fun c hc => ⟨(Hi.out c hc).1, (Hi.out c hc).2.1⟩).mono ?_
  rintro e w1 ⟨b, rfl, hhv, hb1⟩
  cases b with
  | true =>
    go_wp2
    go_ret
    exact ⟨rfl, hb1⟩
  | false =>
    obtain ⟨hwt, hl⟩ := hhv rfl
    clear hhv
    go_wp2_with fail
    refine (xrise_any v0 l0 _ (h0.below' hb1)).mono ?_
    rintro e w2 ⟨rfl, hb2⟩
    have b2 := hb1.trans (hb2.mono hb1.size)
    clear hb1 hb2
    by_cases hr : riseN l0 = 0
    case neg =>
      have hz : ((riseN l0 : Int) != 0) = true := by simp [hr]
      clear hr
      go_wp2
      go_ret
      exact ⟨rfl, b2⟩
    have hz : ((riseN l0 : Int) != 0) = false := by simp [hr]
    have Hr := Lib.hid hr
    clear hr
    by_cases hl1 : l0.length = 0
    · have g1 : ((l0.length : Int) == 0) = true := by simp [hl1]
      clear hl1
      go_wp2
      go_ret
      exact ⟨rfl, b2⟩
    have g1 : ((l0.length : Int) == 0) = false := by rw [beq_eq_false_iff_ne]; omega
    have HB : Hid (buildN l0 = 0) := Lib.hid (by rw [buildN, if_neg (by omega)]; exact Hr.out)
    have hln := build_len2 HB.out hwt hl
    go_wp2_with fail
    refine (build_any v0 l0 _ (h0.below' b2) (fun _ => by omega)).mono ?_
    rintro e w3 ⟨v3, rfl, ho3, hb3⟩
    rw [HB.out]
    have H3 := Lib.hid (((Hold.start w).keeps b2).addRow hb3 ho3)
    have HK := Lib.hid (open_ok HB.out)
    have hBl : (buildR l0).length ≤ 40000 := by omega
    clear ho3 hb3 b2 g1 hz
    go_wp2_with fail
    refine (open_any v3 (buildR l0) _ H3.out.sl hBl).mono ?_
    rintro e w4 h4
    obtain ⟨tb, rfl, hT⟩ := open_yes HK.out hBl h4
    have H4 := (Hold.assoc.1 (Hold.onto H3.out hT))
    have H5 := (H4.perm (B := (Row 5 1 v3 (buildR l0).length (u8s (buildR l0))).sep ((Tab tb l0).sep (Asrt.emp.sep Asrt.emp))) (by ac_rfl))
    obtain ⟨T, hT5⟩ : ∃ T, T = (Tab tb l0).sep (Asrt.emp.sep Asrt.emp) := ⟨_, rfl⟩
    rw [← hT5] at H5
    have HT := Lib.hid hT5
    obtain ⟨B, hB⟩ : ∃ B, B = buildR l0 := ⟨_, rfl⟩
    rw [← hB] at H5 hBl
    have hlen3 := H5.sl.run_len Try.underlying24
    have H5' := Lib.hid H5
    clear hT h4 H3 H4 H5 hT5 hB hln HK
    go_wp2_with fail
    go_loopw [7] (fun i wr => ∃ k : Nat, i = .int .i64 k ∧ SpRel w B.length v3 T k wr) (fun i _ => B.length - (intOf i).toNat)
    case atStart => exact ⟨0, rfl, B, rfl, Nat.zero_le _, H5'.out⟩
    case round =>
      clear H5'
      obtain ⟨k, rfl, X, hX, hk, hH⟩ := hrel
      by_cases hlt : k < B.length
      · obtain ⟨A, hA, hcell, hfr, hset⟩ := hH.index (P := Try.prog) Try.underlying24 Try.size5 .i64 (k : Int) (by omega) (by omega)
        rw [Int.toNat_natCast, u8s_get _ _ (by omega)] at hcell
        have hs := hset (.int .u8 0)
        have e8 : (u8s X).set k (.int .u8 0) = u8s (X.set k 0) := by simp [u8s]
        rw [Int.toNat_natCast, e8] at hs
        have hR : Hid (SpRel w B.length v3 T (k + 1) (wr.setCell A (.int .u8 0))) := Lib.hid ⟨X.set k 0, by simp [hX], by omega, hs⟩
        clear hset hs e8 hH
        have HX := Lib.hid hX
        clear hX
        go_wp2
        go_roundw
        case rel => exact ⟨k + 1, by go_num, hR.out⟩
        case measure => simp [intOf]; omega
      · rw [HT.out] at hH
        obtain ⟨R6, hR6⟩ : ∃ R, Hold w ((Tab tb l0).sep R) wr := ⟨_, hH.up2⟩
        have HR6 := Lib.hid hR6
        have HX := Lib.hid hX
        clear hX hH hR6
        go_wp2_with fail
        refine (scan_any HR6.out (by omega) ⟨#[]⟩ ⟨#[]⟩).mono ?_
        rintro e w6 ⟨v6, rfl, ho6, hb6⟩
        rw [scanC_all] at ho6
        have H6 := HR6.out.addRow hb6 ho6
        obtain ⟨T2, hT2⟩ : ∃ T2, T2 = (Tab tb l0).sep R6 := ⟨_, rfl⟩
        rw [← hT2] at H6
        have HT2 := Lib.hid hT2
        have hlen6 := H6.sl.run_len Try.underlying22
        have H6' := Lib.hid H6
        clear hT2 H6 ho6 hb6 HR6
        go_wp2_with fail
        go_loopw [9] (fun i wr => ∃ k : Nat, i = .int .i64 k ∧ CpRel w l0.length v6 T2 k wr) (fun i _ => l0.length - (intOf i).toNat)
        case atStart => exact ⟨0, rfl, l0, rfl, Nat.zero_le _, H6'.out⟩
        case round =>
          clear H6'
          obtain ⟨k, rfl, X, hX, hk, hH⟩ := hrel
          by_cases hlt : k < l0.length
          · have hH' := hH
            rw [← hX] at hH'
            obtain ⟨g, w', hA, hst, hn⟩ := hold_putC hH' k (by omega) ⟨⟨#[115, 112, 111, 105, 108, 116]⟩, ⟨#[]⟩, false, 0⟩
            have hR : Hid (CpRel w l0.length v6 T2 (k + 1) w') := Lib.hid ⟨X.set k _, by simp [hX], by omega, by rw [List.length_set, hX] at hn; exact hn⟩
            clear hH hH' hn
            have HX := Lib.hid hX
            clear hX
            go_wp2_with (refine wpList_store_run rfl 39 (.tmp 62) (.tmp 61) rfl _ _ rfl rfl hst ?_)
            go_roundw
            case rel => exact ⟨k + 1, by go_num, hR.out⟩
            case measure => simp [intOf]; omega
          · rw [HT2.out] at hH
            obtain ⟨A, c, hA, _, hcells, Hc⟩ := (h0.below' hH.old).atCl (P := Try.prog) Try.underlying22 Try.size39 (l0.length - 1) ((l0.length : Int) - 1) (by omega) (by omega)
            have hwr : IntKind.i64.wrap ((l0.length : Int) - 1) = (l0.length : Int) - 1 := IntWalk.i64_in _ (by omega)
            have h01 : (0 : Int) ≤ (l0.length : Int) - 1 := by omega
            have hlast : ∀ w1, InO w tb l0 w1 → Calls Try.prog 26 #[.pointer (some ⟨tb, 0, none⟩)] w1 fun e w'' => e = .returned (.string c.key) ∧ Below w1.heap.size w1 w'' := fun w1 h => by
              rw [Hc.out]; exact last_in h (by omega)
            have HLast := Lib.hid hlast
            have hT : InS w tb l0 A c _ := ⟨⟨⟨_, hH.up2.drew⟩⟩, hcells.key⟩
            have hks : (c.key.toList == c.key.toList) = true := by simp
            have HX := Lib.hid hX
            clear hX hH hcells hlast HT HT2 Hc
            go_wp2_with fail
            go_region_held3 (fun w' => InO w tb l0 w' ∧ w'.cell? A = some (.string c.key)) (first | exact hT | go_keep)
              (first
                | (go_at_call 20; refine (scanIn hT.1 (by omega) ⟨#[]⟩ ⟨#[]⟩).mono ?_; rintro e w7 ⟨v10, rfl, ho10, hb7⟩; rw [scanC_all] at ho10; have s10 := ho10.sl; have hT := inS_next hb7 hT.1 hT.2; clear hb7 ho10)
                | (go_at_call 19; refine (cells_same v10 v0 l0 _ s10 (h0.below' (inO_old hT.1))).mono ?_; rintro e w8 ⟨rfl, hd8⟩; have hT := inS_next hd8.below hT.1 hT.2; clear hd8)
                | (go_at_call 26; refine (HLast.out _ hT.1).mono ?_; rintro e w9 ⟨rfl, hb9⟩; have hT := inS_next hb9 hT.1 hT.2; clear hb9)
                | (go_at_call 13; refine (Tb.known_any _).mono ?_; rintro e w11 ⟨rfl, hb11⟩; have hT := inS_next hb11 hT.1 hT.2; clear hb11))
            go_wp2
            go_ret
            exact ⟨rfl, inO_old hT.1⟩
end Go.Proofs.Ytbepbbjeieafhaa.tableOwn
