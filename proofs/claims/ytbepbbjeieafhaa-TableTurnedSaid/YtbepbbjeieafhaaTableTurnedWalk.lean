/-
  'TableTurned' answers true: a table of which one byte is another one is none. Conditions: none beside what a row says of every argument.
-/
import Derived.Test.YtbepbbjeieafhaaM8
namespace Go.Proofs.Ytbepbbjeieafhaa.tableTurned
open Go.RowKit L Oct Bl Tb Fr
/-- a table of which one byte is another one is no table -/
theorem turned {l : List Cl} (h : buildN l = 0) (hp : (payload l).length ≤ 30000) {m : Nat} (hm : m < (buildR l).length) {y : UInt8} (hy : y ≠ (buildR l)[m]) : ∀ l', ¬ OpenOk ((buildR l).set m y) l' := by
  intro l' hl'
  have hr : buildR l = rec_ (payload l) := by rw [buildR, if_pos h]
  have hlen : (buildR l).length = 12 + (payload l).length := by rw [hr, rec_length]
  have h1 := open_one hl' (by simp; omega)
  have hu := unrec_rec (payload l) [] (by omega)
  rw [List.append_nil, ← hr] at hu
  have hf : from4 (buildR l) = (payload l).length := by
    rw [hr]
    unfold rec_ head
    rw [List.append_assoc, List.append_assoc]
    exact from4_four _ _ (by omega)
  have := unrec_set (buildR l) m y (by rw [hu]) (by rw [hf]; omega) hm hy
  rw [unone, if_neg (fun h => this h.1)] at h1
  simp only [Prod.mk.injEq] at h1
  exact this h1.2
theorem openE_ne (b : List UInt8) : openE b ≠ 0 := by
  unfold openE
  split <;> omega
theorem open_no {w w' : World} {b : List UInt8} {e : Ending} (hn : ∀ l, ¬ OpenOk b l) (h : RetOpen w b e w') : e = .returned (.tuple #[.pointer none, .int .i64 (openE b)]) ∧ Below w.heap.size w w' := by
  rcases h with ⟨m, tb, hm, _⟩ | ⟨_, h⟩
  · exact (hn m hm).elim
  · exact h
set_option maxRecDepth 100000 in
set_option maxHeartbeats 3200000 in
theorem walk {w : World} (v0 : Value) (l0 : List Cl) (h0 : Sl w 4 v0 l0.length (cls l0)) (_b0 : l0.length * 48 ≤ 140737488351232) (i0 : ∀ c ∈ l0, CellIn c) (a1 : Int) (_w1 : (Lit.int .i64 a1).wf = true) (a2 : Int) (w2 : (Lit.int .u8 a2).wf = true) :
    Calls Try.prog 4 #[v0, .int .i64 a1, .int .u8 a2] w fun e w' => e = .returned (.bool true) ∧ Below w.heap.size w w' := by
  obtain ⟨by_, rfl⟩ := u8_lit w2
  have Hi := Lib.hid i0
  have hlen0 := h0.run_len Try.underlying22
  clear i0 w2
  go_enter Try.func4, Try.ntmps4
  go_wp2_with fail
  refine (heavy_any v0 l0 w h0 fun c hc => ⟨(Hi.out c hc).1, (Hi.out c hc).2.1⟩).mono ?_
  rintro e w1 ⟨b, rfl, hhv, hb1⟩
  cases b with
  | true =>
    go_wp2
    go_ret
    exact ⟨rfl, hb1⟩
  | false =>
    obtain ⟨hwt, hl⟩ := hhv rfl
    clear hhv
    go_wp2_with fail
    refine (xrise_any v0 l0 _ (h0.below' hb1)).mono ?_
    rintro e w2 ⟨rfl, hb2⟩
    have b2 := hb1.trans (hb2.mono hb1.size)
    clear hb1 hb2
    by_cases hr : riseN l0 = 0
    case neg =>
      have hz : ((riseN l0 : Int) != 0) = true := by simp [hr]
      clear hr
      go_wp2
      go_ret
      exact ⟨rfl, b2⟩
    have hz : ((riseN l0 : Int) != 0) = false := by simp [hr]
    have Hr := Lib.hid hr
    clear hr
    by_cases hl1 : l0.length = 0
    · have g1 : ((l0.length : Int) == 0) = true := by simp [hl1]
      clear hl1
      go_wp2
      go_ret
      exact ⟨rfl, b2⟩
    have g1 : ((l0.length : Int) == 0) = false := by rw [beq_eq_false_iff_ne]; omega
    have HB : Hid (buildN l0 = 0) := Lib.hid (by rw [buildN, if_neg (by omega)]; exact Hr.out)
    have hln := build_len2 HB.out hwt hl
    by_cases hby : by_.toNat = 0
    · have hq : ((by_.toNat : Int) == 0) = true := by simp [hby]
      clear hby hl1 hln
      go_wp2
      go_ret
      exact ⟨rfl, b2⟩
    have hq : ((by_.toNat : Int) == 0) = false := by simp only [beq_eq_false_iff_ne, ne_eq]; omega
    clear hl1
    go_wp2_with fail
    refine (build_any v0 l0 _ (h0.below' b2) (fun _ => by omega)).mono ?_
    rintro e w3 ⟨v3, rfl, ho3, hb3⟩
    rw [HB.out]
    have H3 := (((Hold.start w).keeps b2).addRow hb3 ho3)
    have hno : ∀ (m : Nat) (y : UInt8), m < (buildR l0).length → y ≠ (buildR l0).getD m 0 → ∀ l', ¬ OpenOk ((buildR l0).set m y) l' := fun m y hm hy => turned HB.out hln.1 hm (by simpa [List.getD, hm] using hy)
    obtain ⟨B, hB⟩ : ∃ B, B = buildR l0 := ⟨_, rfl⟩
    rw [← hB] at H3 hln hno
    clear ho3 hb3 hB b2
    have hlen3 := H3.sl.run_len Try.underlying24
    have hB0 : 0 < B.length := by omega
    have hBn : ((B.length : Int) == 0) = false := by simp only [beq_eq_false_iff_ne, ne_eq]; omega
    obtain ⟨j, m, hj, hj2, hjm, hm⟩ := place30 a1 B.length hB0
    obtain ⟨x, hx0⟩ : ∃ x, x = B.getD m 0 := ⟨_, rfl⟩
    have hx := xor_u8 x by_
    obtain ⟨y, hy⟩ : ∃ y, y = x ^^^ by_ := ⟨_, rfl⟩
    rw [← hy] at hx
    have hyne : y ≠ B.getD m 0 := by
      rw [hy, hx0]
      exact xor_ne (B.getD m 0) by_ hby
    obtain ⟨B', hB'⟩ : ∃ B', B' = B.set m y := ⟨_, rfl⟩
    have hset8 : (u8s B).set m (.int .u8 (y.toNat : Int)) = u8s B' := by rw [hB']; simp [u8s]
    have hBl' : B'.length = B.length := by rw [hB']; simp
    have Hno := Lib.hid (hno m y hm hyne)
    rw [← hB'] at Hno
    obtain ⟨A, hA, hcell, hfr, hset⟩ := H3.index (P := Try.prog) Try.underlying24 Try.size5 .i64 (m : Int) (by omega) (by omega)
    rw [Int.toNat_natCast, u8s_get _ _ hm, ← hx0] at hcell
    have hs := hset (.int .u8 (y.toNat : Int))
    rw [Int.toNat_natCast, hset8, ← hBl'] at hs
    have Hs := Lib.hid hs
    have hle' : B'.length ≤ 40000 := by omega
    clear hset hs hset8 hB' hBl' hyne hy hx0 hno H3 hby
    go_wp2_with fail
    refine (open_any v3 B' _ Hs.out.sl hle').mono ?_
    intro e w5 hret
    obtain ⟨rfl, hb5⟩ := open_no Hno.out hret
    have Hb5 := Lib.hid ((Hs.out.keeps hb5).old)
    have hne := openE_ne B'
    obtain ⟨E, hE⟩ : ∃ E, E = openE B' := ⟨_, rfl⟩
    rw [← hE] at hne ⊢
    have hEne : ((E : Int) != 0) = true := by simp; omega
    clear hE hne hret hb5 hA hcell hfr
    go_wp2_with fail
    refine (Tb.known_any _).mono ?_
    rintro e w6 ⟨rfl, hb6⟩
    have HF := Lib.hid (Hb5.out.trans (hb6.mono Hb5.out.size))
    clear hb6
    go_wp2
    go_ret
    exact ⟨rfl, HF.out⟩
end Go.Proofs.Ytbepbbjeieafhaa.tableTurned
