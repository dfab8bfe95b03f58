/-
  'TableOpens' answers true: any bytes as a table, or refused, as the reference says; what it has. Conditions: none beside what a row says of every argument.
-/
import Derived.Test.YtbepbbjeieafhaaM8
namespace Go.Proofs.Ytbepbbjeieafhaa.tableOpens
open Go.RowKit L Oct Bl Tb Fr
theorem openE_ne (b : List UInt8) : openE b ≠ 0 := by
  unfold openE
  split <;> omega
def Both (w w4 : World) (b : List UInt8) (w3 : World) (e3 e4 : Ending) : Prop :=
  (∃ l tb v, OpenOk b l ∧ e3 = .returned (.tuple #[.pointer (some ⟨tb, 0, none⟩), .int .i64 0]) ∧ e4 = .returned (.tuple #[v, .int .i64 0]) ∧ Hold w ((Tab tb l).sep Asrt.emp) w3 ∧ Own w4 w3.heap.size 39 4 v l.length (cls l) ∧ Below w3.heap.size w3 w4) ∨
  (e3 = .returned (.tuple #[.pointer none, .int .i64 (openE b)]) ∧ e4 = .returned (.tuple #[.slice none 0 0, .int .i64 (openE b)]) ∧ Below w.heap.size w w3 ∧ Below w3.heap.size w3 w4)
theorem both {w w3 w4 : World} {b : List UInt8} {e3 e4 : Ending} (hb : b.length ≤ 40000) (h3 : RetOpen w b e3 w3) (h4 : RetXOpen w3 b e4 w4) : Both w w4 b w3 e3 e4 := by
  rcases h3 with ⟨l, tb, hl, he, hH⟩ | ⟨hno, he, hB⟩
  · rcases h4 with ⟨m, v, hm, he4, ho, hb4⟩ | ⟨hno, _⟩
    · obtain rfl := open_uniq hl hm hb
      exact .inl ⟨m, tb, v, hl, he, he4, hH, ho, hb4⟩
    · exact (hno l hl).elim
  · rcases h4 with ⟨m, v, hm, _⟩ | ⟨_, he4, hb4⟩
    · exact (hno m hm).elim
    · exact .inr ⟨he, he4, hB, hb4⟩
theorem rise_len {b : List UInt8} {l : List Cl} (h : OpenOk b l) : l.length ≤ 4096 ∧ risesB l = true := by
  obtain ⟨_, h2, h3⟩ := build_len h.1
  exact ⟨h2, riseN_rises h3⟩
theorem parts_rows (l : List Cl) : (rows l).length = (parts l).length := rows_length l
set_option maxRecDepth 100000 in
set_option maxHeartbeats 3200000 in
theorem walk {w : World} (v0 : Value) (l0 : List UInt8) (h0 : Sl w 1 v0 l0.length (u8s l0)) (_b0 : l0.length ≤ 140737488351232) (a1 : ByteArray) (_w1 : a1.size ≤ 140737488351232) (a2 : Int) (_w2 : (Lit.int .i64 a2).wf = true) :
    Calls Try.prog 5 #[v0, .string a1, .int .i64 a2] w fun e w' => e = .returned (.bool true) ∧ Below w.heap.size w w' := by
  have hlen0 := h0.run_len Try.underlying24
  by_cases hbig : 3000 < l0.length
  · have g1 : decide ((3000 : Int) < (l0.length : Int)) = true := by simp; omega
    go_enter Try.func5, Try.ntmps5
    go_wp2
    go_ret
    exact ⟨rfl, Below.refl _ _⟩
  have g1 : decide ((3000 : Int) < (l0.length : Int)) = false := by simp; omega
  by_cases hk : 200 < a1.size
  · have g2 : decide ((200 : Int) < (a1.size : Int)) = true := by simp; omega
    clear hbig
    go_enter Try.func5, Try.ntmps5
    go_wp2
    go_ret
    exact ⟨rfl, Below.refl _ _⟩
  have g2 : decide ((200 : Int) < (a1.size : Int)) = false := by simp; omega
  have hl3 : l0.length ≤ 3000 := by omega
  have hks : a1.size ≤ 200 := by omega
  clear hbig hk
  have H0 := (Hold.start w).addEmpty 5
  have s0 := sl_alloc h0 (.cells #[] 5)
  go_enter Try.func5, Try.ntmps5
  go_wp2_with (at_builtin; refine wpList_app (sx := .tmp 24) el8 H0 rfl _ rfl rfl rfl s0 (u8s_one _) (by omega) (by omega) ?_; intro v3 xs3 w3 X3 H3; rw [X3.out, List.nil_append, Nat.zero_add] at H3)
  have s3 := H3.sl
  have hb3 := H3.old
  have HH3 := Lib.hid H3
  clear H0 H3 s0
  refine (open_any v3 l0 _ s3 (by omega)).mono ?_
  intro e4 w4 hr4
  have hb4 : Below w3.heap.size w3 w4 := by
    rcases hr4 with ⟨_, _, _, _, h⟩ | ⟨_, _, h⟩
    · exact h.old
    · exact h
  have Hr4 := Lib.hid hr4
  have B4 := hb3.trans (hb4.mono hb3.size)
  rcases hr4 with ⟨l, tb, hl, rfl, hT⟩ | ⟨hno, rfl, _⟩
  · have HL := Lib.hid hl
    have HT := Lib.hid (Hold.assoc.1 (HH3.out.onto hT))
    clear hT hl hb4 s3 HH3 g1 g2
    go_wp2_with fail
    refine (xopen_any v0 l0 _ (h0.below' B4) (by omega)).mono ?_
    intro e5 w5 hr5
    rcases both (by omega) Hr4.out hr5 with ⟨m, tb', v5, hm, he, rfl, _, ho5, hb5⟩ | ⟨he, _⟩
    case inr => simp at he
    obtain rfl : m = l := open_uniq HL.out hm (by omega)
    obtain ⟨hll, hrl⟩ := rise_len HL.out
    have hsz : ∀ c ∈ m, sizeC c ≤ 1000000000 := fun c hc => by
      have := isC_key (riseN_all (build_len HL.out.1).2.2 c hc)
      unfold sizeC; omega
    have H5 := Lib.hid (HT.out.addRow hb5 ho5)
    have Hsz := Lib.hid hsz
    have Hrl := Lib.hid hrl
    have hlen5 := ho5.sl.run_len Try.underlying22
    clear hr5 ho5 hb5 hm HT hb3 B4 hsz hrl he
    go_wp2_with fail
    refine (get_any H5.out.up2 (by omega) Hrl.out a1 (by omega) a2).mono ?_
    rintro e w6 ⟨rfl, hb6⟩
    obtain ⟨x, hx⟩ : ∃ x, x = (seekC m a1 a2).1 := ⟨_, rfl⟩
    obtain ⟨ok, hok⟩ : ∃ ok, ok = (seekC m a1 a2).2 := ⟨_, rfl⟩
    rw [← hx, ← hok, Cl.agg]
    have HX := Lib.hid hx
    have HOK := Lib.hid hok
    have H7 := Lib.hid ((H5.out.keeps hb6).addBlk (cs := #[.string x.key, .string x.val, .bool x.del, .int .i64 x.seq]) (t := 39) (b := w6.heap.size) rfl)
    clear hx hok hb6 H5
    go_upto_region 10 with fail
    obtain ⟨b11, hb11⟩ : ∃ b11, b11 = w6.heap.size := ⟨_, rfl⟩
    obtain ⟨w7, hw7⟩ : ∃ w7, w7 = w6.alloc (.cells #[.string x.key, .string x.val, .bool x.del, .int .i64 x.seq] 39) := ⟨_, rfl⟩
    rw [← hb11, ← hw7] at H7
    rw [← hb11, ← hw7]
    clear hb11 hw7
    go_wp2_with fail
    refine (first_any v5 m a1 a2 _ H7.out.up2.sl).mono ?_
    rintro e w8 ⟨rfl, hb8⟩
    rw [← HX.out, ← HOK.out, Cl.agg]
    have H9 := Lib.hid ((H7.out.keeps hb8).addBlk (cs := #[.string x.key, .string x.val, .bool x.del, .int .i64 x.seq]) (t := 39) (b := w8.heap.size) rfl)
    clear hb8 H7
    go_upto_region 11 with fail
    obtain ⟨b13, hb13⟩ : ∃ b13, b13 = w8.heap.size := ⟨_, rfl⟩
    obtain ⟨w9, hw9⟩ : ∃ w9, w9 = w8.alloc (.cells #[.string x.key, .string x.val, .bool x.del, .int .i64 x.seq] 39) := ⟨_, rfl⟩
    rw [← hb13, ← hw9] at H9
    rw [← hb13, ← hw9]
    clear hb13 hw9
    have k0 := blk_cell H9.out.blk 0
    have k1 := blk_cell H9.out.blk 1
    have k2 := blk_cell H9.out.blk 2
    have k3 := blk_cell H9.out.blk 3
    have m0 := blk_cell H9.out.up2.blk 0
    have m1 := blk_cell H9.out.up2.blk 1
    have m2 := blk_cell H9.out.up2.blk 2
    have m3 := blk_cell H9.out.up2.blk 3
    have hq := fun w' : World => run_eqC x x w'
    simp only [eqC_self, Cl.agg] at hq
    have hqb : (ok == ok) = true := by simp
    go_wp2_with fail
    refine (scan_any H9.out.up4 (by omega) ⟨#[]⟩ ⟨#[]⟩).mono ?_
    rintro e w10 ⟨v10, rfl, ho10, hb10⟩
    rw [scanC_all] at ho10
    have H11 := Lib.hid (H9.out.addRow hb10 ho10)
    clear ho10 hb10 H9 k0 k1 k2 k3 m0 m1 m2 m3 hq
    go_wp2_with fail
    refine (cells_same v10 v5 m _ H11.out.sl H11.out.up4.sl).mono ?_
    rintro e w11 ⟨rfl, hd⟩
    have H12 := Lib.hid (H11.out.keeps hd.below)
    clear hd H11
    have q1 : ((m.length : Int) == (m.length : Int)) = true := by simp
    go_wp2_with (go_at_call 21; refine (len_any H12.out.up5).mono ?_; rintro e w13 ⟨rfl, rfl⟩)
    refine (blocks8_any H12.out.up5).mono ?_
    rintro e w13 ⟨rfl, rfl⟩
    go_wp2_with fail
    refine (xblocks_any v5 m _ H12.out.up4.sl (by omega) Hsz.out).mono ?_
    rintro e w14 ⟨v14, vs, rfl, h14⟩
    rw [parts_rows] at h14
    have hlen14 := h14.sl.run_len Try.underlying46
    have HB14 := Lib.hid (H12.out.old.trans (h14.old.mono H12.out.old.size))
    have q2 : (((parts m).length : Int) == ((parts m).length : Int)) = true := by simp
    clear h14
    go_wp2_with fail
    refine (Tb.known_any _).mono ?_
    rintro e w15 ⟨rfl, hb15⟩
    have HF := Lib.hid (HB14.out.trans (hb15.mono HB14.out.size))
    clear hb15
    go_wp2
    go_ret
    exact ⟨rfl, HF.out⟩
  · have hne := openE_ne l0
    have HB4 := Lib.hid B4
    clear hb4 s3 HH3 g1 g2 hno
    go_wp2_with fail
    refine (xopen_any v0 l0 _ (h0.below' B4) (by omega)).mono ?_
    intro e5 w5 hr5
    rcases both (by omega) Hr4.out hr5 with ⟨m, tb', v5, hm, he, _⟩ | ⟨_, rfl, _, hb5⟩
    · simp at he
    have HB5 := Lib.hid (HB4.out.trans (hb5.mono HB4.out.size))
    obtain ⟨E, hE⟩ : ∃ E, E = openE l0 := ⟨_, rfl⟩
    rw [← hE] at hne ⊢
    have q1 : ((E : Int) != (E : Int)) = false := by simp
    have q2 : ((E : Int) != 0) = true := by simp; omega
    have HR := Lib.hid hr5
    clear hr5 hE hne hb5 B4 hb3
    go_wp2_with fail
    refine (Tb.known_any _).mono ?_
    rintro e w6 ⟨rfl, hb6⟩
    have HF := Lib.hid (HB5.out.trans (hb6.mono HB5.out.size))
    clear hb6
    go_wp2
    go_ret
    exact ⟨rfl, HF.out⟩
end Go.Proofs.Ytbepbbjeieafhaa.tableOpens
