/- Contracts of Go functions: what each returns, as a class of words, whatever the world. -/
import Derived.Test.YtjigmdfgmbdcmaaDoorLst
import Derived.Test.YtjigmdfgmbdcmaaDoorShj
import Derived.Test.YtjigmdfgmbdcmaaDoorProg
import Derived.BigQuiet
import Derived.Deep.QuietTactic
import Derived.Deep.RegionHeld3
import Derived.Deep.DeepFit
import Derived.WalkSpells
import Derived.Lib.Hide
import Derived.WalkSmall
import Derived.Deep.DeepCutAuto
namespace Go.Proofs.YtjigmdfgmbdcmaaDoor
open Go.RowKit Go.Fl

-- @has toInt64S
theorem info_i64 : (Tryd.prog.info? 2).map (fun i => (i.zero, i.size, i.bytes)) = some (some (.int .i64 0), 1, 8) := by kernel_rfl
set_option maxHeartbeats 800000 in
theorem toInt64S_c (a : Option Addr) (len cap : Nat) (Z : Nat → Int) (w : World) (h : SlI .i64 w a len Z) (hl : len ≤ 1048576) :
    Calls Tryd.prog 10 #[.slice a len cap] w fun e w' => ∃ g, e = .returned (.slice (some ⟨g, 0, none⟩) len len) ∧ SlI .i64 w' (some ⟨g, 0, none⟩) len Z ∧ Gro w w' := by
  have hmk := run_make_row' (P := Tryd.prog) 24 2 (.int .i64 0) 8 Tryd.underlying24 info_i64 rfl .i64 .i64 len (by omega) (by omega)
  go_enter Tryd.func10, Tryd.ntmps10
  go_wp2
  have hr0 := World.rowIs_made w (.int .i64 0) len 2
  have hg0 : Gro w (w.alloc (.cells (madeCells #[.int .i64 0] len) 2)) := (Gro.refl w).alloc _
  generalize hB : w.alloc (.cells (madeCells #[.int .i64 0] len) 2) = w2 at hr0 hg0
  go_loopw [4] (fun i wr => ∃ k : Nat, k ≤ len ∧ i = .int .i64 k ∧ wr.rowIs w.heap.size 2 len (fun j => if j < k then .int .i64 (Z j) else .int .i64 0) ∧ Gro w wr) (fun i _ => len - (intOf i).toNat)
  case atStart => exact ⟨0, Nat.zero_le _, rfl, hr0.congr fun j _ => by simp, hg0⟩
  case round =>
    obtain ⟨k, hk, rfl, hrow, hg⟩ := hrel
    by_cases hlt : k < len
    · obtain ⟨b, off, rfl, hc⟩ := h.2 (by omega)
      have c0 := hg.cell (hc k hlt)
      have c1 := hrow.cell hlt
      have c2 := hrow.frozen k
      clear hc hmk
      go_wp2
      go_roundw
      case rel =>
        refine ⟨k + 1, by omega, by go_num, (hrow.set k _).congr fun j _ => ?_, hg.setCell (Nat.le_refl _) _⟩
        by_cases e : j = k
        · subst e; simp
        · have : (j < k + 1) = (j < k) := by apply propext; omega
          simp [e, this]
      case measure => simp [intOf]; omega
    · have : k = len := by omega
      subst this
      clear hmk
      go_wp2
      go_ret
      exact ⟨_, rfl, SlAt.row h.1 (hrow.congr fun j hj => by simp [hj]), hg⟩

-- @has eqInt64S
set_option maxHeartbeats 800000 in
theorem eqInt64S_true (a b : Option Addr) (len ca cb : Nat) (Z : Nat → Int) (w : World) (h1 : SlI .i64 w a len Z) (h2 : SlI .i64 w b len Z) :
    Calls Tryd.prog 12 #[.slice a len ca, .slice b len cb] w (RetV (.bool true) w) := by
  have hm := h1.1
  unfold maxLen at hm
  go_enter Tryd.func12, Tryd.ntmps12
  go_wp2
  go_loopw [5] (fun i wr => ∃ k n : Nat, k ≤ len ∧ i = .int .i64 k ∧ wr = w.drewN n) (fun i _ => len - (intOf i).toNat)
  case atStart => exact ⟨0, 0, Nat.zero_le _, rfl, rfl⟩
  case round =>
    obtain ⟨k, n, hk, rfl, rfl⟩ := hrel
    by_cases hlt : k < len
    · obtain ⟨b1, o1, rfl, hc1⟩ := h1.2 (by omega)
      obtain ⟨b2, o2, rfl, hc2⟩ := h2.2 (by omega)
      have c0 := hc1 k hlt
      have c1 := hc2 k hlt
      clear hc1 hc2 h1 h2
      go_upto_region 6 with fail
      go_cut [25] (fun s25 wx => s25 = .bool false ∧ ∃ m, wx = w.drewN m)
      case first =>
        go_region_with fail
        all_goals
          go_wp2_with fail
          go_meet
          exact ⟨rfl, _, rfl⟩
      case rest =>
        obtain ⟨rfl, m, rfl⟩ := hcut
        go_wp2
        go_roundw
        case rel => exact ⟨k + 1, _, by omega, by go_num, rfl⟩
        case measure => simp [intOf]; omega
    · have : k = len := by omega
      subst this
      go_wp2
      go_ret
      exact ⟨_, rfl, rfl⟩

-- @has l00In
theorem l00In_true (n a b : Int) (h1 : a ≤ n) (h2 : n ≤ b) (w : World) : Calls Tryd.prog 31 #[.int .i64 n, .int .i64 a, .int .i64 b] w (RetV (.bool true) w) := by
  go_enter Tryd.func31, Tryd.ntmps31
  go_wp2
  go_ret
  exact ⟨0, rfl, rfl⟩
theorem l00In_false (n a b : Int) (h : n < a ∨ b < n) (w : World) : Calls Tryd.prog 31 #[.int .i64 n, .int .i64 a, .int .i64 b] w (RetV (.bool false) w) := by
  by_cases h1 : a ≤ n
  · have h2 : ¬ n ≤ b := by omega
    go_enter Tryd.func31, Tryd.ntmps31
    go_wp2
    go_ret
    exact ⟨0, rfl, rfl⟩
  · go_enter Tryd.func31, Tryd.ntmps31
    go_wp2
    go_ret
    exact ⟨0, rfl, rfl⟩

-- @has l01List
set_option maxHeartbeats 800000 in
theorem l01List_c (a : Option Addr) (len cap : Nat) (Z : Nat → Int) (w : World) (h : SlI .i64 w a len Z) :
    Calls Tryd.prog 21 #[.slice a len cap] w (RetV (.bool (lstOk Z len)) w) := by
  have hm := h.1
  unfold maxLen at hm
  go_enter Tryd.func21, Tryd.ntmps21
  go_wp2
  go_loopw [3] (fun i wr => ∃ k n : Nat, k ≤ len ∧ i = .int .i64 k ∧ allIn Z k = true ∧ wr = w.drewN n) (fun i _ => len - (intOf i).toNat)
  case atStart => exact ⟨0, 0, Nat.zero_le _, rfl, rfl, rfl⟩
  case round =>
    obtain ⟨k, n, hk, rfl, hall, rfl⟩ := hrel
    have HA := Lib.hid hall
    clear hall
    by_cases hlt : k < len
    · obtain ⟨b1, o1, rfl, hc1⟩ := h.2 (by omega)
      have c0 := hc1 k hlt
      clear hc1 h
      by_cases hin : inR (Z k)
      · have HS := Lib.hid (allIn_snoc HA.out hin)
        unfold inR at hin
        go_wp2_with (go_at_call 31; refine (l00In_true _ _ _ hin.1 hin.2 _).mono ?_; rintro e w1 ⟨m, rfl, rfl⟩)
        go_roundw
        case rel => exact ⟨k + 1, _, by omega, by go_num, HS.out, rfl⟩
        case measure => simp [intOf]; omega
      · have HS := Lib.hid (allIn_false hin len hlt)
        have HI : Hid (Z k < -1000000000000000 ∨ 1000000000000000 < Z k) := Lib.hid (by unfold inR at hin; omega)
        clear hin
        go_wp2_with (go_at_call 31; refine (l00In_false _ _ _ HI.out _).mono ?_; rintro e w1 ⟨m, rfl, rfl⟩)
        go_ret
        exact ⟨_, by unfold lstOk; rw [HS.out]; rfl, rfl⟩
    · obtain rfl : k = len := by omega
      by_cases h64 : k ≤ 64
      · have h64' : (k : Int) ≤ 64 := by omega
        go_wp2
        go_ret
        exact ⟨_, by unfold lstOk; rw [HA.out, decide_eq_true h64]; rfl, rfl⟩
      · have h64' : ¬ (k : Int) ≤ 64 := by omega
        go_wp2
        go_ret
        exact ⟨_, by unfold lstOk; rw [HA.out, decide_eq_false h64]; rfl, rfl⟩

-- @has l01Dec
theorem info_u8 : (Tryd.prog.info? 5).map (fun i => (i.zero, i.size, i.bytes)) = some (some (.int .u8 0), 1, 1) := by kernel_rfl
set_option maxRecDepth 100000 in
set_option maxHeartbeats 2000000 in
theorem l01Dec_c (n : Int) (h0 : -9223372036854775808 ≤ n) (h1 : n ≤ 9223372036854775807) (w : World) :
    Calls Tryd.prog 19 #[.int .i64 n] w fun e w' => e = .returned (.string ⟨(Lib.itoa n).toArray⟩) ∧ Gro w w' := by
  obtain ⟨i0, hi, hz0, hz1, hz2⟩ := info_parts info_u8
  go_enter Tryd.func19, Tryd.ntmps19
  go_wp2
  have hu20 : Lib.nDigits n.natAbs ≤ 20 := nDigits_20 h0 h1
  go_loopw [3, 4] (fun out rest wr => ∃ r ds, rest = .int .i64 r ∧ -9223372036854775808 ≤ r ∧ r ≤ 9223372036854775807 ∧ decInv n.natAbs r ds ∧ ByteRow w wr out ds) (fun out rest _ => (intOf rest).natAbs + (1 - lenOf out))
  case atStart => exact ⟨n, [], rfl, h0, h1, decInv_start n, w.heap.size, 0, rfl, fun j u hj => by simp [Lib.byteCells] at hj, (Gro.refl w).alloc _⟩
  case round =>
    obtain ⟨r, ds, rfl, r0, r1, hinv, g, cap, rfl, hc, hg⟩ := hrel
    have hlen := decInv_len hinv
    have HI := Lib.hid hinv
    have HC := Lib.hid hc
    clear hinv hc
    by_cases hdone : ¬ (r = 0 ∧ ds ≠ [])
    · obtain ⟨D, hD⟩ : ∃ D : Nat, D = r.natAbs % 10 := ⟨_, rfl⟩
      have hD9 : D ≤ 9 := by omega
      have htm := tmod_cases r
      rw [← hD] at htm
      have HD := Lib.hid hD
      have hstep := Lib.hid (decInv_step HI.out hdone)
      have hrq := tdiv_in r0 r1
      have hsz := hg.size
      clear hD
      have hdone' := Lib.hid hdone
      have HX : Hid (ds.length = 0 ∨ r ≠ 0) := Lib.hid (by
        by_cases e : ds = []
        · left; rw [e]; rfl
        · exact .inr fun h => hdone'.out ⟨h, e⟩)
      clear hdone
      have hdisj : ((ds.length : Int) == 0) = true ∨ (((ds.length : Int) == 0) = false ∧ (r != 0) = true) := by
        by_cases e : ds = []
        · left; rw [e]; rfl
        · exact .inr ⟨by simp [e], by simpa using fun h => hdone'.out ⟨h, e⟩⟩
      rcases hdisj with hl0 | ⟨hl0, hr0⟩
      all_goals rcases htm with ⟨hm, hm0⟩ | hm
      all_goals
        go_wp2_with (at_builtin; refine wpList_append_own _ rfl _ _ 46 rfl w.heap.size 5 i0 (.int .u8 0) 1 1 Tryd.underlying46 hi hz0 hz1 hz2 rfl (by decide) _ _ _ rfl (ownsRow_lit hsz) ⟨g, 0, none⟩ ds.length cap (Lib.byteCells ds) rfl (by simp [Lib.byteCells]) (fun j u hj => Gro.cell ((Gro.refl _).alloc _) (HC.out j u hj)) (by intro u hu; simp [Lib.byteCells] at hu; obtain ⟨x, -, rfl⟩ := hu; rfl) (by unfold maxLen; omega) (by omega) (by simp; omega) ?_)
        intro v' w' hown hgrow hnn
        have hne : v' ≠ .slice none 0 0 := fun e => by simp [e] at hnn
        have hg' : Gro w w' := RowKit.Below.grown (Gro.alloc hg _) hgrow (by simp; omega) (fun k hk => by simp [Value.ownBlock] at hk; omega)
        have e1 : 1 + ds.length = (UInt8.ofNat (48 + D) :: ds).length := by simp; omega
        have e2 : Value.int .u8 (48 + (D : Int)) :: Lib.byteCells ds = Lib.byteCells (UInt8.ofNat (48 + D) :: ds) := byte_cons hD9 ds
        rw [e1, e2] at hown
        have HO := Lib.hid (ByteRow.grow hown hg' hne)
        clear hown hgrow hnn e1 e2
        go_wp2
        go_roundw
        case rel => exact ⟨r.tdiv 10, UInt8.ofNat (48 + D) :: ds, rfl, hrq.1, hrq.2, by rw [HD.out]; exact hstep.out, HO.out⟩
        case measure =>
          obtain ⟨g', cap', rfl, -⟩ := HO.out
          have hx := HX.out
          have hq := natAbs_tdiv r
          dsimp only [intOf, lenOf, List.length_cons]
          rw [hq]
          omega
    · obtain ⟨rfl, hne⟩ : r = 0 ∧ ds ≠ [] := Decidable.not_not.1 hdone
      have hend := decInv_end HI.out hne
      have hb1 : ((ds.length : Int) == 0) = false := by simp [hne]
      have hsz := hg.size
      have HN := Lib.hid hne
      clear hdone hne
      by_cases hn : n < 0
      · have hit : Lib.itoa n = 45 :: ds := by rw [← hend]; unfold Lib.itoa; rw [if_pos hn]
        have HT := Lib.hid hit
        clear hend hit
        go_wp2_with (at_builtin; refine wpList_append_own _ rfl _ _ 46 rfl w.heap.size 5 i0 (.int .u8 0) 1 1 Tryd.underlying46 hi hz0 hz1 hz2 rfl (by decide) _ _ _ rfl (ownsRow_lit hsz) ⟨g, 0, none⟩ ds.length cap (Lib.byteCells ds) rfl (by simp [Lib.byteCells]) (fun j u hj => Gro.cell ((Gro.refl _).alloc _) (HC.out j u hj)) (by intro u hu; simp [Lib.byteCells] at hu; obtain ⟨x, -, rfl⟩ := hu; rfl) (by unfold maxLen; omega) (by omega) (by simp; omega) ?_)
        intro v' w' hown hgrow hnn
        have hne : v' ≠ .slice none 0 0 := fun e => by simp [e] at hnn
        have hg' : Gro w w' := RowKit.Below.grown (Gro.alloc hg _) hgrow (by simp; omega) (fun k hk => by simp [Value.ownBlock] at hk; omega)
        have e1 : 1 + ds.length = (45 :: ds).length := by simp; omega
        have e2 : Value.int .u8 45 :: Lib.byteCells ds = Lib.byteCells (45 :: ds) := rfl
        rw [e1, e2] at hown
        obtain ⟨g', cap', rfl, hc', -⟩ := ByteRow.grow hown hg' hne
        obtain ⟨l, hl⟩ : ∃ l, l = (45 : UInt8) :: ds := ⟨_, rfl⟩
        rw [← hl] at hc' HT ⊢
        clear hown hgrow hnn e1 e2 hne
        have hcv := run_convert_bytes_back (P := Tryd.prog) w' 46 9 5 ⟨g', 0, none⟩ cap' l Tryd.underlying46 Tryd.underlying5 Tryd.underlying9 (fun j hj => hc' j _ (by simp [Lib.byteCells, hj]))
        clear hl hc'
        go_wp2
        go_ret
        rw [HT.out]
        exact ⟨rfl, hg'⟩
      · have hit : Lib.itoa n = ds := by
          rw [← hend]; unfold Lib.itoa; rw [if_neg hn]; congr 1; omega
        have HT := Lib.hid hit
        have hcv := run_convert_bytes_back (P := Tryd.prog) wr 46 9 5 ⟨g, 0, none⟩ cap ds Tryd.underlying46 Tryd.underlying5 Tryd.underlying9 (fun j hj => HC.out j _ (by simp [Lib.byteCells, hj]))
        clear hend hit
        go_wp2
        go_ret
        rw [HT.out]
        exact ⟨rfl, hg⟩

-- @has l01Text
set_option maxHeartbeats 1000000 in
theorem l01Text_c (a : Option Addr) (len cap : Nat) (Z : Nat → Int) (w : World) (h : SlI .i64 w a len Z) (hz : ∀ j, j < len → -9223372036854775808 ≤ Z j ∧ Z j ≤ 9223372036854775807) (hl : len ≤ 64) :
    Calls Tryd.prog 22 #[.slice a len cap] w fun e w' => e = .returned (.string (textR Z len)) ∧ Gro w w' := by
  have hm := h.1
  unfold maxLen at hm
  have HZ := Lib.hid hz
  clear hz
  by_cases h0 : len = 0
  · subst h0
    go_enter Tryd.func22, Tryd.ntmps22
    go_wp2
    go_ret
    exact ⟨rfl, Gro.refl _⟩
  have h0' : ((len : Int) == 0) = false := by simp [h0]
  obtain ⟨b1, o1, rfl, hc1⟩ := h.2 (by omega)
  have c0 := hc1 0 (by omega)
  have c0' : w.cell? ⟨b1, o1, none⟩ = some (.int .i64 (Z 0)) := c0
  have HC := Lib.hid hc1
  clear hc1 h
  go_enter Tryd.func22, Tryd.ntmps22
  go_wp2_with (go_at_call 19; refine (l01Dec_c _ (HZ.out 0 (by omega)).1 (HZ.out 0 (by omega)).2 _).mono ?_; rintro e w1 ⟨rfl, hg0⟩)
  go_loopw [3, 4] (fun s i wr => ∃ k : Nat, 1 ≤ k ∧ k ≤ len ∧ i = .int .i64 (k : Int) ∧ s = .string ⟨(txtC Z k).toArray⟩ ∧ Gro w wr) (fun _ i _ => len - (intOf i).toNat)
  case atStart => exact ⟨1, Nat.le_refl _, by omega, rfl, rfl, hg0⟩
  case round =>
    obtain ⟨k, h1, hk, rfl, rfl, hg⟩ := hrel
    by_cases hlt : k < len
    · have c1 := hg.cell (HC.out k hlt)
      have L1 := Lib.itoa_length_le (Z k) (HZ.out k hlt).1 (HZ.out k hlt).2
      have L2 := txtC_len Z k (fun j hj => Lib.itoa_length_le (Z j) (HZ.out j (by omega)).1 (HZ.out j (by omega)).2)
      have HT := Lib.hid (show txtC Z (k + 1) = txtC Z k ++ (44 :: Lib.itoa (Z k)) by rw [txtC, if_neg (by omega)])
      go_wp2_with (go_at_call 19; refine (l01Dec_c _ (HZ.out k hlt).1 (HZ.out k hlt).2 _).mono ?_; rintro e w1 ⟨rfl, hg2⟩)
      go_roundw
      case rel => exact ⟨k + 1, by omega, by omega, by go_num, by rw [HT.out, ← text_app], Gro.trans hg hg2⟩
      case measure => simp [intOf]; omega
    · obtain rfl : k = len := by omega
      go_wp2
      go_ret
      exact ⟨by unfold textR; rw [if_neg h0]; rfl, hg⟩

-- @has Decimal
theorem specDecimal_c (n : Int) (h0 : -9223372036854775808 ≤ n) (h1 : n ≤ 9223372036854775807) (w : World) :
    Calls Tryd.prog 7 #[.int .i64 n] w fun e w' => e = .returned (.string ⟨(Lib.itoa n).toArray⟩) ∧ Gro w w' := by
  go_enter Tryd.func7, Tryd.ntmps7
  go_wp2_with (go_at_call 19; refine (l01Dec_c _ h0 h1 _).mono ?_; rintro e w1 ⟨rfl, hg⟩)
  go_ret
  exact ⟨rfl, hg⟩
theorem implDecimal_c (n : Int) (h0 : -9223372036854775808 ≤ n) (h1 : n ≤ 9223372036854775807) (w : World) (htab : Lib.TabIs Tryd.prog w "internal/strconv.uint64pow10" .u64 Lib.pow10Tab) :
    Calls Tryd.prog 8 #[.int .i64 n] w fun e w' => e = .returned (.string ⟨(Lib.itoa n).toArray⟩) ∧ Gro w w' := by
  go_enter Tryd.func8, Tryd.ntmps8
  go_wp2_with (go_at_call 20; refine (Tryd.strconv_FormatInt_10 _ h0 h1 _ htab).mono ?_; rintro e w1 ⟨rfl, k, os, rfl⟩)
  go_ret
  exact ⟨rfl, Lib.below_grow _ _ (Nat.le_refl _) _ _⟩

-- @has within
theorem within_true (n a b : Int) (h1 : a ≤ n) (h2 : n ≤ b) (w : World) : Calls Tryd.prog 27 #[.int .i64 n, .int .i64 a, .int .i64 b] w (RetV (.bool true) w) := by
  go_enter Tryd.func27, Tryd.ntmps27
  go_wp2
  go_ret
  exact ⟨0, rfl, rfl⟩
theorem within_false (n a b : Int) (h : n < a ∨ b < n) (w : World) : Calls Tryd.prog 27 #[.int .i64 n, .int .i64 a, .int .i64 b] w (RetV (.bool false) w) := by
  by_cases h1 : a ≤ n
  · have h2 : ¬ n ≤ b := by omega
    go_enter Tryd.func27, Tryd.ntmps27
    go_wp2
    go_ret
    exact ⟨0, rfl, rfl⟩
  · go_enter Tryd.func27, Tryd.ntmps27
    go_wp2
    go_ret
    exact ⟨0, rfl, rfl⟩

-- @has isList
set_option maxHeartbeats 800000 in
theorem isListF_c (n : Int) (w : World) : Calls Tryd.prog 33 #[.int .i64 n] w (RetV (.bool (!decide (inR n))) w) := by
  by_cases h : inR n
  · rw [decide_eq_true h]
    unfold inR at h
    go_enter Tryd.func33, Tryd.ntmps33
    go_wp2_with (go_at_call 27; refine (within_true _ _ _ h.1 h.2 _).mono ?_; rintro e w1 ⟨m, rfl, rfl⟩)
    go_ret
    exact ⟨_, rfl, rfl⟩
  · rw [decide_eq_false h]
    have HI : Hid (n < -1000000000000000 ∨ 1000000000000000 < n) := Lib.hid (by unfold inR at h; omega)
    clear h
    go_enter Tryd.func33, Tryd.ntmps33
    go_wp2_with (go_at_call 27; refine (within_false _ _ _ HI.out _).mono ?_; rintro e w1 ⟨m, rfl, rfl⟩)
    go_ret
    exact ⟨_, rfl, rfl⟩
set_option maxHeartbeats 800000 in
theorem indexF_c (a : Option Addr) (len ca : Nat) (Z : Nat → Int) (w : World) (h1 : SlI .i64 w a len Z) :
    Calls Tryd.prog 43 #[.slice a len ca, .func (.func 33) #[] #[]] w fun e w' => ∃ (r : Int) (n : Nat), e = .returned (.int .i64 r) ∧ (0 ≤ r ↔ allIn Z len = false) ∧ w' = w.drewN n := by
  have hm := h1.1
  unfold maxLen at hm
  go_enter Tryd.func43, Tryd.ntmps43
  go_wp2
  go_loopw [8] (fun i wr => ∃ k n : Nat, k ≤ len ∧ i = .int .i64 k ∧ allIn Z k = true ∧ wr = w.drewN n) (fun i _ => len - (intOf i).toNat)
  case atStart => exact ⟨0, 0, Nat.zero_le _, rfl, rfl, rfl⟩
  case round =>
    obtain ⟨k, n, hk, rfl, hq, rfl⟩ := hrel
    have hq' := Lib.hid hq
    clear hq
    by_cases hlt : k < len
    · obtain ⟨b1, o1, rfl, hc1⟩ := h1.2 (by omega)
      have c0 : w.cell? ⟨b1, o1 + k, none⟩ = some (.int .i64 (Z k)) := hc1 k hlt
      clear hc1 h1
      cases hs : decide (inR (Z k))
      · have hs' := Lib.hid (of_decide_eq_false hs)
        go_wp2_with (go_at_call 33; refine (isListF_c _ _).mono ?_; rw [decide_eq_false hs'.out]; rintro e w1 ⟨m, rfl, rfl⟩)
        go_ret
        exact ⟨_, _, rfl, by simp [allIn_false hs'.out _ hlt], rfl⟩
      · have hs' := Lib.hid (of_decide_eq_true hs)
        go_wp2_with (go_at_call 33; refine (isListF_c _ _).mono ?_; rw [decide_eq_true hs'.out]; rintro e w1 ⟨m, rfl, rfl⟩)
        go_roundw
        case rel => exact ⟨k + 1, _, by omega, by go_num, allIn_snoc hq'.out hs'.out, rfl⟩
        case measure => simp [intOf]; omega
    · have : k = len := by omega
      subst this
      go_wp2
      go_ret
      exact ⟨_, n, rfl, by simp [hq'.out], rfl⟩
theorem containsF_c (a : Option Addr) (len ca : Nat) (Z : Nat → Int) (w : World) (h1 : SlI .i64 w a len Z) :
    Calls Tryd.prog 32 #[.slice a len ca, .func (.func 33) #[] #[]] w (RetV (.bool (!allIn Z len)) w) := by
  cases hq : allIn Z len
  · have hq' := Lib.hid hq
    go_enter Tryd.func32, Tryd.ntmps32
    go_wp2_with (go_at_call 43; refine (indexF_c _ _ _ _ _ h1).mono ?_; rintro e w1 ⟨r, n, rfl, hr, rfl⟩; have h0 : 0 ≤ r := hr.2 hq'.out)
    go_ret
    exact ⟨_, rfl, rfl⟩
  · have hq' := Lib.hid hq
    go_enter Tryd.func32, Tryd.ntmps32
    go_wp2_with (go_at_call 43; refine (indexF_c _ _ _ _ _ h1).mono ?_; rintro e w1 ⟨r, n, rfl, hr, rfl⟩; have h0 : ¬ 0 ≤ r := fun h => by rw [hr.1 h] at hq'; exact absurd hq'.out (by decide))
    go_ret
    exact ⟨_, rfl, rfl⟩
theorem implisList_c (a : Option Addr) (len ca : Nat) (Z : Nat → Int) (w : World) (h1 : SlI .i64 w a len Z) :
    Calls Tryd.prog 23 #[.slice a len ca] w (RetV (.bool (lstOk Z len)) w) := by
  have hm := h1.1
  unfold maxLen at hm
  unfold lstOk
  by_cases h64 : len ≤ 64
  · have h64' : (len : Int) ≤ 64 := by omega
    rw [decide_eq_true h64, Bool.and_true]
    cases hq : allIn Z len
    all_goals
      have hq' := Lib.hid hq
      go_enter Tryd.func23, Tryd.ntmps23
      go_wp2_with (go_at_call 32; refine (containsF_c _ _ _ _ _ h1).mono ?_; rw [hq'.out]; rintro e w1 ⟨n, rfl, rfl⟩)
      go_ret
      exact ⟨_, rfl, rfl⟩
  · have h64' : ¬ (len : Int) ≤ 64 := by omega
    rw [decide_eq_false h64, Bool.and_false]
    go_enter Tryd.func23, Tryd.ntmps23
    go_wp2
    go_ret
    exact ⟨0, rfl, rfl⟩

-- @has implListText
theorem info_str : (Tryd.prog.info? 9).map (fun i => (i.zero, i.size, i.bytes)) = some (some (.string ByteArray.empty), 1, 16) := by kernel_rfl
theorem joined_c (g cap : Nat) (xs : List ByteArray) (w : World) (hc : ∀ (j : Nat) x, xs[j]? = some x → w.cell? ⟨g, 0 + j, none⟩ = some (.string x)) (hg : g < w.heap.size) (hN : xs.length ≤ 1000) (hcap : xs.length ≤ cap) (hlen : (Lib.join (xs.map (·.data.toList)) [44]).length ≤ 140737488355328) :
    Calls Tryd.prog 24 #[.slice (some ⟨g, 0, none⟩) xs.length cap] w fun e w' => e = .returned (.string (if xs.length = 0 then noneB else ⟨(Lib.join (xs.map (·.data.toList)) [44]).toArray⟩)) ∧ Gro w w' := by
  by_cases h0 : xs.length = 0
  · have hb : ((xs.length : Int) == 0) = true := by simp [h0]
    rw [if_pos h0]
    go_enter Tryd.func24, Tryd.ntmps24
    go_wp2
    go_ret
    exact ⟨rfl, Gro.refl _⟩
  · have hb : ((xs.length : Int) == 0) = false := by simpa using h0
    rw [if_neg h0]
    have J := Lib.hid (Tryd.strings_Join g 0 cap xs ⟨#[44]⟩ w hc hg (by omega) hcap hlen)
    clear hc hlen
    go_enter Tryd.func24, Tryd.ntmps24
    go_wp2_with (go_at_call 34; refine J.out.mono ?_; rintro e w1 ⟨rfl, hb1⟩)
    go_ret
    exact ⟨rfl, hb1⟩
set_option maxRecDepth 100000 in
set_option maxHeartbeats 2000000 in
theorem implListText_c (a : Option Addr) (len ca : Nat) (Z : Nat → Int) (w : World) (h1 : SlI .i64 w a len Z) (htab : Lib.TabIs Tryd.prog w "internal/strconv.uint64pow10" .u64 Lib.pow10Tab) :
    Calls Tryd.prog 11 #[.slice a len ca] w fun e w' => e = .returned (.tuple #[.string (if lstOk Z len = true then textR Z len else ⟨#[]⟩), .bool (lstOk Z len)]) ∧ Gro w w' := by
  obtain ⟨i0, hi, hz0, hz1, hz2⟩ := info_parts info_str
  have hm := h1.1
  unfold maxLen at hm
  have hT := Lib.tabBelow_of_tabIs htab
  cases hq : lstOk Z len
  · have hq' := Lib.hid hq
    rw [if_neg (by decide)]
    go_enter Tryd.func11, Tryd.ntmps11
    go_wp2_with (go_at_call 23; refine (implisList_c _ _ _ _ _ h1).mono ?_; rw [hq'.out]; rintro e w1 ⟨n, rfl, rfl⟩)
    all_goals
      go_ret2
      exact ⟨rfl, Gro.drewN (Gro.refl _) _⟩
  have hq' := Lib.hid hq
  rw [if_pos rfl]
  obtain ⟨hall, hl64⟩ : (∀ j, j < len → inR (Z j)) ∧ len ≤ 64 := lstOk_all hq
  have HA := Lib.hid hall
  clear hall hq htab
  go_enter Tryd.func11, Tryd.ntmps11
  go_wp2_with (go_at_call 23; refine (implisList_c _ _ _ _ _ h1).mono ?_; rw [hq'.out]; rintro e w1 ⟨n, rfl, rfl⟩)
  go_loopw [4, 13] (fun v i wr => ∃ k : Nat, k ≤ len ∧ i = .int .i64 (k : Int) ∧ wr.ownsRow w.heap.size 9 1 v k ((ws Z k).map Value.string) ∧ v ≠ .slice none 0 0 ∧ Gro w wr) (fun _ i _ => len - (intOf i).toNat)
  case atStart => exact ⟨0, Nat.zero_le _, rfl, ownsRow_empty (Nat.le_refl _), by simp, (Gro.drewN (Gro.refl _) _).alloc _⟩
  case round =>
    obtain ⟨k, hk, rfl, hown, hne, hg⟩ := hrel
    by_cases hlt : k < len
    · obtain ⟨b1, o1, rfl, hc1⟩ := h1.2 (by omega)
      have c0 : wr.cell? ⟨b1, o1 + k, none⟩ = some (.int .i64 (Z k)) := hg.cell (hc1 k hlt)
      have hin := HA.out k hlt
      unfold inR at hin
      have hzk : -9223372036854775808 ≤ Z k ∧ Z k ≤ 9223372036854775807 := by omega
      have hsz := hg.size
      clear hc1
      go_wp2_with (first | (go_at_call 8; refine (implDecimal_c _ hzk.1 hzk.2 _ (hT _ hg)).mono ?_; rintro e w1 ⟨rfl, hg2⟩) | (at_builtin; refine wpList_append_own _ rfl _ _ 38 rfl w.heap.size 9 i0 (.string ByteArray.empty) 1 16 Tryd.underlying38 hi hz0 hz1 hz2 rfl (by decide) _ _ _ rfl ((own_gro hown hg2).alloc _) ⟨w1.heap.size, 0, none⟩ 1 1 [.string ⟨(Lib.itoa (Z k)).toArray⟩] rfl rfl (cell_new1 _ _ _) (fun x hx => by simp at hx; subst hx; rfl) (by unfold maxLen; omega) (by omega) (by have := hg2.size; simp; omega) ?_))
      intro v' w' hown' hgrow hnn
      have hne' : v' ≠ .slice none 0 0 := fun e => by simp [e] at hnn
      have hg' : Gro w w' := RowKit.Below.grown (Gro.alloc (Gro.trans hg hg2) _) hgrow (by have := hg2.size; simp; omega) (fun j hj => (World.ownsRow.lt hown j hj).1)
      have e1 : (ws Z k).map Value.string ++ [.string ⟨(Lib.itoa (Z k)).toArray⟩] = (ws Z (k + 1)).map Value.string := by rw [ws_snoc, List.map_append]; rfl
      rw [e1] at hown'
      have HO := Lib.hid hown'
      have HN := Lib.hid hne'
      have HG := Lib.hid hg'
      clear hown' hgrow hnn hne' hg' e1 hown hne
      go_wp2
      go_roundw
      case rel => exact ⟨k + 1, by omega, by go_num, HO.out, HN.out, HG.out⟩
      case measure => simp [intOf]; omega
    · obtain rfl : k = len := by omega
      rcases hown.2 with ⟨e, -⟩ | ⟨g, cap, cur, rfl, hbg, hcur, hkc, -⟩
      · exact absurd e hne
      have hlt2 := (Array.getElem?_eq_some_iff.1 hcur).1
      have hlen := ws_len Z k
      have hcells : ∀ (j : Nat) x, (ws Z k)[j]? = some x → wr.cell? ⟨g, 0 + j, none⟩ = some (.string x) := fun j x hj => by
        have := hown.cells (g := g) rfl j (.string x) (by rw [List.getElem?_map, hj]; rfl)
        rw [Go.WideShapes.add_plain] at this
        exact this
      have hj := join_ws Z k
      have hbd := txtC_len Z k (fun j hj => Lib.itoa_length_le (Z j) (by have := HA.out j hj; unfold inR at this; omega) (by have := HA.out j hj; unfold inR at this; omega))
      have J := joined_c g cap (ws Z k) wr hcells hlt2 (by omega) (by omega) (by rw [hj]; omega)
      rw [hlen, hj] at J
      change Calls _ _ _ _ (fun e w' => e = .returned (.string (textR Z k)) ∧ Gro wr w') at J
      have HJ := Lib.hid J
      clear J hcells hcur hown hlen hj hbd
      go_wp2_with (go_at_call 24; refine HJ.out.mono ?_; rintro e w1 ⟨rfl, hg2⟩)
      go_ret2
      exact ⟨rfl, Gro.trans hg hg2⟩

-- @has FnExactListText
set_option maxHeartbeats 1000000 in
theorem specListText_c (a : Option Addr) (len cap : Nat) (Z : Nat → Int) (w : World) (h : SlI .i64 w a len Z) :
    Calls Tryd.prog 9 #[.slice a len cap] w fun e w' => e = .returned (.tuple #[.string (if lstOk Z len = true then textR Z len else ⟨#[]⟩), .bool (lstOk Z len)]) ∧ Gro w w' := by
  cases hq : lstOk Z len
  · have hq' := Lib.hid hq
    rw [if_neg (by decide)]
    go_enter Tryd.func9, Tryd.ntmps9
    go_wp2_with (go_at_call 21; refine (l01List_c _ _ _ _ _ h).mono ?_; rw [hq'.out]; rintro e w1 ⟨n, rfl, rfl⟩)
    all_goals
      go_ret2
      exact ⟨rfl, Gro.drewN (Gro.refl _) _⟩
  have hq' := Lib.hid hq
  rw [if_pos rfl]
  obtain ⟨hall, hl64⟩ := lstOk_all hq
  have HZ : Hid (∀ j, j < len → -9223372036854775808 ≤ Z j ∧ Z j ≤ 9223372036854775807) := Lib.hid fun j hj => by have := hall j hj; unfold inR at this; omega
  clear hall hq
  go_enter Tryd.func9, Tryd.ntmps9
  go_wp2_with (first | (go_at_call 21; refine (l01List_c _ _ _ _ _ h).mono ?_; rw [hq'.out]; rintro e w1 ⟨n, rfl, rfl⟩) | (go_at_call 22; refine (l01Text_c _ _ _ _ _ (h.keep (by repeat (first | with_reducible exact Gro.refl _ | with_reducible apply Gro.drewN | with_reducible apply Gro.drew | with_reducible apply Gro.alloc | with_reducible refine Gro.setCell ?_ (by dsimp only; omega) _ | refine Gro.trans ?_ (by assumption)))) HZ.out hl64).mono ?_; rintro e w1 ⟨rfl, hg⟩))
  all_goals
    go_ret2
    exact ⟨rfl, Gro.trans (Gro.drewN (Gro.refl _) _) hg⟩
set_option maxHeartbeats 2000000 in
theorem walk_FnExactListText (w : World) (a : Option Addr) (len cap : Nat) (zs : List Int) (h : IsInts .i64 w a len cap zs) (htab : Lib.TabIs Tryd.prog w "internal/strconv.uint64pow10" .u64 Lib.pow10Tab) :
    Calls Tryd.prog 4 #[.slice a len cap] w fun e w' => e = .returned (.bool true) ∧ Below w.heap.size w w' := by
  have hS := SlI.of h
  have hm := hS.1
  unfold maxLen at hm
  clear h
  by_cases hl : 1048576 < len
  · have hl' : (1048576 : Int) < len := by omega
    clear htab hS
    go_enter Tryd.func4, Tryd.ntmps4
    go_wp2
    all_goals
      go_ret
      exact ⟨rfl, Below.refl _ _⟩
  have hl' : ¬ (1048576 : Int) < len := by omega
  have hle : len ≤ 1048576 := by omega
  have hT := Lib.tabBelow_of_tabIs htab
  clear htab hm
  go_enter Tryd.func4, Tryd.ntmps4
  go_wp2_with (first | (go_at_call 10; refine (toInt64S_c _ _ _ _ _ (hS.keep (by repeat (first | with_reducible exact Gro.refl _ | with_reducible apply Gro.drewN | with_reducible apply Gro.drew | with_reducible apply Gro.alloc | with_reducible refine Gro.setCell ?_ (by dsimp only; omega) _ | refine Gro.trans ?_ (by assumption)))) hle).mono ?_; rintro e w1 ⟨g, rfl, hs, hg⟩) | (go_at_call 9; refine (specListText_c _ _ _ _ _ (SlI.keep (by assumption) (by repeat (first | with_reducible exact Gro.refl _ | with_reducible apply Gro.drewN | with_reducible apply Gro.drew | with_reducible apply Gro.alloc | with_reducible refine Gro.setCell ?_ (by dsimp only; omega) _ | refine Gro.trans ?_ (by assumption))))).mono ?_; rintro e w1 ⟨rfl, hg⟩) | (go_at_call 11; refine (implListText_c _ _ _ _ _ (SlI.keep (by assumption) (by repeat (first | with_reducible exact Gro.refl _ | with_reducible apply Gro.drewN | with_reducible apply Gro.drew | with_reducible apply Gro.alloc | with_reducible refine Gro.setCell ?_ (by dsimp only; omega) _ | refine Gro.trans ?_ (by assumption)))) (hT _ (by repeat (first | with_reducible exact Gro.refl _ | with_reducible apply Gro.drewN | with_reducible apply Gro.drew | with_reducible apply Gro.alloc | with_reducible refine Gro.setCell ?_ (by dsimp only; omega) _ | refine Gro.trans ?_ (by assumption))))).mono ?_; rintro e w1 ⟨rfl, hg⟩) | (go_at_call 12; refine (eqInt64S_true _ _ _ _ _ _ _ (SlI.keep (by assumption) (by repeat (first | with_reducible exact Gro.refl _ | with_reducible apply Gro.drewN | with_reducible apply Gro.drew | with_reducible apply Gro.alloc | with_reducible refine Gro.setCell ?_ (by dsimp only; omega) _ | refine Gro.trans ?_ (by assumption)))) (by assumption)).mono ?_; rintro e w1 ⟨n, rfl, rfl⟩))
  all_goals
    go_ret
    exact ⟨rfl, by show Gro w _; (repeat (first | with_reducible exact Gro.refl _ | with_reducible apply Gro.drewN | with_reducible apply Gro.drew | refine Gro.trans ?_ (by assumption)))⟩

end Go.Proofs.YtjigmdfgmbdcmaaDoor
