/- Contracts of Go functions: what each returns, as a class of words, whatever the world. -/
import Derived.Test.YtjigmdfgmbdcmaaDoorRdd
import Derived.Test.YtjigmdfgmbdcmaaDoorShe
import Derived.Test.YtjigmdfgmbdcmaaDoorProg
import Derived.BigQuiet
import Derived.Deep.QuietTactic
import Derived.Deep.RegionHeld3
import Derived.Deep.DeepFit
import Derived.WalkSpells
import Derived.Lib.Hide
import Derived.WalkSmall
import Derived.Deep.DeepCutAuto
namespace Go.Proofs.YtjigmdfgmbdcmaaDoor
open Go.RowKit Go.Fl

-- @has l01Dec
theorem info_u8 : (Tryd.prog.info? 5).map (fun i => (i.zero, i.size, i.bytes)) = some (some (.int .u8 0), 1, 1) := by kernel_rfl
set_option maxRecDepth 100000 in
set_option maxHeartbeats 2000000 in
theorem l01Dec_c (n : Int) (h0 : -9223372036854775808 ≤ n) (h1 : n ≤ 9223372036854775807) (w : World) :
    Calls Tryd.prog 19 #[.int .i64 n] w fun e w' => e = .returned (.string ⟨(Lib.itoa n).toArray⟩) ∧ Gro w w' := by
  obtain ⟨i0, hi, hz0, hz1, hz2⟩ := info_parts info_u8
  go_enter Tryd.func19, Tryd.ntmps19
  go_wp2
  have hu20 : Lib.nDigits n.natAbs ≤ 20 := nDigits_20 h0 h1
  go_loopw [3, 4] (fun out rest wr => ∃ r ds, rest = .int .i64 r ∧ -9223372036854775808 ≤ r ∧ r ≤ 9223372036854775807 ∧ decInv n.natAbs r ds ∧ ByteRow w wr out ds) (fun out rest _ => (intOf rest).natAbs + (1 - lenOf out))
  case atStart => exact ⟨n, [], rfl, h0, h1, decInv_start n, w.heap.size, 0, rfl, fun j u hj => by simp [Lib.byteCells] at hj, (Gro.refl w).alloc _⟩
  case round =>
    obtain ⟨r, ds, rfl, r0, r1, hinv, g, cap, rfl, hc, hg⟩ := hrel
    have hlen := decInv_len hinv
    have HI := Lib.hid hinv
    have HC := Lib.hid hc
    clear hinv hc
    by_cases hdone : ¬ (r = 0 ∧ ds ≠ [])
    · obtain ⟨D, hD⟩ : ∃ D : Nat, D = r.natAbs % 10 := ⟨_, rfl⟩
      have hD9 : D ≤ 9 := by omega
      have htm := tmod_cases r
      rw [← hD] at htm
      have HD := Lib.hid hD
      have hstep := Lib.hid (decInv_step HI.out hdone)
      have hrq := tdiv_in r0 r1
      have hsz := hg.size
      clear hD
      have hdone' := Lib.hid hdone
      have HX : Hid (ds.length = 0 ∨ r ≠ 0) := Lib.hid (by
        by_cases e : ds = []
        · left; rw [e]; rfl
        · exact .inr fun h => hdone'.out ⟨h, e⟩)
      clear hdone
      have hdisj : ((ds.length : Int) == 0) = true ∨ (((ds.length : Int) == 0) = false ∧ (r != 0) = true) := by
        by_cases e : ds = []
        · left; rw [e]; rfl
        · exact .inr ⟨by simp [e], by simpa using fun h => hdone'.out ⟨h, e⟩⟩
      rcases hdisj with hl0 | ⟨hl0, hr0⟩
      all_goals rcases htm with ⟨hm, hm0⟩ | hm
      all_goals
        go_wp2_with (at_builtin; refine wpList_append_own _ rfl _ _ 46 rfl w.heap.size 5 i0 (.int .u8 0) 1 1 Tryd.underlying46 hi hz0 hz1 hz2 rfl (by decide) _ _ _ rfl (ownsRow_lit hsz) ⟨g, 0, none⟩ ds.length cap (Lib.byteCells ds) rfl (by simp [Lib.byteCells]) (fun j u hj => Gro.cell ((Gro.refl _).alloc _) (HC.out j u hj)) (by intro u hu; simp [Lib.byteCells] at hu; obtain ⟨x, -, rfl⟩ := hu; rfl) (by unfold maxLen; omega) (by omega) (by simp; omega) ?_)
        intro v' w' hown hgrow hnn
        have hne : v' ≠ .slice none 0 0 := fun e => by simp [e] at hnn
        have hg' : Gro w w' := RowKit.Below.grown (Gro.alloc hg _) hgrow (by simp; omega) (fun k hk => by simp [Value.ownBlock] at hk; omega)
        have e1 : 1 + ds.length = (UInt8.ofNat (48 + D) :: ds).length := by simp; omega
        have e2 : Value.int .u8 (48 + (D : Int)) :: Lib.byteCells ds = Lib.byteCells (UInt8.ofNat (48 + D) :: ds) := byte_cons hD9 ds
        rw [e1, e2] at hown
        have HO := Lib.hid (ByteRow.grow hown hg' hne)
        clear hown hgrow hnn e1 e2
        go_wp2
        go_roundw
        case rel => exact ⟨r.tdiv 10, UInt8.ofNat (48 + D) :: ds, rfl, hrq.1, hrq.2, by rw [HD.out]; exact hstep.out, HO.out⟩
        case measure =>
          obtain ⟨g', cap', rfl, -⟩ := HO.out
          have hx := HX.out
          have hq := natAbs_tdiv r
          dsimp only [intOf, lenOf, List.length_cons]
          rw [hq]
          omega
    · obtain ⟨rfl, hne⟩ : r = 0 ∧ ds ≠ [] := Decidable.not_not.1 hdone
      have hend := decInv_end HI.out hne
      have hb1 : ((ds.length : Int) == 0) = false := by simp [hne]
      have hsz := hg.size
      have HN := Lib.hid hne
      clear hdone hne
      by_cases hn : n < 0
      · have hit : Lib.itoa n = 45 :: ds := by rw [← hend]; unfold Lib.itoa; rw [if_pos hn]
        have HT := Lib.hid hit
        clear hend hit
        go_wp2_with (at_builtin; refine wpList_append_own _ rfl _ _ 46 rfl w.heap.size 5 i0 (.int .u8 0) 1 1 Tryd.underlying46 hi hz0 hz1 hz2 rfl (by decide) _ _ _ rfl (ownsRow_lit hsz) ⟨g, 0, none⟩ ds.length cap (Lib.byteCells ds) rfl (by simp [Lib.byteCells]) (fun j u hj => Gro.cell ((Gro.refl _).alloc _) (HC.out j u hj)) (by intro u hu; simp [Lib.byteCells] at hu; obtain ⟨x, -, rfl⟩ := hu; rfl) (by unfold maxLen; omega) (by omega) (by simp; omega) ?_)
        intro v' w' hown hgrow hnn
        have hne : v' ≠ .slice none 0 0 := fun e => by simp [e] at hnn
        have hg' : Gro w w' := RowKit.Below.grown (Gro.alloc hg _) hgrow (by simp; omega) (fun k hk => by simp [Value.ownBlock] at hk; omega)
        have e1 : 1 + ds.length = (45 :: ds).length := by simp; omega
        have e2 : Value.int .u8 45 :: Lib.byteCells ds = Lib.byteCells (45 :: ds) := rfl
        rw [e1, e2] at hown
        obtain ⟨g', cap', rfl, hc', -⟩ := ByteRow.grow hown hg' hne
        obtain ⟨l, hl⟩ : ∃ l, l = (45 : UInt8) :: ds := ⟨_, rfl⟩
        rw [← hl] at hc' HT ⊢
        clear hown hgrow hnn e1 e2 hne
        have hcv := run_convert_bytes_back (P := Tryd.prog) w' 46 9 5 ⟨g', 0, none⟩ cap' l Tryd.underlying46 Tryd.underlying5 Tryd.underlying9 (fun j hj => hc' j _ (by simp [Lib.byteCells, hj]))
        clear hl hc'
        go_wp2
        go_ret
        rw [HT.out]
        exact ⟨rfl, hg'⟩
      · have hit : Lib.itoa n = ds := by
          rw [← hend]; unfold Lib.itoa; rw [if_neg hn]; congr 1; omega
        have HT := Lib.hid hit
        have hcv := run_convert_bytes_back (P := Tryd.prog) wr 46 9 5 ⟨g, 0, none⟩ cap ds Tryd.underlying46 Tryd.underlying5 Tryd.underlying9 (fun j hj => HC.out j _ (by simp [Lib.byteCells, hj]))
        clear hend hit
        go_wp2
        go_ret
        rw [HT.out]
        exact ⟨rfl, hg⟩

-- @has l00In
theorem l00In_true (n a b : Int) (h1 : a ≤ n) (h2 : n ≤ b) (w : World) : Calls Tryd.prog 31 #[.int .i64 n, .int .i64 a, .int .i64 b] w (RetV (.bool true) w) := by
  go_enter Tryd.func31, Tryd.ntmps31
  go_wp2
  go_ret
  exact ⟨0, rfl, rfl⟩
theorem l00In_false (n a b : Int) (h : n < a ∨ b < n) (w : World) : Calls Tryd.prog 31 #[.int .i64 n, .int .i64 a, .int .i64 b] w (RetV (.bool false) w) := by
  by_cases h1 : a ≤ n
  · have h2 : ¬ n ≤ b := by omega
    go_enter Tryd.func31, Tryd.ntmps31
    go_wp2
    go_ret
    exact ⟨0, rfl, rfl⟩
  · go_enter Tryd.func31, Tryd.ntmps31
    go_wp2
    go_ret
    exact ⟨0, rfl, rfl⟩

-- @has l01Value
set_option maxRecDepth 100000 in
set_option maxHeartbeats 2000000 in
theorem l01Value_c (s : ByteArray) (w : World) (hs : s.size ≤ 1048576) :
    Calls Tryd.prog 25 #[.string s] w fun e w' => e = .returned (.tuple #[.int .i64 (rdR s.data.toList).1, .bool (rdR s.data.toList).2]) ∧ Gro w w' := by
  by_cases h1 : s.size < 1
  · have h1' : (s.size : Int) < 1 := by omega
    rw [rdR_size (.inl (by simpa using h1))]
    go_enter Tryd.func25, Tryd.ntmps25
    go_wp2
    go_ret2
    exact ⟨rfl, Gro.refl _⟩
  have h1' : ¬ (s.size : Int) < 1 := by omega
  by_cases h2 : 17 < s.size
  · have h2' : (17 : Int) < s.size := by omega
    rw [rdR_size (.inr (by simpa using h2))]
    go_enter Tryd.func25, Tryd.ntmps25
    go_wp2
    go_ret2
    exact ⟨rfl, Gro.refl _⟩
  have h2' : ¬ (17 : Int) < s.size := by omega
  go_enter Tryd.func25, Tryd.ntmps25
  go_wp2
  go_loop [4, 5] (fun m i => ∃ k : Nat, k ≤ s.size ∧ i = .int .i64 k ∧ m = .int .i64 (dval 0 (s.data.toList.take k) : Nat)) (fun _ i => s.size - (intOf i).toNat)
  case atStart => exact ⟨0, Nat.zero_le _, rfl, rfl⟩
  case round =>
    obtain ⟨k, hk, rfl, rfl⟩ := hrel
    have hb := dval_take s k (by omega)
    by_cases hlt : k < s.size
    · have HS := Lib.hid (dval_snoc s k hlt)
      have hc := byte_lt2 s[k]
      generalize dval 0 (s.data.toList.take k) = m at *
      by_cases d1 : (48 : Int) ≤ s[k].toNat
      · by_cases d2 : (s[k].toNat : Int) ≤ 57
        · have HD := Lib.hid (isDig_yes d1 d2)
          go_wp2
          go_round
          case rel => exact ⟨k + 1, by omega, by go_num, by rw [HS.out, HD.out]; go_num⟩
          case measure => simp [intOf]; omega
        · have HD := Lib.hid (isDig_no (c := s[k]) (fun h => d2 h.2))
          go_wp2
          go_round
          case rel => exact ⟨k + 1, by omega, by go_num, by rw [HS.out, HD.out]; rfl⟩
          case measure => simp [intOf]; omega
      · have HD := Lib.hid (isDig_no (c := s[k]) (fun h => d1 h.1))
        go_wp2
        go_round
        case rel => exact ⟨k + 1, by omega, by go_num, by rw [HS.out, HD.out]; rfl⟩
        case measure => simp [intOf]; omega
    · obtain rfl : k = s.size := by omega
      have hmv := mval_head s (by omega)
      have e1 : s.data.toList.take s.size = s.data.toList := List.take_of_length_le (by simp)
      rw [e1] at hb ⊢
      have hpos : 0 < s.size := by omega
      generalize dval 0 s.data.toList = D at *
      by_cases c1 : (s[0].toNat : Int) = 45
      all_goals
        first | rw [if_pos c1] at hmv | rw [if_neg c1] at hmv
      · have HM := Lib.hid hmv
        clear hmv
        by_cases hin : inR (-(D : Int))
        · have hin' := hin
          unfold inR at hin'
          by_cases he : Lib.itoa (-(D : Int)) = s.data.toList
          · have HR := Lib.hid ((rdR_in (l := s.data.toList) (by rw [HM.out]; exact hin) (by rw [HM.out]; exact he)).trans (by rw [HM.out]))
            have hse := str_eqb he
            clear he hin
            go_wp2_with (first | (go_at_call 31; refine (l00In_true _ _ _ hin'.1 hin'.2 _).mono ?_; rintro e w1 ⟨n1, rfl, rfl⟩) | (go_at_call 19; refine (l01Dec_c _ (by omega) (by omega) _).mono ?_; rintro e w1 ⟨rfl, hg⟩))
            all_goals
              go_ret2
              exact ⟨by rw [HR.out]; rfl, Gro.trans (Gro.drewN (Gro.refl _) _) hg⟩
          · have HR := Lib.hid (rdR_other (l := s.data.toList) (by rw [HM.out]; exact he))
            have hse := str_neb he
            clear he hin
            go_wp2_with (first | (go_at_call 31; refine (l00In_true _ _ _ hin'.1 hin'.2 _).mono ?_; rintro e w1 ⟨n1, rfl, rfl⟩) | (go_at_call 19; refine (l01Dec_c _ (by omega) (by omega) _).mono ?_; rintro e w1 ⟨rfl, hg⟩))
            all_goals
              go_ret2
              exact ⟨by rw [HR.out]; rfl, Gro.trans (Gro.drewN (Gro.refl _) _) hg⟩
        · have HR := Lib.hid (rdR_out (l := s.data.toList) (by rw [HM.out]; exact hin))
          have HI : Hid (-(D : Int) < -1000000000000000 ∨ 1000000000000000 < -(D : Int)) := Lib.hid (by unfold inR at hin; omega)
          clear hin
          go_wp2_with (go_at_call 31; refine (l00In_false _ _ _ HI.out _).mono ?_; rintro e w1 ⟨n1, rfl, rfl⟩)
          all_goals
            go_ret2
            exact ⟨by rw [HR.out]; rfl, Gro.drewN (Gro.refl _) _⟩
      · have HM := Lib.hid hmv
        clear hmv
        by_cases hin : inR ((D : Int))
        · have hin' := hin
          unfold inR at hin'
          by_cases he : Lib.itoa ((D : Int)) = s.data.toList
          · have HR := Lib.hid ((rdR_in (l := s.data.toList) (by rw [HM.out]; exact hin) (by rw [HM.out]; exact he)).trans (by rw [HM.out]))
            have hse := str_eqb he
            clear he hin
            go_wp2_with (first | (go_at_call 31; refine (l00In_true _ _ _ hin'.1 hin'.2 _).mono ?_; rintro e w1 ⟨n1, rfl, rfl⟩) | (go_at_call 19; refine (l01Dec_c _ (by omega) (by omega) _).mono ?_; rintro e w1 ⟨rfl, hg⟩))
            all_goals
              go_ret2
              exact ⟨by rw [HR.out]; rfl, Gro.trans (Gro.drewN (Gro.refl _) _) hg⟩
          · have HR := Lib.hid (rdR_other (l := s.data.toList) (by rw [HM.out]; exact he))
            have hse := str_neb he
            clear he hin
            go_wp2_with (first | (go_at_call 31; refine (l00In_true _ _ _ hin'.1 hin'.2 _).mono ?_; rintro e w1 ⟨n1, rfl, rfl⟩) | (go_at_call 19; refine (l01Dec_c _ (by omega) (by omega) _).mono ?_; rintro e w1 ⟨rfl, hg⟩))
            all_goals
              go_ret2
              exact ⟨by rw [HR.out]; rfl, Gro.trans (Gro.drewN (Gro.refl _) _) hg⟩
        · have HR := Lib.hid (rdR_out (l := s.data.toList) (by rw [HM.out]; exact hin))
          have HI : Hid ((D : Int) < -1000000000000000 ∨ 1000000000000000 < (D : Int)) := Lib.hid (by unfold inR at hin; omega)
          clear hin
          go_wp2_with (go_at_call 31; refine (l00In_false _ _ _ HI.out _).mono ?_; rintro e w1 ⟨n1, rfl, rfl⟩)
          all_goals
            go_ret2
            exact ⟨by rw [HR.out]; rfl, Gro.drewN (Gro.refl _) _⟩

-- @has Decimal
theorem specDecimal_c (n : Int) (h0 : -9223372036854775808 ≤ n) (h1 : n ≤ 9223372036854775807) (w : World) :
    Calls Tryd.prog 7 #[.int .i64 n] w fun e w' => e = .returned (.string ⟨(Lib.itoa n).toArray⟩) ∧ Gro w w' := by
  go_enter Tryd.func7, Tryd.ntmps7
  go_wp2_with (go_at_call 19; refine (l01Dec_c _ h0 h1 _).mono ?_; rintro e w1 ⟨rfl, hg⟩)
  go_ret
  exact ⟨rfl, hg⟩
theorem implDecimal_c (n : Int) (h0 : -9223372036854775808 ≤ n) (h1 : n ≤ 9223372036854775807) (w : World) (htab : Lib.TabIs Tryd.prog w "internal/strconv.uint64pow10" .u64 Lib.pow10Tab) :
    Calls Tryd.prog 8 #[.int .i64 n] w fun e w' => e = .returned (.string ⟨(Lib.itoa n).toArray⟩) ∧ Gro w w' := by
  go_enter Tryd.func8, Tryd.ntmps8
  go_wp2_with (go_at_call 20; refine (Tryd.strconv_FormatInt_10 _ h0 h1 _ htab).mono ?_; rintro e w1 ⟨rfl, k, os, rfl⟩)
  go_ret
  exact ⟨rfl, Lib.below_grow _ _ (Nat.le_refl _) _ _⟩

-- @has within
theorem within_true (n a b : Int) (h1 : a ≤ n) (h2 : n ≤ b) (w : World) : Calls Tryd.prog 27 #[.int .i64 n, .int .i64 a, .int .i64 b] w (RetV (.bool true) w) := by
  go_enter Tryd.func27, Tryd.ntmps27
  go_wp2
  go_ret
  exact ⟨0, rfl, rfl⟩
theorem within_false (n a b : Int) (h : n < a ∨ b < n) (w : World) : Calls Tryd.prog 27 #[.int .i64 n, .int .i64 a, .int .i64 b] w (RetV (.bool false) w) := by
  by_cases h1 : a ≤ n
  · have h2 : ¬ n ≤ b := by omega
    go_enter Tryd.func27, Tryd.ntmps27
    go_wp2
    go_ret
    exact ⟨0, rfl, rfl⟩
  · go_enter Tryd.func27, Tryd.ntmps27
    go_wp2
    go_ret
    exact ⟨0, rfl, rfl⟩

-- @has ReadDecimal
/-- A package-level variable reads so, whatever the call does at its own blocks. -/
theorem var_below {P : Program} {w : World} {name : String} {x : Array Value} (h : w.var? P name = some x) : ∀ w', Gro w w' → w'.var? P name = some x := fun w' hb => by
  unfold World.var? at *
  cases hg : P.globalNamed name with
  | none => simp [hg] at h
  | some g =>
    simp only [hg, Option.bind_some] at h ⊢
    have hlt : g < w.heap.size := by
      rcases Nat.lt_or_ge g w.heap.size with h' | h'
      · exact h'
      · rw [Array.getElem?_eq_none h'] at h; simp at h
    rw [Below.block hb g hlt]
    exact h
theorem specReadDecimal_c (s : ByteArray) (w : World) (hs : s.size ≤ 1048576) :
    Calls Tryd.prog 13 #[.string s] w fun e w' => e = .returned (.tuple #[.int .i64 (rdR s.data.toList).1, .bool (rdR s.data.toList).2]) ∧ Gro w w' := by
  go_enter Tryd.func13, Tryd.ntmps13
  go_wp2_with (go_at_call 25; refine (l01Value_c _ _ hs).mono ?_; rintro e w1 ⟨rfl, hg⟩)
  go_ret2
  exact ⟨rfl, hg⟩
set_option maxHeartbeats 1000000 in
theorem implReadDecimal_c (s : ByteArray) (w : World) (hs : s.size ≤ 1048576) (htab : Lib.TabIs Tryd.prog w "internal/strconv.uint64pow10" .u64 Lib.pow10Tab) {t1 t2 : TypeId} {p1 p2 : Value}
    (hv1 : w.var? Tryd.prog "strconv.ErrSyntax" = some #[.iface t1 p1]) (hv2 : w.var? Tryd.prog "strconv.ErrRange" = some #[.iface t2 p2]) :
    Calls Tryd.prog 14 #[.string s] w fun e w' => e = .returned (.tuple #[.int .i64 (rdR s.data.toList).1, .bool (rdR s.data.toList).2]) ∧ Gro w w' := by
  cases hp : Lib.parseIntB 64 s.data.toList with
  | «syntax» =>
    have HR := Lib.hid (rdR_fail (l := s.data.toList) (by rw [hp]; intro v h; cases h))
    go_enter Tryd.func14, Tryd.ntmps14
    go_wp2_with (go_at_call 26; refine (Tryd.strconv_ParseInt_10_at64_syntax_var _ (by omega) hp _ _ _ hv1).mono ?_; rintro e w1 ⟨N, rfl, -, -, hb⟩)
    all_goals
      go_ret2
      exact ⟨by rw [HR.out]; rfl, hb⟩
  | range =>
    have HR := Lib.hid (rdR_fail (l := s.data.toList) (by rw [hp]; intro v h; cases h))
    go_enter Tryd.func14, Tryd.ntmps14
    go_wp2_with (go_at_call 26; refine (Tryd.strconv_ParseInt_10_at64_range_var _ (by omega) hp _ _ _ hv2).mono ?_; rintro e w1 ⟨N, rfl, -, -, hb⟩)
    all_goals
      go_ret2
      exact ⟨by rw [HR.out]; rfl, hb⟩
  | ok v =>
    obtain ⟨v0, v1⟩ := parse_in hp
    have hT := Lib.tabBelow_of_tabIs htab
    by_cases he : Lib.itoa v = s.data.toList
    · have hse := str_eqb he
      by_cases hin : inR v
      · have HR := Lib.hid (rdR_yes hin he)
        unfold inR at hin
        clear he
        go_enter Tryd.func14, Tryd.ntmps14
        go_wp2_with (first | (go_at_call 26; refine (Tryd.strconv_ParseInt_10_at64_ok s (by omega) v hp _).mono ?_; rintro e w1 ⟨rfl, hw⟩; have hg : Gro w w1 := bytes_gro hw) | (go_at_call 8; refine (implDecimal_c _ v0 v1 _ (hT _ hg)).mono ?_; rintro e w1 ⟨rfl, hg2⟩) | (go_at_call 27; refine (within_true _ _ _ hin.1 hin.2 _).mono ?_; rintro e w1 ⟨n1, rfl, rfl⟩))
        all_goals
          go_ret2
          exact ⟨by rw [HR.out]; rfl, Gro.drewN (Gro.trans hg hg2) _⟩
      · have HR := Lib.hid (rdR_parse hp (fun h => hin h.1))
        have HI : Hid (v < -1000000000000000 ∨ 1000000000000000 < v) := Lib.hid (by unfold inR at hin; omega)
        clear he hin
        go_enter Tryd.func14, Tryd.ntmps14
        go_wp2_with (first | (go_at_call 26; refine (Tryd.strconv_ParseInt_10_at64_ok s (by omega) v hp _).mono ?_; rintro e w1 ⟨rfl, hw⟩; have hg : Gro w w1 := bytes_gro hw) | (go_at_call 8; refine (implDecimal_c _ v0 v1 _ (hT _ hg)).mono ?_; rintro e w1 ⟨rfl, hg2⟩) | (go_at_call 27; refine (within_false _ _ _ HI.out _).mono ?_; rintro e w1 ⟨n1, rfl, rfl⟩))
        all_goals
          go_ret2
          exact ⟨by rw [HR.out]; rfl, Gro.drewN (Gro.trans hg hg2) _⟩
    · have hse := str_neb he
      have HR := Lib.hid (rdR_parse hp (fun h => he h.2))
      clear he
      go_enter Tryd.func14, Tryd.ntmps14
      go_wp2_with (first | (go_at_call 26; refine (Tryd.strconv_ParseInt_10_at64_ok s (by omega) v hp _).mono ?_; rintro e w1 ⟨rfl, hw⟩; have hg : Gro w w1 := bytes_gro hw) | (go_at_call 8; refine (implDecimal_c _ v0 v1 _ (hT _ hg)).mono ?_; rintro e w1 ⟨rfl, hg2⟩))
      all_goals
        go_ret2
        exact ⟨by rw [HR.out]; rfl, Gro.trans hg hg2⟩

-- @has FnExactReadDecimal
theorem walk_FnExactReadDecimal (s : ByteArray) (hm : s.size ≤ maxLen) (w : World) (htab : Lib.TabIs Tryd.prog w "internal/strconv.uint64pow10" .u64 Lib.pow10Tab) {t1 t2 : TypeId} {p1 p2 : Value}
    (hv1 : w.var? Tryd.prog "strconv.ErrSyntax" = some #[.iface t1 p1]) (hv2 : w.var? Tryd.prog "strconv.ErrRange" = some #[.iface t2 p2]) :
    Calls Tryd.prog 5 #[.string s] w fun e w' => e = .returned (.bool true) ∧ Below w.heap.size w w' := by
  unfold maxLen at hm
  by_cases h : 1048576 < s.size
  · have h' : (1048576 : Int) < s.size := by omega
    clear htab hv1 hv2
    go_enter Tryd.func5, Tryd.ntmps5
    go_wp2
    all_goals
      go_ret
      exact ⟨rfl, Below.refl _ _⟩
  · have h' : ¬ (1048576 : Int) < s.size := by omega
    have hs : s.size ≤ 1048576 := by omega
    have hT := Lib.tabBelow_of_tabIs htab
    have V1 := Lib.hid (var_below hv1)
    have V2 := Lib.hid (var_below hv2)
    clear htab hv1 hv2 hm h
    go_enter Tryd.func5, Tryd.ntmps5
    go_wp2_with (first | (go_at_call 13; refine (specReadDecimal_c _ _ hs).mono ?_; rintro e w1 ⟨rfl, hg⟩) | (go_at_call 14; refine (implReadDecimal_c _ _ hs (hT _ hg) (V1.out _ hg) (V2.out _ hg)).mono ?_; rintro e w1 ⟨rfl, hg2⟩))
    all_goals
      go_ret
      exact ⟨rfl, Gro.trans hg hg2⟩

end Go.Proofs.YtjigmdfgmbdcmaaDoor
