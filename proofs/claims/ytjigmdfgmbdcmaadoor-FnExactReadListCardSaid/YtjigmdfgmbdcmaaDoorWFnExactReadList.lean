/- Contracts of Go functions: what each returns, as a class of words, whatever the world. -/
import Derived.Test.YtjigmdfgmbdcmaaDoorCut
import Derived.Test.YtjigmdfgmbdcmaaDoorShs
import Derived.Test.YtjigmdfgmbdcmaaDoorProg
import Derived.BigQuiet
import Derived.Deep.QuietTactic
import Derived.Deep.RegionHeld3
import Derived.Deep.DeepFit
import Derived.WalkSpells
import Derived.Lib.Hide
import Derived.WalkSmall
import Derived.Deep.DeepCutAuto
namespace Go.Proofs.YtjigmdfgmbdcmaaDoor
open Go.RowKit Go.Fl

-- @has l01Cut
theorem info_str2 : (Tryd.prog.info? 9).map (fun i => (i.zero, i.size, i.bytes)) = some (some (.string ByteArray.empty), 1, 16) := by kernel_rfl
set_option maxRecDepth 100000 in
set_option maxHeartbeats 2000000 in
theorem l01Cut_c (s : ByteArray) (w : World) (hs : s.size ≤ 1048576) :
    Calls Tryd.prog 37 #[.string s, .int .u8 44] w fun e w' => ∃ g cap, e = .returned (.slice (some ⟨g, 0, none⟩) (pieces s).length cap) ∧ (∀ (j : Nat) x, (pieces s)[j]? = some x → w'.cell? ⟨g, j, none⟩ = some (.string x)) ∧ (∃ cur, w'.heap[g]? = some (.cells cur 9 (0, 0))) ∧ Gro w w' := by
  obtain ⟨i0, hi, hz0, hz1, hz2⟩ := info_parts info_str2
  go_enter Tryd.func37, Tryd.ntmps37
  go_wp2
  go_loopw [5, 6, 7] (fun v fr i wr => (∃ (f k : Nat) (done : List ByteArray), fr = .int .i64 (f : Int) ∧ i = .int .i64 (k : Int) ∧ CutInv s done f k ∧ done.length ≤ k ∧ wr.ownsRow w.heap.size 9 1 v done.length (done.map Value.string) ∧ v ≠ .slice none 0 0 ∧ Gro w wr) ∨ (∃ (f : Nat), fr = .int .i64 (f : Int) ∧ i = .int .i64 (s.size + 1 : Nat) ∧ wr.ownsRow w.heap.size 9 1 v (pieces s).length ((pieces s).map Value.string) ∧ v ≠ .slice none 0 0 ∧ Gro w wr)) (fun _ _ i _ => s.size + 1 - (intOf i).toNat)
  case atStart => exact .inl ⟨0, 0, [], rfl, rfl, CutInv.start s, Nat.le_refl _, ownsRow_empty (Nat.le_refl _), by simp, (Gro.refl _).alloc _⟩
  case round =>
    rcases hrel with ⟨f, k, done, rfl, rfl, hinv, hdl, hown, hne, hg⟩ | ⟨f, rfl, rfl, hown, hne, hg⟩
    · have hfk := hinv.1
      have hks := hinv.2.1
      have hsz := hg.size
      have HI := Lib.hid hinv
      clear hinv
      by_cases hend : k = s.size
      · subst hend
        have HL := Lib.hid (CutInv.last HI.out)
        go_wp2_with (at_builtin; refine wpList_append_own _ rfl _ _ 38 rfl w.heap.size 9 i0 (.string ByteArray.empty) 1 16 Tryd.underlying38 hi hz0 hz1 hz2 rfl (by decide) _ _ _ rfl (hown.alloc _) ⟨wr.heap.size, 0, none⟩ 1 1 [.string (s.extract f s.size)] rfl rfl (cell_new1 _ _ _) (fun x hx => by simp at hx; subst hx; rfl) (by unfold maxLen; omega) (by omega) (by simp; omega) ?_)
        intro v' w' hown' hgrow hnn
        have hne' : v' ≠ .slice none 0 0 := fun e => by simp [e] at hnn
        have hg' : Gro w w' := RowKit.Below.grown (Gro.alloc hg _) hgrow (by simp; omega) (fun j hj => (World.ownsRow.lt hown j hj).1)
        have e1 : done.map Value.string ++ [.string (s.extract f s.size)] = (done ++ [s.extract f s.size]).map Value.string := by rw [List.map_append]; rfl
        have e2 : done.length + 1 = (done ++ [s.extract f s.size]).length := by simp
        rw [e1, e2] at hown'
        rw [HL.out] at hown'
        have HO := Lib.hid hown'
        have HN := Lib.hid hne'
        have HG := Lib.hid hg'
        clear hown' hgrow hnn hne' hg' e1 e2 hown hne
        go_wp2
        go_roundw
        case rel => exact .inr ⟨s.size + 1, by go_num, by go_num, HO.out, HN.out, HG.out⟩
        case measure => simp [intOf]
      · have hlt : k < s.size := by omega
        have hend' : ((k : Int) == s.size) = false := beq_eq_false_iff_ne.2 (by omega)
        by_cases hc : (s[k].toNat : Int) = 44
        · have HL := Lib.hid (CutInv.cut HI.out hlt (UInt8.toNat_inj.1 (by show s[k].toNat = 44; omega)))
          have hc' : ((s[k].toNat : Int) == 44) = true := by simpa using hc
          go_wp2_with (at_builtin; refine wpList_append_own _ rfl _ _ 38 rfl w.heap.size 9 i0 (.string ByteArray.empty) 1 16 Tryd.underlying38 hi hz0 hz1 hz2 rfl (by decide) _ _ _ rfl (hown.alloc _) ⟨wr.heap.size, 0, none⟩ 1 1 [.string (s.extract f k)] rfl rfl (cell_new1 _ _ _) (fun x hx => by simp at hx; subst hx; rfl) (by unfold maxLen; omega) (by omega) (by simp; omega) ?_)
          intro v' w' hown' hgrow hnn
          have hne' : v' ≠ .slice none 0 0 := fun e => by simp [e] at hnn
          have hg' : Gro w w' := RowKit.Below.grown (Gro.alloc hg _) hgrow (by simp; omega) (fun j hj => (World.ownsRow.lt hown j hj).1)
          have e1 : done.map Value.string ++ [.string (s.extract f k)] = (done ++ [s.extract f k]).map Value.string := by rw [List.map_append]; rfl
          have e2 : done.length + 1 = (done ++ [s.extract f k]).length := by simp
          rw [e1, e2] at hown'
          have HO := Lib.hid hown'
          have HN := Lib.hid hne'
          have HG := Lib.hid hg'
          clear hown' hgrow hnn hne' hg' e1 e2 hown hne
          go_wp2
          go_roundw
          case rel => exact .inl ⟨k + 1, k + 1, _, by go_num, by go_num, HL.out, by simp; omega, HO.out, HN.out, HG.out⟩
          case measure => simp [intOf]; omega
        · have hc' : ((s[k].toNat : Int) == 44) = false := by simpa using hc
          have HL := Lib.hid (CutInv.skip HI.out hlt (fun e => hc (by rw [e]; rfl)))
          have HO := Lib.hid hown
          have HN := Lib.hid hne
          clear hown hne
          go_wp2
          go_roundw
          case rel => exact .inl ⟨f, k + 1, done, rfl, by go_num, HL.out, by omega, HO.out, HN.out, hg⟩
          case measure => simp [intOf]; omega
    · rcases hown.2 with ⟨e, -⟩ | ⟨g, cap, cur, rfl, hbg, hcur, hkc, -⟩
      · exact absurd e hne
      have hcells : ∀ (j : Nat) x, (pieces s)[j]? = some x → wr.cell? ⟨g, j, none⟩ = some (.string x) := fun j x hj => by
        have := hown.cells (g := g) rfl j (.string x) (by rw [List.getElem?_map, hj]; rfl)
        rw [Go.WideShapes.add_plain, Nat.zero_add] at this
        exact this
      have HC := Lib.hid hcells
      have HU := Lib.hid hcur
      clear hcells hown hne hcur
      go_wp2
      go_ret
      exact ⟨g, cap, rfl, HC.out, ⟨_, HU.out⟩, hg⟩

-- @has l01Dec
theorem info_u8 : (Tryd.prog.info? 5).map (fun i => (i.zero, i.size, i.bytes)) = some (some (.int .u8 0), 1, 1) := by kernel_rfl
set_option maxRecDepth 100000 in
set_option maxHeartbeats 2000000 in
theorem l01Dec_c (n : Int) (h0 : -9223372036854775808 ≤ n) (h1 : n ≤ 9223372036854775807) (w : World) :
    Calls Tryd.prog 19 #[.int .i64 n] w fun e w' => e = .returned (.string ⟨(Lib.itoa n).toArray⟩) ∧ Gro w w' := by
  obtain ⟨i0, hi, hz0, hz1, hz2⟩ := info_parts info_u8
  go_enter Tryd.func19, Tryd.ntmps19
  go_wp2
  have hu20 : Lib.nDigits n.natAbs ≤ 20 := nDigits_20 h0 h1
  go_loopw [3, 4] (fun out rest wr => ∃ r ds, rest = .int .i64 r ∧ -9223372036854775808 ≤ r ∧ r ≤ 9223372036854775807 ∧ decInv n.natAbs r ds ∧ ByteRow w wr out ds) (fun out rest _ => (intOf rest).natAbs + (1 - lenOf out))
  case atStart => exact ⟨n, [], rfl, h0, h1, decInv_start n, w.heap.size, 0, rfl, fun j u hj => by simp [Lib.byteCells] at hj, (Gro.refl w).alloc _⟩
  case round =>
    obtain ⟨r, ds, rfl, r0, r1, hinv, g, cap, rfl, hc, hg⟩ := hrel
    have hlen := decInv_len hinv
    have HI := Lib.hid hinv
    have HC := Lib.hid hc
    clear hinv hc
    by_cases hdone : ¬ (r = 0 ∧ ds ≠ [])
    · obtain ⟨D, hD⟩ : ∃ D : Nat, D = r.natAbs % 10 := ⟨_, rfl⟩
      have hD9 : D ≤ 9 := by omega
      have htm := tmod_cases r
      rw [← hD] at htm
      have HD := Lib.hid hD
      have hstep := Lib.hid (decInv_step HI.out hdone)
      have hrq := tdiv_in r0 r1
      have hsz := hg.size
      clear hD
      have hdone' := Lib.hid hdone
      have HX : Hid (ds.length = 0 ∨ r ≠ 0) := Lib.hid (by
        by_cases e : ds = []
        · left; rw [e]; rfl
        · exact .inr fun h => hdone'.out ⟨h, e⟩)
      clear hdone
      have hdisj : ((ds.length : Int) == 0) = true ∨ (((ds.length : Int) == 0) = false ∧ (r != 0) = true) := by
        by_cases e : ds = []
        · left; rw [e]; rfl
        · exact .inr ⟨by simp [e], by simpa using fun h => hdone'.out ⟨h, e⟩⟩
      rcases hdisj with hl0 | ⟨hl0, hr0⟩
      all_goals rcases htm with ⟨hm, hm0⟩ | hm
      all_goals
        go_wp2_with (at_builtin; refine wpList_append_own _ rfl _ _ 46 rfl w.heap.size 5 i0 (.int .u8 0) 1 1 Tryd.underlying46 hi hz0 hz1 hz2 rfl (by decide) _ _ _ rfl (ownsRow_lit hsz) ⟨g, 0, none⟩ ds.length cap (Lib.byteCells ds) rfl (by simp [Lib.byteCells]) (fun j u hj => Gro.cell ((Gro.refl _).alloc _) (HC.out j u hj)) (by intro u hu; simp [Lib.byteCells] at hu; obtain ⟨x, -, rfl⟩ := hu; rfl) (by unfold maxLen; omega) (by omega) (by simp; omega) ?_)
        intro v' w' hown hgrow hnn
        have hne : v' ≠ .slice none 0 0 := fun e => by simp [e] at hnn
        have hg' : Gro w w' := RowKit.Below.grown (Gro.alloc hg _) hgrow (by simp; omega) (fun k hk => by simp [Value.ownBlock] at hk; omega)
        have e1 : 1 + ds.length = (UInt8.ofNat (48 + D) :: ds).length := by simp; omega
        have e2 : Value.int .u8 (48 + (D : Int)) :: Lib.byteCells ds = Lib.byteCells (UInt8.ofNat (48 + D) :: ds) := byte_cons hD9 ds
        rw [e1, e2] at hown
        have HO := Lib.hid (ByteRow.grow hown hg' hne)
        clear hown hgrow hnn e1 e2
        go_wp2
        go_roundw
        case rel => exact ⟨r.tdiv 10, UInt8.ofNat (48 + D) :: ds, rfl, hrq.1, hrq.2, by rw [HD.out]; exact hstep.out, HO.out⟩
        case measure =>
          obtain ⟨g', cap', rfl, -⟩ := HO.out
          have hx := HX.out
          have hq := natAbs_tdiv r
          dsimp only [intOf, lenOf, List.length_cons]
          rw [hq]
          omega
    · obtain ⟨rfl, hne⟩ : r = 0 ∧ ds ≠ [] := Decidable.not_not.1 hdone
      have hend := decInv_end HI.out hne
      have hb1 : ((ds.length : Int) == 0) = false := by simp [hne]
      have hsz := hg.size
      have HN := Lib.hid hne
      clear hdone hne
      by_cases hn : n < 0
      · have hit : Lib.itoa n = 45 :: ds := by rw [← hend]; unfold Lib.itoa; rw [if_pos hn]
        have HT := Lib.hid hit
        clear hend hit
        go_wp2_with (at_builtin; refine wpList_append_own _ rfl _ _ 46 rfl w.heap.size 5 i0 (.int .u8 0) 1 1 Tryd.underlying46 hi hz0 hz1 hz2 rfl (by decide) _ _ _ rfl (ownsRow_lit hsz) ⟨g, 0, none⟩ ds.length cap (Lib.byteCells ds) rfl (by simp [Lib.byteCells]) (fun j u hj => Gro.cell ((Gro.refl _).alloc _) (HC.out j u hj)) (by intro u hu; simp [Lib.byteCells] at hu; obtain ⟨x, -, rfl⟩ := hu; rfl) (by unfold maxLen; omega) (by omega) (by simp; omega) ?_)
        intro v' w' hown hgrow hnn
        have hne : v' ≠ .slice none 0 0 := fun e => by simp [e] at hnn
        have hg' : Gro w w' := RowKit.Below.grown (Gro.alloc hg _) hgrow (by simp; omega) (fun k hk => by simp [Value.ownBlock] at hk; omega)
        have e1 : 1 + ds.length = (45 :: ds).length := by simp; omega
        have e2 : Value.int .u8 45 :: Lib.byteCells ds = Lib.byteCells (45 :: ds) := rfl
        rw [e1, e2] at hown
        obtain ⟨g', cap', rfl, hc', -⟩ := ByteRow.grow hown hg' hne
        obtain ⟨l, hl⟩ : ∃ l, l = (45 : UInt8) :: ds := ⟨_, rfl⟩
        rw [← hl] at hc' HT ⊢
        clear hown hgrow hnn e1 e2 hne
        have hcv := run_convert_bytes_back (P := Tryd.prog) w' 46 9 5 ⟨g', 0, none⟩ cap' l Tryd.underlying46 Tryd.underlying5 Tryd.underlying9 (fun j hj => hc' j _ (by simp [Lib.byteCells, hj]))
        clear hl hc'
        go_wp2
        go_ret
        rw [HT.out]
        exact ⟨rfl, hg'⟩
      · have hit : Lib.itoa n = ds := by
          rw [← hend]; unfold Lib.itoa; rw [if_neg hn]; congr 1; omega
        have HT := Lib.hid hit
        have hcv := run_convert_bytes_back (P := Tryd.prog) wr 46 9 5 ⟨g, 0, none⟩ cap ds Tryd.underlying46 Tryd.underlying5 Tryd.underlying9 (fun j hj => HC.out j _ (by simp [Lib.byteCells, hj]))
        clear hend hit
        go_wp2
        go_ret
        rw [HT.out]
        exact ⟨rfl, hg⟩

-- @has l00In
theorem l00In_true (n a b : Int) (h1 : a ≤ n) (h2 : n ≤ b) (w : World) : Calls Tryd.prog 31 #[.int .i64 n, .int .i64 a, .int .i64 b] w (RetV (.bool true) w) := by
  go_enter Tryd.func31, Tryd.ntmps31
  go_wp2
  go_ret
  exact ⟨0, rfl, rfl⟩
theorem l00In_false (n a b : Int) (h : n < a ∨ b < n) (w : World) : Calls Tryd.prog 31 #[.int .i64 n, .int .i64 a, .int .i64 b] w (RetV (.bool false) w) := by
  by_cases h1 : a ≤ n
  · have h2 : ¬ n ≤ b := by omega
    go_enter Tryd.func31, Tryd.ntmps31
    go_wp2
    go_ret
    exact ⟨0, rfl, rfl⟩
  · go_enter Tryd.func31, Tryd.ntmps31
    go_wp2
    go_ret
    exact ⟨0, rfl, rfl⟩

-- @has l01Value
set_option maxRecDepth 100000 in
set_option maxHeartbeats 2000000 in
theorem l01Value_c (s : ByteArray) (w : World) (hs : s.size ≤ 1048576) :
    Calls Tryd.prog 25 #[.string s] w fun e w' => e = .returned (.tuple #[.int .i64 (rdR s.data.toList).1, .bool (rdR s.data.toList).2]) ∧ Gro w w' := by
  by_cases h1 : s.size < 1
  · have h1' : (s.size : Int) < 1 := by omega
    rw [rdR_size (.inl (by simpa using h1))]
    go_enter Tryd.func25, Tryd.ntmps25
    go_wp2
    go_ret2
    exact ⟨rfl, Gro.refl _⟩
  have h1' : ¬ (s.size : Int) < 1 := by omega
  by_cases h2 : 17 < s.size
  · have h2' : (17 : Int) < s.size := by omega
    rw [rdR_size (.inr (by simpa using h2))]
    go_enter Tryd.func25, Tryd.ntmps25
    go_wp2
    go_ret2
    exact ⟨rfl, Gro.refl _⟩
  have h2' : ¬ (17 : Int) < s.size := by omega
  go_enter Tryd.func25, Tryd.ntmps25
  go_wp2
  go_loop [4, 5] (fun m i => ∃ k : Nat, k ≤ s.size ∧ i = .int .i64 k ∧ m = .int .i64 (dval 0 (s.data.toList.take k) : Nat)) (fun _ i => s.size - (intOf i).toNat)
  case atStart => exact ⟨0, Nat.zero_le _, rfl, rfl⟩
  case round =>
    obtain ⟨k, hk, rfl, rfl⟩ := hrel
    have hb := dval_take s k (by omega)
    by_cases hlt : k < s.size
    · have HS := Lib.hid (dval_snoc s k hlt)
      have hc := byte_lt2 s[k]
      generalize dval 0 (s.data.toList.take k) = m at *
      by_cases d1 : (48 : Int) ≤ s[k].toNat
      · by_cases d2 : (s[k].toNat : Int) ≤ 57
        · have HD := Lib.hid (isDig_yes d1 d2)
          go_wp2
          go_round
          case rel => exact ⟨k + 1, by omega, by go_num, by rw [HS.out, HD.out]; go_num⟩
          case measure => simp [intOf]; omega
        · have HD := Lib.hid (isDig_no (c := s[k]) (fun h => d2 h.2))
          go_wp2
          go_round
          case rel => exact ⟨k + 1, by omega, by go_num, by rw [HS.out, HD.out]; rfl⟩
          case measure => simp [intOf]; omega
      · have HD := Lib.hid (isDig_no (c := s[k]) (fun h => d1 h.1))
        go_wp2
        go_round
        case rel => exact ⟨k + 1, by omega, by go_num, by rw [HS.out, HD.out]; rfl⟩
        case measure => simp [intOf]; omega
    · obtain rfl : k = s.size := by omega
      have hmv := mval_head s (by omega)
      have e1 : s.data.toList.take s.size = s.data.toList := List.take_of_length_le (by simp)
      rw [e1] at hb ⊢
      have hpos : 0 < s.size := by omega
      generalize dval 0 s.data.toList = D at *
      by_cases c1 : (s[0].toNat : Int) = 45
      all_goals
        first | rw [if_pos c1] at hmv | rw [if_neg c1] at hmv
      · have HM := Lib.hid hmv
        clear hmv
        by_cases hin : inR (-(D : Int))
        · have hin' := hin
          unfold inR at hin'
          by_cases he : Lib.itoa (-(D : Int)) = s.data.toList
          · have HR := Lib.hid ((rdR_in (l := s.data.toList) (by rw [HM.out]; exact hin) (by rw [HM.out]; exact he)).trans (by rw [HM.out]))
            have hse := str_eqb he
            clear he hin
            go_wp2_with (first | (go_at_call 31; refine (l00In_true _ _ _ hin'.1 hin'.2 _).mono ?_; rintro e w1 ⟨n1, rfl, rfl⟩) | (go_at_call 19; refine (l01Dec_c _ (by omega) (by omega) _).mono ?_; rintro e w1 ⟨rfl, hg⟩))
            all_goals
              go_ret2
              exact ⟨by rw [HR.out]; rfl, Gro.trans (Gro.drewN (Gro.refl _) _) hg⟩
          · have HR := Lib.hid (rdR_other (l := s.data.toList) (by rw [HM.out]; exact he))
            have hse := str_neb he
            clear he hin
            go_wp2_with (first | (go_at_call 31; refine (l00In_true _ _ _ hin'.1 hin'.2 _).mono ?_; rintro e w1 ⟨n1, rfl, rfl⟩) | (go_at_call 19; refine (l01Dec_c _ (by omega) (by omega) _).mono ?_; rintro e w1 ⟨rfl, hg⟩))
            all_goals
              go_ret2
              exact ⟨by rw [HR.out]; rfl, Gro.trans (Gro.drewN (Gro.refl _) _) hg⟩
        · have HR := Lib.hid (rdR_out (l := s.data.toList) (by rw [HM.out]; exact hin))
          have HI : Hid (-(D : Int) < -1000000000000000 ∨ 1000000000000000 < -(D : Int)) := Lib.hid (by unfold inR at hin; omega)
          clear hin
          go_wp2_with (go_at_call 31; refine (l00In_false _ _ _ HI.out _).mono ?_; rintro e w1 ⟨n1, rfl, rfl⟩)
          all_goals
            go_ret2
            exact ⟨by rw [HR.out]; rfl, Gro.drewN (Gro.refl _) _⟩
      · have HM := Lib.hid hmv
        clear hmv
        by_cases hin : inR ((D : Int))
        · have hin' := hin
          unfold inR at hin'
          by_cases he : Lib.itoa ((D : Int)) = s.data.toList
          · have HR := Lib.hid ((rdR_in (l := s.data.toList) (by rw [HM.out]; exact hin) (by rw [HM.out]; exact he)).trans (by rw [HM.out]))
            have hse := str_eqb he
            clear he hin
            go_wp2_with (first | (go_at_call 31; refine (l00In_true _ _ _ hin'.1 hin'.2 _).mono ?_; rintro e w1 ⟨n1, rfl, rfl⟩) | (go_at_call 19; refine (l01Dec_c _ (by omega) (by omega) _).mono ?_; rintro e w1 ⟨rfl, hg⟩))
            all_goals
              go_ret2
              exact ⟨by rw [HR.out]; rfl, Gro.trans (Gro.drewN (Gro.refl _) _) hg⟩
          · have HR := Lib.hid (rdR_other (l := s.data.toList) (by rw [HM.out]; exact he))
            have hse := str_neb he
            clear he hin
            go_wp2_with (first | (go_at_call 31; refine (l00In_true _ _ _ hin'.1 hin'.2 _).mono ?_; rintro e w1 ⟨n1, rfl, rfl⟩) | (go_at_call 19; refine (l01Dec_c _ (by omega) (by omega) _).mono ?_; rintro e w1 ⟨rfl, hg⟩))
            all_goals
              go_ret2
              exact ⟨by rw [HR.out]; rfl, Gro.trans (Gro.drewN (Gro.refl _) _) hg⟩
        · have HR := Lib.hid (rdR_out (l := s.data.toList) (by rw [HM.out]; exact hin))
          have HI : Hid ((D : Int) < -1000000000000000 ∨ 1000000000000000 < (D : Int)) := Lib.hid (by unfold inR at hin; omega)
          clear hin
          go_wp2_with (go_at_call 31; refine (l00In_false _ _ _ HI.out _).mono ?_; rintro e w1 ⟨n1, rfl, rfl⟩)
          all_goals
            go_ret2
            exact ⟨by rw [HR.out]; rfl, Gro.drewN (Gro.refl _) _⟩

-- @has l01Numbers
theorem info_i64b : (Tryd.prog.info? 2).map (fun i => (i.zero, i.size, i.bytes)) = some (some (.int .i64 0), 1, 8) := by kernel_rfl
set_option maxRecDepth 100000 in
set_option maxHeartbeats 2000000 in
theorem l01Numbers_c (s : ByteArray) (w : World) (hs : s.size ≤ 1048576) :
    Calls Tryd.prog 28 #[.string s] w fun e w' => ∃ v, e = .returned (.tuple #[v, .bool (rlOk s)]) ∧ Gro w w' ∧ RL 2 s w w' v := by
  obtain ⟨i0, hi, hz0, hz1, hz2⟩ := info_parts info_i64b
  cases hn : isNone s
  case true =>
    have hse : (s.toList == [110, 111, 110, 101]) = true := by rw [Lib.toList_data]; exact hn
    have hO : rlOk s = true := by unfold rlOk; rw [hn]; rfl
    have HV := Lib.hid (show rlV s = [] by unfold rlV; rw [hn]; rfl)
    have HO := Lib.hid hO
    clear hn hO
    go_enter Tryd.func28, Tryd.ntmps28
    go_wp2
    go_ret2
    exact ⟨.slice (some ⟨w.heap.size, 0, none⟩) 0 0, by rw [HO.out]; rfl, (Gro.refl _).alloc _, .inl ⟨HO.out, by simp, by rw [HV.out]; exact ownsRow_empty (Nat.le_refl _)⟩⟩
  have hse : (s.toList == [110, 111, 110, 101]) = false := by rw [Lib.toList_data]; exact hn
  have HN := Lib.hid hn
  have hps := Lib.hid (pieces_size s)
  clear hn
  by_cases h64 : 64 < (pieces s).length
  · have h64' : (64 : Int) < (pieces s).length := by omega
    have HO := Lib.hid (rlOk_long HN.out h64)
    go_enter Tryd.func28, Tryd.ntmps28
    go_wp2_with (go_at_call 37; refine (l01Cut_c _ _ hs).mono ?_; rintro e w1 ⟨g, cap, rfl, hc, ⟨cur, hcur⟩, hg⟩)
    all_goals
      go_ret2
      exact ⟨.slice none 0 0, by rw [HO.out]; rfl, Gro.trans ((Gro.refl _).alloc _) hg, .inr ⟨HO.out, rfl⟩⟩
  have h64' : ¬ (64 : Int) < (pieces s).length := by omega
  go_enter Tryd.func28, Tryd.ntmps28
  go_wp2_with (go_at_call 37; refine (l01Cut_c _ _ hs).mono ?_; rintro e w1 ⟨g, cap, rfl, hc, ⟨cur, hcur⟩, hg⟩)
  have HC := Lib.hid hc
  clear hc
  have hgw : Gro w w1 := Gro.trans ((Gro.refl _).alloc _) hg
  go_loopw [4, 6] (fun v i wr => ∃ k : Nat, k ≤ (pieces s).length ∧ i = .int .i64 (k : Int) ∧ (∀ (j : Nat) p, j < k → (pieces s)[j]? = some p → okP p = true) ∧ wr.ownsRow w.heap.size 2 1 v k (rlC (pieces s) k) ∧ v ≠ .slice none 0 0 ∧ Gro w wr ∧ wr.heap[g]? = some (.cells cur 9 (0, 0))) (fun _ i _ => (pieces s).length - (intOf i).toNat)
  case atStart => exact ⟨0, Nat.zero_le _, rfl, fun j p h => absurd h (Nat.not_lt_zero _), own_gro (ownsRow_empty (Nat.le_refl _)) hg, by simp, hgw, hcur⟩
  case round =>
    obtain ⟨k, hk, rfl, hall, hown, hne, hgr, hgc⟩ := hrel
    have HA := Lib.hid hall
    clear hall
    by_cases hlt : k < (pieces s).length
    · obtain ⟨p, hp⟩ : ∃ p, (pieces s)[k]? = some p := ⟨_, List.getElem?_eq_getElem hlt⟩
      have c0 : wr.cell? ⟨g, k, none⟩ = some (.string p) := (cell_block (hgc.trans hcur.symm)).trans (HC.out k p hp)
      have HP := Lib.hid hp
      have hpz : p.size ≤ 1048576 := Nat.le_trans (hps.out p (List.mem_of_getElem? hp)) hs
      have hsz := hgr.size
      clear hp
      cases hok : okP p
      · have HK := Lib.hid (show (rdR p.data.toList).2 = false from hok)
        have HO := Lib.hid (rlOk_bad HN.out HP.out hok)
        clear hok hown hne
        go_wp2_with (go_at_call 25; refine (l01Value_c p _ hpz).mono ?_; rw [HK.out]; rintro e w2 ⟨rfl, hg2⟩)
        all_goals
          go_ret2
          exact ⟨.slice none 0 0, by rw [HO.out]; rfl, Gro.trans hgr hg2, .inr ⟨HO.out, rfl⟩⟩
      · have HK := Lib.hid (show (rdR p.data.toList).2 = true from hok)
        have HOK := Lib.hid hok
        clear hok
        go_wp2_with (first | (go_at_call 25; refine (l01Value_c p _ hpz).mono ?_; rw [HK.out]; rintro e w2 ⟨rfl, hg2⟩) | (at_builtin; refine wpList_append_own _ rfl _ _ 24 rfl w.heap.size 2 i0 (.int .i64 0) 1 8 Tryd.underlying24 hi hz0 hz1 hz2 rfl (by decide) _ _ _ rfl ((own_gro hown hg2).alloc _) ⟨w2.heap.size, 0, none⟩ 1 1 [_] rfl rfl (cell_new1 _ _ _) (fun x hx => by simp at hx; subst hx; rfl) (by unfold maxLen; omega) (by omega) (by have := hg2.size; simp; omega) ?_))
        intro v' w' hown' hgrow hnn
        have hne' : v' ≠ .slice none 0 0 := fun e => by simp [e] at hnn
        have hg' : Gro w w' := RowKit.Below.grown (Gro.alloc (Gro.trans hgr hg2) _) hgrow (by have := hg2.size; simp; omega) (fun j hj => (World.ownsRow.lt hown j hj).1)
        rw [show (Value.int .i64 (rdR p.data.toList).1) = .int .i64 (valP p) from rfl, rlC_snoc HP.out] at hown'
        have HB := Lib.hid (block_append ((block_gro hg2 hgc).trans hgc) hown hgc (by decide) hgrow)
        have HW := Lib.hid hown'
        have HE := Lib.hid hne'
        have HG := Lib.hid hg'
        clear hown' hgrow hnn hne' hg' hown hne
        go_wp2
        go_roundw
        case rel =>
          refine ⟨k + 1, by omega, by go_num, fun j q hj hq => ?_, HW.out, HE.out, HG.out, HB.out⟩
          rcases Nat.lt_or_eq_of_le (Nat.le_of_lt_succ hj) with h | rfl
          · exact HA.out j q h hq
          · rw [HP.out] at hq
            cases hq
            exact HOK.out
        case measure => simp [intOf]; omega
    · obtain rfl : k = (pieces s).length := by omega
      have HO := Lib.hid (rlOk_yes HN.out (by omega) HA.out)
      rw [rlC_all s HN.out] at hown
      have HW := Lib.hid hown
      have HE := Lib.hid hne
      have HL := Lib.hid (rlV_len s HN.out)
      clear hown hne
      go_wp2
      go_ret2
      exact ⟨_, by rw [HO.out]; rfl, hgr, .inl ⟨HO.out, HE.out, by rw [HL.out]; exact HW.out⟩⟩

-- @has Decimal
theorem specDecimal_c (n : Int) (h0 : -9223372036854775808 ≤ n) (h1 : n ≤ 9223372036854775807) (w : World) :
    Calls Tryd.prog 7 #[.int .i64 n] w fun e w' => e = .returned (.string ⟨(Lib.itoa n).toArray⟩) ∧ Gro w w' := by
  go_enter Tryd.func7, Tryd.ntmps7
  go_wp2_with (go_at_call 19; refine (l01Dec_c _ h0 h1 _).mono ?_; rintro e w1 ⟨rfl, hg⟩)
  go_ret
  exact ⟨rfl, hg⟩
theorem implDecimal_c (n : Int) (h0 : -9223372036854775808 ≤ n) (h1 : n ≤ 9223372036854775807) (w : World) (htab : Lib.TabIs Tryd.prog w "internal/strconv.uint64pow10" .u64 Lib.pow10Tab) :
    Calls Tryd.prog 8 #[.int .i64 n] w fun e w' => e = .returned (.string ⟨(Lib.itoa n).toArray⟩) ∧ Gro w w' := by
  go_enter Tryd.func8, Tryd.ntmps8
  go_wp2_with (go_at_call 20; refine (Tryd.strconv_FormatInt_10 _ h0 h1 _ htab).mono ?_; rintro e w1 ⟨rfl, k, os, rfl⟩)
  go_ret
  exact ⟨rfl, Lib.below_grow _ _ (Nat.le_refl _) _ _⟩

-- @has within
theorem within_true (n a b : Int) (h1 : a ≤ n) (h2 : n ≤ b) (w : World) : Calls Tryd.prog 27 #[.int .i64 n, .int .i64 a, .int .i64 b] w (RetV (.bool true) w) := by
  go_enter Tryd.func27, Tryd.ntmps27
  go_wp2
  go_ret
  exact ⟨0, rfl, rfl⟩
theorem within_false (n a b : Int) (h : n < a ∨ b < n) (w : World) : Calls Tryd.prog 27 #[.int .i64 n, .int .i64 a, .int .i64 b] w (RetV (.bool false) w) := by
  by_cases h1 : a ≤ n
  · have h2 : ¬ n ≤ b := by omega
    go_enter Tryd.func27, Tryd.ntmps27
    go_wp2
    go_ret
    exact ⟨0, rfl, rfl⟩
  · go_enter Tryd.func27, Tryd.ntmps27
    go_wp2
    go_ret
    exact ⟨0, rfl, rfl⟩

-- @has ReadDecimal
/-- A package-level variable reads so, whatever the call does at its own blocks. -/
theorem var_below {P : Program} {w : World} {name : String} {x : Array Value} (h : w.var? P name = some x) : ∀ w', Gro w w' → w'.var? P name = some x := fun w' hb => by
  unfold World.var? at *
  cases hg : P.globalNamed name with
  | none => simp [hg] at h
  | some g =>
    simp only [hg, Option.bind_some] at h ⊢
    have hlt : g < w.heap.size := by
      rcases Nat.lt_or_ge g w.heap.size with h' | h'
      · exact h'
      · rw [Array.getElem?_eq_none h'] at h; simp at h
    rw [Below.block hb g hlt]
    exact h
theorem specReadDecimal_c (s : ByteArray) (w : World) (hs : s.size ≤ 1048576) :
    Calls Tryd.prog 13 #[.string s] w fun e w' => e = .returned (.tuple #[.int .i64 (rdR s.data.toList).1, .bool (rdR s.data.toList).2]) ∧ Gro w w' := by
  go_enter Tryd.func13, Tryd.ntmps13
  go_wp2_with (go_at_call 25; refine (l01Value_c _ _ hs).mono ?_; rintro e w1 ⟨rfl, hg⟩)
  go_ret2
  exact ⟨rfl, hg⟩
set_option maxHeartbeats 1000000 in
theorem implReadDecimal_c (s : ByteArray) (w : World) (hs : s.size ≤ 1048576) (htab : Lib.TabIs Tryd.prog w "internal/strconv.uint64pow10" .u64 Lib.pow10Tab) {t1 t2 : TypeId} {p1 p2 : Value}
    (hv1 : w.var? Tryd.prog "strconv.ErrSyntax" = some #[.iface t1 p1]) (hv2 : w.var? Tryd.prog "strconv.ErrRange" = some #[.iface t2 p2]) :
    Calls Tryd.prog 14 #[.string s] w fun e w' => e = .returned (.tuple #[.int .i64 (rdR s.data.toList).1, .bool (rdR s.data.toList).2]) ∧ Gro w w' := by
  cases hp : Lib.parseIntB 64 s.data.toList with
  | «syntax» =>
    have HR := Lib.hid (rdR_fail (l := s.data.toList) (by rw [hp]; intro v h; cases h))
    go_enter Tryd.func14, Tryd.ntmps14
    go_wp2_with (go_at_call 26; refine (Tryd.strconv_ParseInt_10_at64_syntax_var _ (by omega) hp _ _ _ hv1).mono ?_; rintro e w1 ⟨N, rfl, -, -, hb⟩)
    all_goals
      go_ret2
      exact ⟨by rw [HR.out]; rfl, hb⟩
  | range =>
    have HR := Lib.hid (rdR_fail (l := s.data.toList) (by rw [hp]; intro v h; cases h))
    go_enter Tryd.func14, Tryd.ntmps14
    go_wp2_with (go_at_call 26; refine (Tryd.strconv_ParseInt_10_at64_range_var _ (by omega) hp _ _ _ hv2).mono ?_; rintro e w1 ⟨N, rfl, -, -, hb⟩)
    all_goals
      go_ret2
      exact ⟨by rw [HR.out]; rfl, hb⟩
  | ok v =>
    obtain ⟨v0, v1⟩ := parse_in hp
    have hT := Lib.tabBelow_of_tabIs htab
    by_cases he : Lib.itoa v = s.data.toList
    · have hse := str_eqb he
      by_cases hin : inR v
      · have HR := Lib.hid (rdR_yes hin he)
        unfold inR at hin
        clear he
        go_enter Tryd.func14, Tryd.ntmps14
        go_wp2_with (first | (go_at_call 26; refine (Tryd.strconv_ParseInt_10_at64_ok s (by omega) v hp _).mono ?_; rintro e w1 ⟨rfl, hw⟩; have hg : Gro w w1 := bytes_gro hw) | (go_at_call 8; refine (implDecimal_c _ v0 v1 _ (hT _ hg)).mono ?_; rintro e w1 ⟨rfl, hg2⟩) | (go_at_call 27; refine (within_true _ _ _ hin.1 hin.2 _).mono ?_; rintro e w1 ⟨n1, rfl, rfl⟩))
        all_goals
          go_ret2
          exact ⟨by rw [HR.out]; rfl, Gro.drewN (Gro.trans hg hg2) _⟩
      · have HR := Lib.hid (rdR_parse hp (fun h => hin h.1))
        have HI : Hid (v < -1000000000000000 ∨ 1000000000000000 < v) := Lib.hid (by unfold inR at hin; omega)
        clear he hin
        go_enter Tryd.func14, Tryd.ntmps14
        go_wp2_with (first | (go_at_call 26; refine (Tryd.strconv_ParseInt_10_at64_ok s (by omega) v hp _).mono ?_; rintro e w1 ⟨rfl, hw⟩; have hg : Gro w w1 := bytes_gro hw) | (go_at_call 8; refine (implDecimal_c _ v0 v1 _ (hT _ hg)).mono ?_; rintro e w1 ⟨rfl, hg2⟩) | (go_at_call 27; refine (within_false _ _ _ HI.out _).mono ?_; rintro e w1 ⟨n1, rfl, rfl⟩))
        all_goals
          go_ret2
          exact ⟨by rw [HR.out]; rfl, Gro.drewN (Gro.trans hg hg2) _⟩
    · have hse := str_neb he
      have HR := Lib.hid (rdR_parse hp (fun h => he h.2))
      clear he
      go_enter Tryd.func14, Tryd.ntmps14
      go_wp2_with (first | (go_at_call 26; refine (Tryd.strconv_ParseInt_10_at64_ok s (by omega) v hp _).mono ?_; rintro e w1 ⟨rfl, hw⟩; have hg : Gro w w1 := bytes_gro hw) | (go_at_call 8; refine (implDecimal_c _ v0 v1 _ (hT _ hg)).mono ?_; rintro e w1 ⟨rfl, hg2⟩))
      all_goals
        go_ret2
        exact ⟨by rw [HR.out]; rfl, Gro.trans hg hg2⟩

-- @has implReadList
theorem split_c (s : ByteArray) (w : World) (hs : s.size ≤ 1048576) {m : Int} (hm : w.cell? ⟨3, 0, none⟩ = some (.int .i64 m)) :
    Calls Tryd.prog 29 #[.string s, .string ⟨#[44]⟩] w fun e w' => ∃ g cap, e = .returned (.slice (some ⟨g, 0, none⟩) (pieces s).length cap) ∧ (∀ (j : Nat) x, (pieces s)[j]? = some x → w'.cell? ⟨g, j, none⟩ = some (.string x)) ∧ (∃ cur, w'.heap[g]? = some (.cells cur 9 (0, 0))) ∧ Gro w w' := by
  refine (Tryd.strings_Split s ⟨#[44]⟩ m w (by omega) hm (by decide)).mono ?_
  rintro e w' ⟨rfl, rfl⟩
  rw [pieces_len, split_pieces]
  have hh := heap_alloc_new w (.cells ((pieces s).map Value.string).toArray 9)
  refine ⟨_, _, rfl, fun j x hj => ?_, ⟨_, hh⟩, (Gro.refl _).alloc _⟩
  simp only [World.cell?, hh]
  simp [hj]
set_option maxRecDepth 100000 in
set_option maxHeartbeats 2000000 in
theorem implReadList_c (s : ByteArray) (w : World) (hs : s.size ≤ 1048576) (htab : Lib.TabIs Tryd.prog w "internal/strconv.uint64pow10" .u64 Lib.pow10Tab) {t1 t2 : TypeId} {p1 p2 : Value}
    (hv1 : w.var? Tryd.prog "strconv.ErrSyntax" = some #[.iface t1 p1]) (hv2 : w.var? Tryd.prog "strconv.ErrRange" = some #[.iface t2 p2]) {m : Int} (hm : w.cell? ⟨3, 0, none⟩ = some (.int .i64 m)) :
    Calls Tryd.prog 16 #[.string s] w fun e w' => ∃ v, e = .returned (.tuple #[v, .bool (rlOk s)]) ∧ Gro w w' ∧ RL 2 s w w' v := by
  obtain ⟨i0, hi, hz0, hz1, hz2⟩ := info_parts info_i64b
  cases hn : isNone s
  case true =>
    have hse : (s.toList == [110, 111, 110, 101]) = true := by rw [Lib.toList_data]; exact hn
    have hO : rlOk s = true := by unfold rlOk; rw [hn]; rfl
    have HV := Lib.hid (show rlV s = [] by unfold rlV; rw [hn]; rfl)
    have HO := Lib.hid hO
    clear hn hO htab hv1 hv2 hm
    go_enter Tryd.func16, Tryd.ntmps16
    go_wp2
    go_ret2
    exact ⟨.slice (some ⟨w.heap.size, 0, none⟩) 0 0, by rw [HO.out]; rfl, (Gro.refl _).alloc _, .inl ⟨HO.out, by simp, by rw [HV.out]; exact ownsRow_empty (Nat.le_refl _)⟩⟩
  have hse : (s.toList == [110, 111, 110, 101]) = false := by rw [Lib.toList_data]; exact hn
  have HN := Lib.hid hn
  have hps := Lib.hid (pieces_size s)
  have hT := Lib.tabBelow_of_tabIs htab
  have V1 := Lib.hid (var_below hv1)
  have V2 := Lib.hid (var_below hv2)
  have HM := Lib.hid hm
  clear hn htab hv1 hv2 hm
  go_enter Tryd.func16, Tryd.ntmps16
  go_wp2_with (go_at_call 29; refine (split_c _ _ hs (Gro.cell ((Gro.refl _).alloc _) HM.out)).mono ?_; rintro e w1 ⟨g, cap, rfl, hc, ⟨cur, hcur⟩, hg⟩)
  have HC := Lib.hid hc
  clear hc
  have hgw : Gro w w1 := Gro.trans ((Gro.refl _).alloc _) hg
  go_loopw [4, 16] (fun v i wr => ∃ k : Nat, k ≤ (pieces s).length ∧ k ≤ 64 ∧ i = .int .i64 (k : Int) ∧ (∀ (j : Nat) p, j < k → (pieces s)[j]? = some p → okP p = true) ∧ wr.ownsRow w.heap.size 2 1 v k (rlC (pieces s) k) ∧ v ≠ .slice none 0 0 ∧ Gro w wr ∧ wr.heap[g]? = some (.cells cur 9 (0, 0))) (fun _ i _ => (pieces s).length - (intOf i).toNat)
  case atStart => exact ⟨0, Nat.zero_le _, Nat.zero_le _, rfl, fun j p h => absurd h (Nat.not_lt_zero _), own_gro (ownsRow_empty (Nat.le_refl _)) hg, by simp, hgw, hcur⟩
  case round =>
    obtain ⟨k, hk, hk64, rfl, hall, hown, hne, hgr, hgc⟩ := hrel
    have HA := Lib.hid hall
    clear hall
    by_cases hlt : k < (pieces s).length
    · obtain ⟨p, hp⟩ : ∃ p, (pieces s)[k]? = some p := ⟨_, List.getElem?_eq_getElem hlt⟩
      have c0 : wr.cell? ⟨g, k, none⟩ = some (.string p) := (cell_block (hgc.trans hcur.symm)).trans (HC.out k p hp)
      have HP := Lib.hid hp
      have hpz : p.size ≤ 1048576 := Nat.le_trans (hps.out p (List.mem_of_getElem? hp)) hs
      have hsz := hgr.size
      clear hp
      rcases hown.2 with ⟨e, -⟩ | ⟨g1, cap1, cur1, rfl, -⟩
      · exact absurd e hne
      cases hok : okP p
      · have HK := Lib.hid (show (rdR p.data.toList).2 = false from hok)
        have HO := Lib.hid (rlOk_bad HN.out HP.out hok)
        clear hok hown hne
        go_wp2_with (go_at_call 14; refine (implReadDecimal_c p _ hpz (hT _ hgr) (V1.out _ hgr) (V2.out _ hgr)).mono ?_; rw [HK.out]; rintro e w2 ⟨rfl, hg2⟩)
        all_goals
          go_ret2
          exact ⟨.slice none 0 0, by rw [HO.out]; rfl, Gro.trans hgr hg2, .inr ⟨HO.out, rfl⟩⟩
      · have HK := Lib.hid (show (rdR p.data.toList).2 = true from hok)
        have HOK := Lib.hid hok
        clear hok
        by_cases h64 : k = 64
        · have h64' : ((k : Int) == 64) = true := by rw [h64]; rfl
          have HO := Lib.hid (rlOk_long HN.out (by omega))
          clear hown hne h64
          go_wp2_with (go_at_call 14; refine (implReadDecimal_c p _ hpz (hT _ hgr) (V1.out _ hgr) (V2.out _ hgr)).mono ?_; rw [HK.out]; rintro e w2 ⟨rfl, hg2⟩)
          all_goals
            go_ret2
            exact ⟨.slice none 0 0, by rw [HO.out]; rfl, Gro.trans hgr hg2, .inr ⟨HO.out, rfl⟩⟩
        · have h64' : ((k : Int) == 64) = false := beq_eq_false_iff_ne.2 (by omega)
          go_wp2_with (first | (go_at_call 14; refine (implReadDecimal_c p _ hpz (hT _ hgr) (V1.out _ hgr) (V2.out _ hgr)).mono ?_; rw [HK.out]; rintro e w2 ⟨rfl, hg2⟩) | (at_builtin; refine wpList_append_own _ rfl _ _ 24 rfl w.heap.size 2 i0 (.int .i64 0) 1 8 Tryd.underlying24 hi hz0 hz1 hz2 rfl (by decide) _ _ _ rfl ((own_gro hown hg2).alloc _) ⟨w2.heap.size, 0, none⟩ 1 1 [_] rfl rfl (cell_new1 _ _ _) (fun x hx => by simp at hx; subst hx; rfl) (by unfold maxLen; omega) (by omega) (by have := hg2.size; simp; omega) ?_))
          intro v' w' hown' hgrow hnn
          have hne' : v' ≠ .slice none 0 0 := fun e => by simp [e] at hnn
          have hg' : Gro w w' := RowKit.Below.grown (Gro.alloc (Gro.trans hgr hg2) _) hgrow (by have := hg2.size; simp; omega) (fun j hj => (World.ownsRow.lt hown j hj).1)
          rw [show (Value.int .i64 (rdR p.data.toList).1) = .int .i64 (valP p) from rfl, rlC_snoc HP.out] at hown'
          have HB := Lib.hid (block_append ((block_gro hg2 hgc).trans hgc) hown hgc (by decide) hgrow)
          have HW := Lib.hid hown'
          have HE := Lib.hid hne'
          have HG := Lib.hid hg'
          clear hown' hgrow hnn hne' hg' hown hne
          go_wp2
          go_roundw
          case rel =>
            refine ⟨k + 1, by omega, by omega, by go_num, fun j q hj hq => ?_, HW.out, HE.out, HG.out, HB.out⟩
            rcases Nat.lt_or_eq_of_le (Nat.le_of_lt_succ hj) with h | rfl
            · exact HA.out j q h hq
            · rw [HP.out] at hq
              cases hq
              exact HOK.out
          case measure => simp [intOf]; omega
    · obtain rfl : k = (pieces s).length := by omega
      have HO := Lib.hid (rlOk_yes HN.out (by omega) HA.out)
      rw [rlC_all s HN.out] at hown
      have HW := Lib.hid hown
      have HE := Lib.hid hne
      have HL := Lib.hid (rlV_len s HN.out)
      clear hown hne
      go_wp2
      go_ret2
      exact ⟨_, by rw [HO.out]; rfl, hgr, .inl ⟨HO.out, HE.out, by rw [HL.out]; exact HW.out⟩⟩

-- @has markInt64S
set_option maxHeartbeats 800000 in
theorem markInt64S_c (g n cap : Nat) (V : Nat → Value) (w : World) (h : w.rowIs g 2 cap V) (hn : n ≤ cap) (h64 : n ≤ 64) :
    Calls Tryd.prog 17 #[.slice (some ⟨g, 0, none⟩) n cap, .int .i64 1] w fun e w' => e = .returned (.int .i64 (1 + (n : Int))) ∧ w'.rowIs g 2 cap (fun j => if j < n then .int .i64 (1 + (j : Int)) else V j) ∧ ∀ B, B ≤ g → RowKit.Below B w w' := by
  go_enter Tryd.func17, Tryd.ntmps17
  go_wp2
  go_loopw [1, 5] (fun m i wr => ∃ k : Nat, k ≤ n ∧ i = .int .i64 (k : Int) ∧ m = .int .i64 (1 + (k : Int)) ∧ wr.rowIs g 2 cap (fun j => if j < k then .int .i64 (1 + (j : Int)) else V j) ∧ ∀ B, B ≤ g → RowKit.Below B w wr) (fun _ i _ => n - (intOf i).toNat)
  case atStart => exact ⟨0, Nat.zero_le _, rfl, rfl, h.congr fun j _ => by simp, fun B _ => RowKit.Below.refl _ _⟩
  case round =>
    obtain ⟨k, hk, rfl, rfl, hrow, hB⟩ := hrel
    have HB := Lib.hid hB
    clear hB
    by_cases hlt : k < n
    · have c1 := hrow.cell (i := k) (by omega)
      have c2 := hrow.frozen k
      go_wp2
      go_roundw
      case rel =>
        refine ⟨k + 1, by omega, by go_num, by go_num, (hrow.set k _).congr fun j _ => ?_, fun B hB => (HB.out B hB).setCell hB _⟩
        by_cases e : j = k
        · subst e; simp
        · have : (j < k + 1) = (j < k) := by apply propext; omega
          simp [e, this]
      case measure => simp [intOf]; omega
    · obtain rfl : k = n := by omega
      go_wp2
      go_ret
      exact ⟨rfl, hrow, HB.out⟩
theorem markNil_c (w : World) : Calls Tryd.prog 17 #[.slice none 0 0, .int .i64 1] w (RetV (.int .i64 1) w) := by
  go_enter Tryd.func17, Tryd.ntmps17
  go_wp2
  go_loopw [1, 5] (fun m i wr => i = .int .i64 0 ∧ m = .int .i64 1 ∧ wr = w) (fun _ _ _ => 0)
  case atStart => exact ⟨rfl, rfl, rfl⟩
  case round =>
    obtain ⟨rfl, rfl, rfl⟩ := hrel
    go_wp2
    go_ret
    exact ⟨0, rfl, rfl⟩
set_option maxHeartbeats 800000 in
theorem heldInt64S_c (g n cap : Nat) (V : Nat → Value) (w : World) (h : w.rowIs g 2 cap V) (hn : n ≤ cap) (h64 : n ≤ 64) (hV : ∀ j, j < n → V j = .int .i64 (1 + (j : Int))) :
    Calls Tryd.prog 18 #[.slice (some ⟨g, 0, none⟩) n cap, .int .i64 1] w (RetV (.int .i64 (1 + (n : Int))) w) := by
  go_enter Tryd.func18, Tryd.ntmps18
  go_wp2
  go_loopw [1, 5] (fun m i wr => ∃ k q : Nat, k ≤ n ∧ i = .int .i64 (k : Int) ∧ m = .int .i64 (1 + (k : Int)) ∧ wr = w.drewN q) (fun _ i _ => n - (intOf i).toNat)
  case atStart => exact ⟨0, 0, Nat.zero_le _, rfl, rfl, rfl⟩
  case round =>
    obtain ⟨k, q, hk, rfl, rfl, rfl⟩ := hrel
    by_cases hlt : k < n
    · have c1 : w.cell? ⟨g, k, none⟩ = some (.int .i64 (1 + (k : Int))) := by rw [← hV k hlt]; exact h.cell (by omega)
      clear h hV
      go_wp2
      go_roundw
      case rel => exact ⟨k + 1, _, by omega, by go_num, by go_num, rfl⟩
      case measure => simp [intOf]; omega
    · obtain rfl : k = n := by omega
      go_wp2
      go_ret
      exact ⟨_, rfl, rfl⟩
theorem heldNil_c (w : World) : Calls Tryd.prog 18 #[.slice none 0 0, .int .i64 1] w (RetV (.int .i64 1) w) := by
  go_enter Tryd.func18, Tryd.ntmps18
  go_wp2
  go_loopw [1, 5] (fun m i wr => i = .int .i64 0 ∧ m = .int .i64 1 ∧ wr = w) (fun _ _ _ => 0)
  case atStart => exact ⟨rfl, rfl, rfl⟩
  case round =>
    obtain ⟨rfl, rfl, rfl⟩ := hrel
    go_wp2
    go_ret
    exact ⟨0, rfl, rfl⟩

-- @has eqInt64S
set_option maxHeartbeats 800000 in
theorem eqInt64S_true (a b : Option Addr) (len ca cb : Nat) (Z : Nat → Int) (w : World) (h1 : SlI .i64 w a len Z) (h2 : SlI .i64 w b len Z) :
    Calls Tryd.prog 12 #[.slice a len ca, .slice b len cb] w (RetV (.bool true) w) := by
  have hm := h1.1
  unfold maxLen at hm
  go_enter Tryd.func12, Tryd.ntmps12
  go_wp2
  go_loopw [5] (fun i wr => ∃ k n : Nat, k ≤ len ∧ i = .int .i64 k ∧ wr = w.drewN n) (fun i _ => len - (intOf i).toNat)
  case atStart => exact ⟨0, 0, Nat.zero_le _, rfl, rfl⟩
  case round =>
    obtain ⟨k, n, hk, rfl, rfl⟩ := hrel
    by_cases hlt : k < len
    · obtain ⟨b1, o1, rfl, hc1⟩ := h1.2 (by omega)
      obtain ⟨b2, o2, rfl, hc2⟩ := h2.2 (by omega)
      have c0 := hc1 k hlt
      have c1 := hc2 k hlt
      clear hc1 hc2 h1 h2
      go_upto_region 6 with fail
      go_cut [25] (fun s25 wx => s25 = .bool false ∧ ∃ m, wx = w.drewN m)
      case first =>
        go_region_with fail
        all_goals
          go_wp2_with fail
          go_meet
          exact ⟨rfl, _, rfl⟩
      case rest =>
        obtain ⟨rfl, m, rfl⟩ := hcut
        go_wp2
        go_roundw
        case rel => exact ⟨k + 1, _, by omega, by go_num, rfl⟩
        case measure => simp [intOf]; omega
    · have : k = len := by omega
      subst this
      go_wp2
      go_ret
      exact ⟨_, rfl, rfl⟩

-- @has FnExactReadList
theorem specReadList_c (s : ByteArray) (w : World) (hs : s.size ≤ 1048576) :
    Calls Tryd.prog 15 #[.string s] w fun e w' => ∃ v, e = .returned (.tuple #[v, .bool (rlOk s)]) ∧ Gro w w' ∧ RL 2 s w w' v := by
  go_enter Tryd.func15, Tryd.ntmps15
  go_wp2_with (go_at_call 28; refine (l01Numbers_c _ _ hs).mono ?_; rintro e w1 ⟨v, rfl, hg, hR⟩; have HR := Lib.hid hR; clear hR)
  go_ret2
  exact ⟨_, rfl, hg, HR.out⟩
set_option maxHeartbeats 4000000 in
theorem walk_FnExactReadList (s : ByteArray) (hz : s.size ≤ maxLen) (w : World) (htab : Lib.TabIs Tryd.prog w "internal/strconv.uint64pow10" .u64 Lib.pow10Tab) {t1 t2 : TypeId} {p1 p2 : Value}
    (hv1 : w.var? Tryd.prog "strconv.ErrSyntax" = some #[.iface t1 p1]) (hv2 : w.var? Tryd.prog "strconv.ErrRange" = some #[.iface t2 p2]) (hmx : ∃ m, w.cell? ⟨3, 0, none⟩ = some (.int .i64 m)) :
    Calls Tryd.prog 6 #[.string s] w fun e w' => e = .returned (.bool true) ∧ Below w.heap.size w w' := by
  obtain ⟨m, hm⟩ := hmx
  unfold maxLen at hz
  by_cases h : 1048576 < s.size
  · have h' : (1048576 : Int) < s.size := by omega
    clear htab hv1 hv2 hm
    go_enter Tryd.func6, Tryd.ntmps6
    go_wp2
    all_goals
      go_ret
      exact ⟨rfl, Below.refl _ _⟩
  have h' : ¬ (1048576 : Int) < s.size := by omega
  have hs : s.size ≤ 1048576 := by omega
  have hT : ∀ w', Gro w w' → Lib.TabIs Tryd.prog w' "internal/strconv.uint64pow10" .u64 Lib.pow10Tab := fun w' h => Lib.tabBelow_of_tabIs htab w' h
  have V1 := Lib.hid (var_below hv1)
  have V2 := Lib.hid (var_below hv2)
  have HM := Lib.hid hm
  clear htab hv1 hv2 hm hz h
  cases hok : rlOk s
  · have HK := Lib.hid hok
    go_enter Tryd.func6, Tryd.ntmps6
    go_wp2_with (first | (go_at_call 15; refine (specReadList_c _ _ hs).mono ?_; rw [HK.out]; rintro e w1 ⟨v, rfl, hg, hR⟩; obtain rfl : v = .slice none 0 0 := hR.elim (fun x => absurd x.1 (by rw [HK.out]; decide)) (fun x => x.2); clear hR) | (go_at_call 16; refine (implReadList_c _ _ hs (hT _ (by repeat (first | with_reducible exact Gro.refl _ | with_reducible apply Gro.drewN | with_reducible apply Gro.drew | with_reducible apply Gro.alloc | with_reducible refine Gro.setCell ?_ (by dsimp only; omega) _ | refine Gro.trans ?_ (by assumption)))) (V1.out _ (by repeat (first | with_reducible exact Gro.refl _ | with_reducible apply Gro.drewN | with_reducible apply Gro.drew | with_reducible apply Gro.alloc | with_reducible refine Gro.setCell ?_ (by dsimp only; omega) _ | refine Gro.trans ?_ (by assumption)))) (V2.out _ (by repeat (first | with_reducible exact Gro.refl _ | with_reducible apply Gro.drewN | with_reducible apply Gro.drew | with_reducible apply Gro.alloc | with_reducible refine Gro.setCell ?_ (by dsimp only; omega) _ | refine Gro.trans ?_ (by assumption)))) (Gro.cell (a := w) (by repeat (first | with_reducible exact Gro.refl _ | with_reducible apply Gro.drewN | with_reducible apply Gro.drew | with_reducible apply Gro.alloc | with_reducible refine Gro.setCell ?_ (by dsimp only; omega) _ | refine Gro.trans ?_ (by assumption))) HM.out)).mono ?_; rw [HK.out]; rintro e w1 ⟨v, rfl, hg, hR⟩; obtain rfl : v = .slice none 0 0 := hR.elim (fun x => absurd x.1 (by rw [HK.out]; decide)) (fun x => x.2); clear hR) | (go_at_call 12; refine (eqInt64S_true none none 0 0 0 (fun _ => 0) _ ⟨Nat.zero_le _, fun h => absurd h (Nat.lt_irrefl _)⟩ ⟨Nat.zero_le _, fun h => absurd h (Nat.lt_irrefl _)⟩).mono ?_; rintro e w1 ⟨n, rfl, rfl⟩) | (go_at_call 17; refine (markNil_c _).mono ?_; rintro e w1 ⟨n, rfl, rfl⟩) | (go_at_call 18; refine (heldNil_c _).mono ?_; rintro e w1 ⟨n, rfl, rfl⟩))
    all_goals
      go_ret
      exact ⟨rfl, by show Gro w _; (repeat (first | with_reducible exact Gro.refl _ | with_reducible apply Gro.drewN | with_reducible apply Gro.drew | refine Gro.trans ?_ (by assumption)))⟩
  · have HK := Lib.hid hok
    have h64 := rlV_64 hok
    go_enter Tryd.func6, Tryd.ntmps6
    go_wp2_with (first | (go_at_call 15; refine (specReadList_c _ _ hs).mono ?_; rw [HK.out]; rintro e w1 ⟨v0, rfl, hg1, hR0⟩; have HR0 := Lib.hid hR0; clear hR0) | (go_at_call 16; refine (implReadList_c _ _ hs (hT _ (by repeat (first | with_reducible exact Gro.refl _ | with_reducible apply Gro.drewN | with_reducible apply Gro.drew | with_reducible apply Gro.alloc | with_reducible refine Gro.setCell ?_ (by dsimp only; omega) _ | refine Gro.trans ?_ (by assumption)))) (V1.out _ (by repeat (first | with_reducible exact Gro.refl _ | with_reducible apply Gro.drewN | with_reducible apply Gro.drew | with_reducible apply Gro.alloc | with_reducible refine Gro.setCell ?_ (by dsimp only; omega) _ | refine Gro.trans ?_ (by assumption)))) (V2.out _ (by repeat (first | with_reducible exact Gro.refl _ | with_reducible apply Gro.drewN | with_reducible apply Gro.drew | with_reducible apply Gro.alloc | with_reducible refine Gro.setCell ?_ (by dsimp only; omega) _ | refine Gro.trans ?_ (by assumption)))) (Gro.cell (a := w) (by repeat (first | with_reducible exact Gro.refl _ | with_reducible apply Gro.drewN | with_reducible apply Gro.drew | with_reducible apply Gro.alloc | with_reducible refine Gro.setCell ?_ (by dsimp only; omega) _ | refine Gro.trans ?_ (by assumption))) HM.out)).mono ?_; rw [HK.out]; rintro e w2 ⟨v1, rfl, hg2, hR1⟩; have HR1 := Lib.hid hR1; clear hR1; refine Hid.out ?_))
    refine Lib.hid ?_
    have hno : ¬ rlOk s = false := by rw [hok]; decide
    obtain ⟨-, n0, o0⟩ := HR0.out.resolve_right (fun x => hno x.1)
    obtain ⟨-, n1, o1⟩ := HR1.out.resolve_right (fun x => hno x.1)
    obtain ⟨g0, cap0, Y0, rfl, b0, le0, mx0, row0, val0⟩ := own_row o0 n0
    obtain ⟨g1, cap1, Y1, rfl, b1, le1, mx1, row1, val1⟩ := own_row o1 n1
    have S0 : SlI .i64 w1 (some ⟨g0, 0, none⟩) (rlV s).length (fun j => (rlV s).getD j 0) := row_SlI row0 le0 mx0 val0
    have S1 : SlI .i64 w2 (some ⟨g1, 0, none⟩) (rlV s).length (fun j => (rlV s).getD j 0) := row_SlI row1 le1 mx1 val1
    clear n0 o0 n1 o1 val0 val1 row0 hok hno HR0 HR1
    go_wp2_with (first | (go_at_call 12; refine (eqInt64S_true _ _ _ _ _ _ _ S1 (S0.keep hg2)).mono ?_; rintro e w3 ⟨k1, rfl, rfl⟩) | (go_at_call 17; refine (markInt64S_c g1 _ cap1 Y1 _ (rowIs_drewN row1 _) le1 h64).mono ?_; rintro e w3 ⟨rfl, row3, hB3⟩; refine Hid.out ?_))
    refine Lib.hid ?_
    have hg3 : Gro w1 w3 := RowKit.Below.trans (Gro.drewN hg2 _) (hB3 _ b1)
    have HV : Hid (∀ j, j < (rlV s).length → (if j < (rlV s).length then Value.int .i64 (1 + (j : Int)) else Y1 j) = .int .i64 (1 + (j : Int))) := Lib.hid fun j hj => if_pos hj
    have RW := Lib.hid row3
    have HS := Lib.hid S0
    clear row1 row3 hB3 S0 S1
    go_wp2_with (first | (go_at_call 18; refine (heldInt64S_c g1 _ cap1 _ _ RW.out le1 h64 HV.out).mono ?_; rintro e w4 ⟨k2, rfl, rfl⟩) | (go_at_call 16; refine (implReadList_c _ _ hs (hT _ (Gro.drewN (Gro.trans hg1 hg3) _)) (V1.out _ (Gro.drewN (Gro.trans hg1 hg3) _)) (V2.out _ (Gro.drewN (Gro.trans hg1 hg3) _)) (Gro.cell (a := w) (Gro.drewN (Gro.trans hg1 hg3) _) HM.out)).mono ?_; rw [HK.out]; rintro e w5 ⟨v2, rfl, hg5, hR2⟩; have HR2 := Lib.hid hR2; clear hR2; refine Hid.out ?_))
    refine Lib.hid ?_
    obtain ⟨-, n2, o2⟩ := HR2.out.resolve_right (fun x => absurd x.1 (by rw [HK.out]; decide))
    obtain ⟨g2, cap2, Y2, rfl, b2, le2, mx2, row2, val2⟩ := own_row o2 n2
    have S2 : SlI .i64 w5 (some ⟨g2, 0, none⟩) (rlV s).length (fun j => (rlV s).getD j 0) := row_SlI row2 le2 mx2 val2
    have hg15 : Gro w1 w5 := Gro.trans (Gro.drewN hg3 _) hg5
    have R5 := Lib.hid (rowIs_keep (rowIs_drewN RW.out _) hg5)
    clear n2 o2 val2 row2 HR2
    go_wp2_with (first | (go_at_call 12; refine (eqInt64S_true _ _ _ _ _ _ _ S2 (HS.out.keep hg15)).mono ?_; rintro e w6 ⟨k5, rfl, rfl⟩) | (go_at_call 18; refine (heldInt64S_c g1 _ cap1 _ _ (rowIs_drewN R5.out _) le1 h64 HV.out).mono ?_; rintro e w7 ⟨k6, rfl, rfl⟩))
    all_goals
      go_ret
      exact ⟨rfl, by show Gro w _; (repeat (first | with_reducible exact Gro.refl _ | with_reducible apply Gro.drewN | with_reducible apply Gro.drew | refine Gro.trans ?_ (by assumption)))⟩

end Go.Proofs.YtjigmdfgmbdcmaaDoor
