/- Contracts of Go functions: what each returns, as a class of words, whatever the world. -/
import Derived.Test.YtjigmdfgmbdcmaaDoorDec
import Derived.Test.YtjigmdfgmbdcmaaDoorShd
import Derived.Test.YtjigmdfgmbdcmaaDoorProg
import Derived.BigQuiet
import Derived.Deep.QuietTactic
import Derived.Deep.RegionHeld3
import Derived.Deep.DeepFit
import Derived.WalkSpells
import Derived.Lib.Hide
import Derived.WalkSmall
import Derived.Deep.DeepCutAuto
namespace Go.Proofs.YtjigmdfgmbdcmaaDoor
open Go.RowKit Go.Fl

-- @has l01Dec
theorem info_u8 : (Tryd.prog.info? 5).map (fun i => (i.zero, i.size, i.bytes)) = some (some (.int .u8 0), 1, 1) := by kernel_rfl
set_option maxRecDepth 100000 in
set_option maxHeartbeats 2000000 in
theorem l01Dec_c (n : Int) (h0 : -9223372036854775808 ≤ n) (h1 : n ≤ 9223372036854775807) (w : World) :
    Calls Tryd.prog 19 #[.int .i64 n] w fun e w' => e = .returned (.string ⟨(Lib.itoa n).toArray⟩) ∧ Gro w w' := by
  obtain ⟨i0, hi, hz0, hz1, hz2⟩ := info_parts info_u8
  go_enter Tryd.func19, Tryd.ntmps19
  go_wp2
  have hu20 : Lib.nDigits n.natAbs ≤ 20 := nDigits_20 h0 h1
  go_loopw [3, 4] (fun out rest wr => ∃ r ds, rest = .int .i64 r ∧ -9223372036854775808 ≤ r ∧ r ≤ 9223372036854775807 ∧ decInv n.natAbs r ds ∧ ByteRow w wr out ds) (fun out rest _ => (intOf rest).natAbs + (1 - lenOf out))
  case atStart => exact ⟨n, [], rfl, h0, h1, decInv_start n, w.heap.size, 0, rfl, fun j u hj => by simp [Lib.byteCells] at hj, (Gro.refl w).alloc _⟩
  case round =>
    obtain ⟨r, ds, rfl, r0, r1, hinv, g, cap, rfl, hc, hg⟩ := hrel
    have hlen := decInv_len hinv
    have HI := Lib.hid hinv
    have HC := Lib.hid hc
    clear hinv hc
    by_cases hdone : ¬ (r = 0 ∧ ds ≠ [])
    · obtain ⟨D, hD⟩ : ∃ D : Nat, D = r.natAbs % 10 := ⟨_, rfl⟩
      have hD9 : D ≤ 9 := by omega
      have htm := tmod_cases r
      rw [← hD] at htm
      have HD := Lib.hid hD
      have hstep := Lib.hid (decInv_step HI.out hdone)
      have hrq := tdiv_in r0 r1
      have hsz := hg.size
      clear hD
      have hdone' := Lib.hid hdone
      have HX : Hid (ds.length = 0 ∨ r ≠ 0) := Lib.hid (by
        by_cases e : ds = []
        · left; rw [e]; rfl
        · exact .inr fun h => hdone'.out ⟨h, e⟩)
      clear hdone
      have hdisj : ((ds.length : Int) == 0) = true ∨ (((ds.length : Int) == 0) = false ∧ (r != 0) = true) := by
        by_cases e : ds = []
        · left; rw [e]; rfl
        · exact .inr ⟨by simp [e], by simpa using fun h => hdone'.out ⟨h, e⟩⟩
      rcases hdisj with hl0 | ⟨hl0, hr0⟩
      all_goals rcases htm with ⟨hm, hm0⟩ | hm
      all_goals
        go_wp2_with (at_builtin; refine wpList_append_own _ rfl _ _ 46 rfl w.heap.size 5 i0 (.int .u8 0) 1 1 Tryd.underlying46 hi hz0 hz1 hz2 rfl (by decide) _ _ _ rfl (ownsRow_lit hsz) ⟨g, 0, none⟩ ds.length cap (Lib.byteCells ds) rfl (by simp [Lib.byteCells]) (fun j u hj => Gro.cell ((Gro.refl _).alloc _) (HC.out j u hj)) (by intro u hu; simp [Lib.byteCells] at hu; obtain ⟨x, -, rfl⟩ := hu; rfl) (by unfold maxLen; omega) (by omega) (by simp; omega) ?_)
        intro v' w' hown hgrow hnn
        have hne : v' ≠ .slice none 0 0 := fun e => by simp [e] at hnn
        have hg' : Gro w w' := RowKit.Below.grown (Gro.alloc hg _) hgrow (by simp; omega) (fun k hk => by simp [Value.ownBlock] at hk; omega)
        have e1 : 1 + ds.length = (UInt8.ofNat (48 + D) :: ds).length := by simp; omega
        have e2 : Value.int .u8 (48 + (D : Int)) :: Lib.byteCells ds = Lib.byteCells (UInt8.ofNat (48 + D) :: ds) := byte_cons hD9 ds
        rw [e1, e2] at hown
        have HO := Lib.hid (ByteRow.grow hown hg' hne)
        clear hown hgrow hnn e1 e2
        go_wp2
        go_roundw
        case rel => exact ⟨r.tdiv 10, UInt8.ofNat (48 + D) :: ds, rfl, hrq.1, hrq.2, by rw [HD.out]; exact hstep.out, HO.out⟩
        case measure =>
          obtain ⟨g', cap', rfl, -⟩ := HO.out
          have hx := HX.out
          have hq := natAbs_tdiv r
          dsimp only [intOf, lenOf, List.length_cons]
          rw [hq]
          omega
    · obtain ⟨rfl, hne⟩ : r = 0 ∧ ds ≠ [] := Decidable.not_not.1 hdone
      have hend := decInv_end HI.out hne
      have hb1 : ((ds.length : Int) == 0) = false := by simp [hne]
      have hsz := hg.size
      have HN := Lib.hid hne
      clear hdone hne
      by_cases hn : n < 0
      · have hit : Lib.itoa n = 45 :: ds := by rw [← hend]; unfold Lib.itoa; rw [if_pos hn]
        have HT := Lib.hid hit
        clear hend hit
        go_wp2_with (at_builtin; refine wpList_append_own _ rfl _ _ 46 rfl w.heap.size 5 i0 (.int .u8 0) 1 1 Tryd.underlying46 hi hz0 hz1 hz2 rfl (by decide) _ _ _ rfl (ownsRow_lit hsz) ⟨g, 0, none⟩ ds.length cap (Lib.byteCells ds) rfl (by simp [Lib.byteCells]) (fun j u hj => Gro.cell ((Gro.refl _).alloc _) (HC.out j u hj)) (by intro u hu; simp [Lib.byteCells] at hu; obtain ⟨x, -, rfl⟩ := hu; rfl) (by unfold maxLen; omega) (by omega) (by simp; omega) ?_)
        intro v' w' hown hgrow hnn
        have hne : v' ≠ .slice none 0 0 := fun e => by simp [e] at hnn
        have hg' : Gro w w' := RowKit.Below.grown (Gro.alloc hg _) hgrow (by simp; omega) (fun k hk => by simp [Value.ownBlock] at hk; omega)
        have e1 : 1 + ds.length = (45 :: ds).length := by simp; omega
        have e2 : Value.int .u8 45 :: Lib.byteCells ds = Lib.byteCells (45 :: ds) := rfl
        rw [e1, e2] at hown
        obtain ⟨g', cap', rfl, hc', -⟩ := ByteRow.grow hown hg' hne
        obtain ⟨l, hl⟩ : ∃ l, l = (45 : UInt8) :: ds := ⟨_, rfl⟩
        rw [← hl] at hc' HT ⊢
        clear hown hgrow hnn e1 e2 hne
        have hcv := run_convert_bytes_back (P := Tryd.prog) w' 46 9 5 ⟨g', 0, none⟩ cap' l Tryd.underlying46 Tryd.underlying5 Tryd.underlying9 (fun j hj => hc' j _ (by simp [Lib.byteCells, hj]))
        clear hl hc'
        go_wp2
        go_ret
        rw [HT.out]
        exact ⟨rfl, hg'⟩
      · have hit : Lib.itoa n = ds := by
          rw [← hend]; unfold Lib.itoa; rw [if_neg hn]; congr 1; omega
        have HT := Lib.hid hit
        have hcv := run_convert_bytes_back (P := Tryd.prog) wr 46 9 5 ⟨g, 0, none⟩ cap ds Tryd.underlying46 Tryd.underlying5 Tryd.underlying9 (fun j hj => HC.out j _ (by simp [Lib.byteCells, hj]))
        clear hend hit
        go_wp2
        go_ret
        rw [HT.out]
        exact ⟨rfl, hg⟩

-- @has Decimal
theorem specDecimal_c (n : Int) (h0 : -9223372036854775808 ≤ n) (h1 : n ≤ 9223372036854775807) (w : World) :
    Calls Tryd.prog 7 #[.int .i64 n] w fun e w' => e = .returned (.string ⟨(Lib.itoa n).toArray⟩) ∧ Gro w w' := by
  go_enter Tryd.func7, Tryd.ntmps7
  go_wp2_with (go_at_call 19; refine (l01Dec_c _ h0 h1 _).mono ?_; rintro e w1 ⟨rfl, hg⟩)
  go_ret
  exact ⟨rfl, hg⟩
theorem implDecimal_c (n : Int) (h0 : -9223372036854775808 ≤ n) (h1 : n ≤ 9223372036854775807) (w : World) (htab : Lib.TabIs Tryd.prog w "internal/strconv.uint64pow10" .u64 Lib.pow10Tab) :
    Calls Tryd.prog 8 #[.int .i64 n] w fun e w' => e = .returned (.string ⟨(Lib.itoa n).toArray⟩) ∧ Gro w w' := by
  go_enter Tryd.func8, Tryd.ntmps8
  go_wp2_with (go_at_call 20; refine (Tryd.strconv_FormatInt_10 _ h0 h1 _ htab).mono ?_; rintro e w1 ⟨rfl, k, os, rfl⟩)
  go_ret
  exact ⟨rfl, Lib.below_grow _ _ (Nat.le_refl _) _ _⟩

-- @has FnExactDecimal
theorem walk_FnExactDecimal (n : Int) (hn : (Lit.int .i64 n).wf = true) (w : World) (htab : Lib.TabIs Tryd.prog w "internal/strconv.uint64pow10" .u64 Lib.pow10Tab) :
    Calls Tryd.prog 3 #[.int .i64 n] w fun e w' => e = .returned (.bool true) ∧ Below w.heap.size w w' := by
  obtain ⟨h0, h1⟩ := wf_i64 hn
  have hT := Lib.tabBelow_of_tabIs htab
  clear hn
  go_enter Tryd.func3, Tryd.ntmps3
  go_wp2_with (first | (go_at_call 7; refine (specDecimal_c _ h0 h1 _).mono ?_; rintro e w1 ⟨rfl, hg⟩) | (go_at_call 8; refine (implDecimal_c _ h0 h1 _ (hT _ hg)).mono ?_; rintro e w1 ⟨rfl, hg2⟩))
  go_ret
  exact ⟨rfl, Gro.trans hg hg2⟩

end Go.Proofs.YtjigmdfgmbdcmaaDoor
