/- Contracts of Go functions: what each returns, as a class of words, whatever the world. -/
import Derived.Test.YtaakellldlamaaaDoorHex
import Derived.Test.YtaakellldlamaaaDoorShj
import Derived.Test.YtaakellldlamaaaDoorProg
import Derived.BigQuiet
import Derived.Deep.QuietTactic
import Derived.Deep.RegionHeld3
import Derived.Deep.DeepFit
import Derived.WalkSpells
import Derived.Lib.Hide
import Derived.WalkSmall
import Derived.Deep.DeepCutAuto
namespace Go.Proofs.YtaakellldlamaaaDoor
open Go.RowKit Go.Fl

-- @has toFloat32S
theorem info_f32 : (Tryd.prog.info? 32).map (fun i => (i.zero, i.size, i.bytes)) = some (some (.float .f32 0), 1, 4) := by kernel_rfl
set_option maxHeartbeats 800000 in
theorem toFloat32S_c (a : Option Addr) (len cap : Nat) (Z : Nat → Nat) (w : World) (h : SlF w a len Z) (hl : len ≤ 1048576) :
    Calls Tryd.prog 8 #[.slice a len cap] w fun e w' => ∃ g, e = .returned (.slice (some ⟨g, 0, none⟩) len len) ∧ SlF w' (some ⟨g, 0, none⟩) len Z ∧ Gro w w' := by
  have hmk := run_make_row' (P := Tryd.prog) 22 32 (.float .f32 0) 4 Tryd.underlying22 info_f32 rfl .i64 .i64 len (by omega) (by omega)
  go_enter Tryd.func8, Tryd.ntmps8
  go_wp2
  have hr0 := World.rowIs_made w (.float .f32 0) len 32
  have hg0 : Gro w (w.alloc (.cells (madeCells #[.float .f32 0] len) 32)) := (Gro.refl w).alloc _
  generalize hB : w.alloc (.cells (madeCells #[.float .f32 0] len) 32) = w2 at hr0 hg0
  go_loopw [4] (fun i wr => ∃ k : Nat, k ≤ len ∧ i = .int .i64 k ∧ wr.rowIs w.heap.size 32 len (fun j => if j < k then .float .f32 (Z j) else .float .f32 0) ∧ Gro w wr) (fun i _ => len - (intOf i).toNat)
  case atStart => exact ⟨0, Nat.zero_le _, rfl, hr0.congr fun j _ => by simp, hg0⟩
  case round =>
    obtain ⟨k, hk, rfl, hrow, hg⟩ := hrel
    by_cases hlt : k < len
    · obtain ⟨b, off, rfl, hc⟩ := h.2 (by omega)
      have c0 := hg.cell (hc k hlt)
      have c1 := hrow.cell hlt
      have c2 := hrow.frozen k
      clear hc hmk
      go_wp2
      go_roundw
      case rel =>
        refine ⟨k + 1, by omega, by go_num, (hrow.set k _).congr fun j _ => ?_, hg.setCell (Nat.le_refl _) _⟩
        by_cases e : j = k
        · subst e; simp
        · have : (j < k + 1) = (j < k) := by apply propext; omega
          simp [e, this]
      case measure => simp [intOf]; omega
    · have : k = len := by omega
      subst this
      clear hmk
      go_wp2
      go_ret
      exact ⟨_, rfl, SlAt.row h.1 (hrow.congr fun j hj => by simp [hj]), hg⟩

-- @has sameFloat
set_option maxHeartbeats 400000 in
theorem sameFloat_true (a b : Nat) (h : cl .f64 a = cl .f64 b) (w : World) :
    Calls Tryd.prog 27 #[.float .f64 a, .float .f64 b] w (RetV (.bool true) w) := by
  generalize hb : cl .f64 b = c at h
  rcases c with _ | c
  · go_enter Tryd.func27, Tryd.ntmps27
    go_wp2
    go_ret
    exact ⟨0, rfl, rfl⟩
  · have hs := ford_self h
    rcases h0 : ford .f64 (some c) (cl .f64 0) with _ | (_ | _ | _)
    all_goals
      go_enter Tryd.func27, Tryd.ntmps27
      go_wp2_with (refine wpList_farith _ _ _ _ _ _ rfl rfl _ _ _ rfl rfl rfl ?_; intro b1 n1 h1)
      go_ret
      first | exact ⟨0, rfl, rfl⟩ | exact ⟨_, rfl, rfl⟩

-- @has eqFloat32S
set_option maxHeartbeats 800000 in
set_option maxRecDepth 10000 in
theorem eqFloat32S_true (a b : Option Addr) (len ca cb : Nat) (Y Z : Nat → Nat) (w : World) (h1 : SlF w a len Y) (h2 : SlF w b len Z) (he : ∀ j, j < len → cl .f32 (Y j) = cl .f32 (Z j)) :
    Calls Tryd.prog 10 #[.slice a len ca, .slice b len cb] w fun e w' => e = .returned (.bool true) ∧ Gro w w' := by
  have hm := h1.1
  unfold maxLen at hm
  go_enter Tryd.func10, Tryd.ntmps10
  go_wp2
  go_loopw [5] (fun i wr => ∃ k : Nat, k ≤ len ∧ i = .int .i64 k ∧ Gro w wr) (fun i _ => len - (intOf i).toNat)
  case atStart => exact ⟨0, Nat.zero_le _, rfl, Gro.refl _⟩
  case round =>
    obtain ⟨k, hk, rfl, hg⟩ := hrel
    by_cases hlt : k < len
    · obtain ⟨b1, o1, rfl, hc1⟩ := h1.2 (by omega)
      obtain ⟨b2, o2, rfl, hc2⟩ := h2.2 (by omega)
      have c0 : wr.cell? ⟨b1, o1 + k, none⟩ = some (.float .f32 (Y k)) := hg.cell (hc1 k hlt)
      have c1 : wr.cell? ⟨b2, o2 + k, none⟩ = some (.float .f32 (Z k)) := hg.cell (hc2 k hlt)
      have hek := he k hlt
      clear hc1 hc2 he h1 h2
      go_upto_region 6 with fail
      go_cut [28] (fun s28 wx => s28 = .bool false ∧ Gro w wx)
      case first =>
        go_region_with (first | (refine upon_widen _ _ _ _ Tryd.underlying48 (by rw [Tryd.underlying32]; rfl) ?_; intro b1 n1 h1) | (refine wpList_widen _ _ _ _ rfl _ rfl Tryd.underlying48 (by rw [Tryd.underlying32]; rfl) rfl ?_; intro b1 n1 h1) | (go_at_call 27; refine (sameFloat_true _ _ (by simp only [*]) _).mono ?_; rintro e w1 ⟨m1, rfl, rfl⟩))
        all_goals
          go_wp2_with fail
          go_meet
          exact ⟨rfl, by (repeat (first | assumption | apply Gro.drewN | apply Gro.drew))⟩
      case rest =>
        obtain ⟨rfl, hg2⟩ := hcut
        go_wp2
        go_roundw
        case rel => exact ⟨k + 1, by omega, by go_num, hg2⟩
        case measure => simp [intOf]; omega
    · have : k = len := by omega
      subst this
      go_wp2
      go_ret
      exact ⟨rfl, hg⟩

-- @has l01Few
theorem l01Few_c (a : Option Addr) (len cap : Nat) (w : World) (hm : len ≤ maxLen) :
    Calls Tryd.prog 23 #[.slice a len cap] w (RetV (.bool (decide (len ≤ 256))) w) := by
  unfold maxLen at hm
  go_enter Tryd.func23, Tryd.ntmps23
  go_wp2
  go_ret
  exact ⟨0, by simp; omega, rfl⟩

-- @has Float32bits
theorem f32bits_run (x : Nat) (w : World) : (callFunc 47 #[.float .f32 x]).run Tryd.prog w = .ok (.value (.int .u32 x)) w := by
  rw [run_callFunc_extern Tryd.func47 (e := Extern.MathFloatBits.float32bits) (by kernel_rfl) (by kernel_rfl) (by kernel_rfl) (by kernel_rfl)]; rfl

-- @has l01Bits
theorem l01Bits_c (b : Nat) (hb : WfC .f32 (cl .f32 b)) (w : World) :
    Calls Tryd.prog 41 #[.float .f32 b] w (RetV (.int .i64 (bitsC (cl .f32 b))) w) := by
  have hx := f32bits_run
  rcases h : cl .f32 b with _ | c
  · go_enter Tryd.func41, Tryd.ntmps41
    go_wp2
    go_ret
    exact ⟨0, rfl, rfl⟩
  · have hs := ford_self h
    obtain ⟨rfl, -⟩ := cl_some h
    have hb' : b < 2 ^ 32 := hb _ h
    clear hb
    go_enter Tryd.func41, Tryd.ntmps41
    go_wp2
    go_ret
    exact ⟨0, rfl, rfl⟩

-- @has l01Hex
theorem info_u8h : (Tryd.prog.info? 5).map (fun i => (i.zero, i.size, i.bytes)) = some (some (.int .u8 0), 1, 1) := by kernel_rfl
set_option maxHeartbeats 4000000 in
set_option maxRecDepth 100000 in
theorem l01Hex_c (b : Nat) (hb : b < 4294967296) (w : World) :
    Calls Tryd.prog 34 #[.float .f32 b] w fun e w' => e = .returned (.string (hexT b)) ∧ Gro w w' := by
  obtain ⟨i0, hi, hz0, hz1, hz2⟩ := info_parts info_u8h
  have hbits := l01Bits_c b (wf_cl (show b < 2 ^ 32 by omega))
  rw [nb_int] at hbits
  have hnb := nb_le hb
  have HT := Lib.hid (show hexT b = ⟨(hexW 8 (nb b)).toArray⟩ from rfl)
  generalize nb b = n at *
  go_enter Tryd.func34, Tryd.ntmps34
  go_wp2_with (go_at_call 41; refine (hbits _).mono ?_; rintro e w1 ⟨n1, rfl, rfl⟩)
  go_loopw [4, 5] (fun v kk wr => ∃ (r : Nat) (ds : List UInt8), r ≤ 8 ∧ kk = .int .i64 (4 * (r : Int) - 4) ∧ Hid (ds ++ hexW r n = hexW 8 n) ∧ ds.length + r = 8 ∧ wr.ownsRow w.heap.size 5 1 v ds.length (Lib.byteCells ds) ∧ v ≠ .slice none 0 0 ∧ Gro w wr) (fun _ kk _ => (intOf kk + 4).toNat)
  case atStart => exact ⟨8, [], by omega, rfl, Lib.hid rfl, rfl, ownsRow_empty (Nat.le_refl _), by simp, Gro.alloc (Gro.drewN (Gro.refl _) _) _⟩
  case round =>
    obtain ⟨r, ds, hr, rfl, HD, hlen, hown, hne, hg⟩ := hrel
    have hsz := hg.size
    by_cases h0 : r = 0
    · subst h0
      have hds : ds = hexW 8 n := by have := HD.out; rw [hexW, List.append_nil] at this; exact this
      rcases hown.2 with ⟨e, -⟩ | ⟨g, cap, cur, rfl, -⟩
      · exact absurd e hne
      have hc := hown.cells (g := g) rfl
      have hcv := run_convert_bytes_back (P := Tryd.prog) wr 70 9 5 ⟨g, 0, none⟩ cap ds Tryd.underlying70 Tryd.underlying5 Tryd.underlying9 (fun j hj => hc j _ (by simp [Lib.byteCells, hj]))
      rw [hds] at hcv
      have hl8 : ds.length = 8 := by omega
      rw [hl8]
      rw [hexW_len] at hcv
      clear hown hc hds hne
      go_wp2
      go_ret
      exact ⟨by rw [HT.out]; rfl, hg⟩
    · obtain ⟨m, D, hm1, hm2, hm3, hk⟩ : ∃ (m : Int) (D : Nat), (n : Int) / 16 ^ (r - 1) = m ∧ bits .and .i64 m 15 = (D : Int) ∧ D < 16 ∧ Hid (hxc D :: hexW (r - 1) n = hexW r n) := by
        refine ⟨_, n / 16 ^ (r - 1) % 16, rfl, ?_, Nat.mod_lt _ (by decide), Lib.hid ?_⟩
        · have e : (n : Int) / 16 ^ (r - 1) = ((n / 16 ^ (r - 1) : Nat) : Int) := by push_cast; rfl
          rw [e]
          exact and15_i64 _ (Nat.lt_of_le_of_lt (Nat.div_le_self _ _) (by omega))
        · obtain ⟨q, rfl⟩ : ∃ q, r = q + 1 := ⟨r - 1, by omega⟩
          rfl
      have HS : Hid ((ds ++ [hxc D]) ++ hexW (r - 1) n = hexW 8 n) := Lib.hid (by rw [List.append_assoc, List.singleton_append, hk.out]; exact HD.out)
      have HDG := Lib.hid (fun hs => dig16 D hm3 hs)
      have hle : ds.length ≤ 7 := by omega
      clear hk
      obtain rfl | rfl | rfl | rfl | rfl | rfl | rfl | rfl : r = 1 ∨ r = 2 ∨ r = 3 ∨ r = 4 ∨ r = 5 ∨ r = 6 ∨ r = 7 ∨ r = 8 := by omega
      all_goals
        simp at hm1
        subst hm1
        simp only [show (4 * ((1 : Nat) : Int) - 4) = 0 from rfl, show (4 * ((2 : Nat) : Int) - 4) = 4 from rfl, show (4 * ((3 : Nat) : Int) - 4) = 8 from rfl, show (4 * ((4 : Nat) : Int) - 4) = 12 from rfl, show (4 * ((5 : Nat) : Int) - 4) = 16 from rfl, show (4 * ((6 : Nat) : Int) - 4) = 20 from rfl, show (4 * ((7 : Nat) : Int) - 4) = 24 from rfl, show (4 * ((8 : Nat) : Int) - 4) = 28 from rfl]
        go_wp2_with (at_builtin; refine wpList_append_own _ rfl _ _ 70 rfl w.heap.size 5 i0 (.int .u8 0) 1 1 Tryd.underlying70 hi hz0 hz1 hz2 rfl (by decide) _ _ _ rfl (hown.alloc _) ⟨wr.heap.size, 0, none⟩ 1 1 [_] rfl rfl (cell_new1 _ _ _) (fun x hx => by simp at hx; subst hx; rfl) (by unfold maxLen; omega) (by omega) (by simp; omega) ?_)
        intro v' w' hown' hgrow hnn
        have hne' : v' ≠ .slice none 0 0 := hnn
        have hg' : Gro w w' := RowKit.Below.grown (Gro.alloc hg _) hgrow (by simp; omega) (fun j hj => (World.ownsRow.lt hown j hj).1)
        rw [HDG.out (Nat.lt_of_lt_of_le hm3 (by decide))] at hown'
        have e1 : Lib.byteCells ds ++ [.int .u8 ((hxc D).toNat : Int)] = Lib.byteCells (ds ++ [hxc D]) := by simp [Lib.byteCells]
        have e2 : (ds ++ [hxc D]).length = ds.length + 1 := by simp
        rw [e1] at hown'
        have HO := Lib.hid hown'
        have HN := Lib.hid hne'
        have HG := Lib.hid hg'
        clear hown' hgrow hnn hne' hg' e1 hown hne
        go_wp2
        go_roundw
        case rel => exact ⟨_, ds ++ [hxc D], by omega, by go_num, HS, by rw [e2]; exact hlen, by first | exact HO.out | (rw [e2]; exact HO.out) | (rw [e2, hlen]; exact HO.out), HN.out, HG.out⟩
        case measure => simp [intOf]

-- @has l01NText
set_option maxHeartbeats 2000000 in
theorem l01NText_c (a : Option Addr) (len cap : Nat) (Z : Nat → Nat) (w : World) (h : SlF w a len Z) (hz : ∀ j, Z j < 4294967296) (hl : len ≤ 256) :
    Calls Tryd.prog 24 #[.slice a len cap] w fun e w' => e = .returned (.string (textG (hexZ Z) len)) ∧ Gro w w' := by
  have hm := h.1
  unfold maxLen at hm
  have HZ := Lib.hid hz
  clear hz
  by_cases h0 : len = 0
  · subst h0
    go_enter Tryd.func24, Tryd.ntmps24
    go_wp2
    go_ret
    exact ⟨rfl, Gro.refl _⟩
  have h0' : ((len : Int) == 0) = false := by simp [h0]
  obtain ⟨b1, o1, rfl, hc1⟩ := h.2 (by omega)
  have c0 : w.cell? ⟨b1, o1, none⟩ = some (.float .f32 (Z 0)) := hc1 0 (by omega)
  have HC := Lib.hid hc1
  clear hc1 h
  go_enter Tryd.func24, Tryd.ntmps24
  go_wp2_with (go_at_call 34; refine (l01Hex_c _ (HZ.out 0) _).mono ?_; rintro e w1 ⟨rfl, hg0⟩)
  go_loopw [3, 4] (fun s i wr => ∃ k : Nat, 1 ≤ k ∧ k ≤ len ∧ i = .int .i64 (k : Int) ∧ s = .string ⟨(txtG (hexZ Z) k).toArray⟩ ∧ Gro w wr) (fun _ i _ => len - (intOf i).toNat)
  case atStart => exact ⟨1, Nat.le_refl _, by omega, rfl, rfl, hg0⟩
  case round =>
    obtain ⟨k, h1, hk, rfl, rfl, hg⟩ := hrel
    by_cases hlt : k < len
    · have c1 : wr.cell? ⟨b1, o1 + k, none⟩ = some (.float .f32 (Z k)) := hg.cell (HC.out k hlt)
      have L2 := txtG_len (hexZ Z) 8 k (fun j hj => Nat.le_of_eq (hexW_len 8 _))
      have L1 : (hexT (Z k)).size = 8 := hexT_size _
      have HT := Lib.hid (txtG_more (hexZ Z) h1)
      have HX := Lib.hid (show hexT (Z k) = ⟨(hexZ Z k).toArray⟩ from rfl)
      go_wp2_with (go_at_call 34; refine (l01Hex_c _ (HZ.out k) _).mono ?_; rintro e w1 ⟨rfl, hg2⟩)
      go_roundw
      case rel => exact ⟨k + 1, by omega, by omega, by go_num, by rw [HT.out, ← text_app, HX.out], Gro.trans hg hg2⟩
      case measure => simp [intOf]; omega
    · obtain rfl : k = len := by omega
      go_wp2
      go_ret
      exact ⟨by unfold textG; rw [if_neg h0]; rfl, hg⟩

-- @has specNumbersText
theorem specNumbersText_c (a : Option Addr) (len cap : Nat) (Z : Nat → Nat) (w : World) (h : SlF w a len Z) (hz : ∀ j, Z j < 4294967296) :
    Calls Tryd.prog 7 #[.slice a len cap] w fun e w' => e = .returned (.tuple #[.string (if len ≤ 256 then textG (hexZ Z) len else ⟨#[]⟩), .bool (decide (len ≤ 256))]) ∧ Gro w w' := by
  have hm := h.1
  by_cases hl : len ≤ 256
  · have hd : decide (len ≤ 256) = true := decide_eq_true (by omega)
    rw [if_pos hl]
    go_enter Tryd.func7, Tryd.ntmps7
    go_wp2_with (first | (go_at_call 23; refine (l01Few_c _ _ _ _ hm).mono ?_; rintro e w1 ⟨m, rfl, rfl⟩) | (go_at_call 24; refine (l01NText_c _ _ _ _ _ (h.keep (by repeat (first | with_reducible exact Gro.refl _ | with_reducible apply Gro.drewN | with_reducible apply Gro.drew | with_reducible apply Gro.alloc | with_reducible refine Gro.setCell ?_ (by dsimp only; omega) _ | refine Gro.trans ?_ (by assumption)))) hz hl).mono ?_; rintro e w1 ⟨rfl, hg⟩))
    go_ret2
    exact ⟨by rw [hd]; rfl, Gro.trans (Gro.drewN (Gro.refl _) _) hg⟩
  · have hd : decide (len ≤ 256) = false := decide_eq_false (by omega)
    rw [if_neg hl]
    go_enter Tryd.func7, Tryd.ntmps7
    go_wp2_with (go_at_call 23; refine (l01Few_c _ _ _ _ hm).mono ?_; rintro e w1 ⟨m, rfl, rfl⟩)
    go_ret2
    exact ⟨by rw [hd]; rfl, Gro.drewN (Gro.refl _) _⟩

-- @has trail16
theorem trail16_c (w : World) (hd : w.cell? ⟨6, 15, none⟩ = some (.int .u8 4)) :
    Calls Tryd.prog 79 #[.int .u64 16] w (RetV (.int .i64 4) w) := by
  have h64 : Calls Tryd.prog 90 #[.int .u64 16] w (RetV (.int .i64 4) w) := by
    have e1 : IntKind.u64.wrap (-16) = 18446744073709551600 := by decide
    have e2 : bits .and .u64 16 18446744073709551600 = 16 := by decide
    go_enter Tryd.func90, Tryd.ntmps90
    go_wp2
    go_ret
    exact ⟨0, rfl, rfl⟩
  go_enter Tryd.func79, Tryd.ntmps79
  go_wp2_with (go_at_call 90; refine h64.mono ?_; rintro e w1 ⟨n, rfl, rfl⟩)
  go_ret
  exact ⟨_, rfl, rfl⟩
theorem pow2_16 (w : World) : Calls Tryd.prog 78 #[.int .i64 16] w (RetV (.bool true) w) := by
  go_enter Tryd.func78, Tryd.ntmps78
  go_wp2
  go_ret
  exact ⟨0, rfl, rfl⟩

-- @has fmtBits
set_option maxHeartbeats 4000000 in
set_option maxRecDepth 100000 in
theorem fmtBits_c (n : Nat) (hn : n < 4294967296) (w : World) (hd : w.cell? ⟨6, 15, none⟩ = some (.int .u8 4)) :
    Calls Tryd.prog 60 #[.slice none 0 0, .int .u64 n, .int .i64 16, .bool false, .bool false] w fun e w' => ∃ L, 1 ≤ L ∧ L ≤ 8 ∧ n < 16 ^ L ∧ e = .returned (.tuple #[.slice none 0 0, .string ⟨(hexW L n).toArray⟩]) ∧ Gro w w' := by
  go_enter Tryd.func60, Tryd.ntmps60
  go_wp2_with (first | (go_at_call 78; refine (pow2_16 _).mono ?_; rintro e w1 ⟨n1, rfl, rfl⟩) | (go_at_call 79; refine (trail16_c _ (by first | exact hd | exact Gro.cell (by repeat (first | with_reducible exact Gro.refl _ | with_reducible apply Gro.drewN | with_reducible apply Gro.drew | with_reducible apply Gro.alloc | with_reducible refine Gro.setCell ?_ (by dsimp only; omega) _ | refine Gro.trans ?_ (by assumption))) hd)).mono ?_; rintro e w1 ⟨n2, rfl, rfl⟩))
  have hz : Tryd.zeroCells107 = Array.replicate 65 (.int .u8 0) := by kernel_rfl
  have hr0 : (((w.alloc (Obj.cells Tryd.zeroCells107 107)).drewN (n1 + n2))).rowIs w.heap.size 107 65 (hxV n 65) := by
    rw [hz]
    refine rowIs_drewN ⟨_, heap_alloc_new w _, by simp, fun i hi => ?_⟩ _
    simp [hxV, hi]
  have hg0 : Gro w ((w.alloc (Obj.cells Tryd.zeroCells107 107)).drewN (n1 + n2)) := Gro.drewN ((Gro.refl w).alloc _) _
  generalize (w.alloc (Obj.cells Tryd.zeroCells107 107)).drewN (n1 + n2) = w2 at hr0 hg0
  go_loopw [1, 13] (fun u i wr => ∃ k i0 U : Nat, k + i0 = 65 ∧ k ≤ 7 ∧ u = .int .u64 (U : Int) ∧ i = .int .i64 (i0 : Int) ∧ Hid (U = n / 16 ^ k) ∧ wr.rowIs w.heap.size 107 65 (hxV n i0) ∧ Gro w wr) (fun u _ _ => (intOf u).toNat)
  case atStart => exact ⟨0, 65, n, rfl, by omega, rfl, rfl, Lib.hid (by simp), hr0, hg0⟩
  case round =>
    obtain ⟨k, i0, U, hk, hk7, rfl, rfl, HU, hrow, hg⟩ := hrel
    have hUn : U < 4294967296 := by rw [HU.out]; exact Nat.lt_of_le_of_lt (Nat.div_le_self _ _) hn
    obtain ⟨i1, rfl⟩ : ∃ i1, i0 = i1 + 1 := ⟨i0 - 1, by omega⟩
    have hI : ((i1 + 1 : Nat) : Int) - 1 = (i1 : Int) := by omega
    have c1 := hrow.cell (i := i1) (by omega)
    have c2 := hrow.frozen i1
    have hsz := hg.size
    by_cases h16 : 16 ≤ U
    · have hm := and15_u64 U (by omega)
      have hD : U % 16 < 16 := Nat.mod_lt _ (by decide)
      generalize hDD : U % 16 = D at *
      go_wp2
      go_roundw
      case rel =>
        rw [dig36 D hD]
        refine ⟨k + 1, i1, U / 16, by omega, ?_, by go_num, rfl, Lib.hid (by rw [HU.out, Nat.div_div_eq_div_mul, ← Nat.pow_succ]), (hrow.set i1 _).congr fun j _ => hxV_set n i1 j D ?_, hg.setCell (Nat.le_refl _) _⟩
        · rcases Nat.lt_or_ge k 7 with h | h
          · omega
          · have e7 : k = 7 := by omega
            subst e7
            have h7 := HU.out
            have : (16 : Nat) ^ 7 = 268435456 := by decide
            rw [this] at h7
            omega
        · rw [← hDD, HU.out, show 64 - i1 = k by omega]
      case measure => simp [intOf]; omega
    · have hD : U < 16 := by omega
      have hal : Tryd.prog.arrayLen 107 = 65 := by kernel_rfl
      have hsl : ∀ W, (Instr.sliceAt 107 (.pointer (some ⟨w.heap.size, 0, none⟩)) (some (.int .i64 (i1 : Int))) none none).run Tryd.prog W = .ok (.slice (some ⟨w.heap.size, i1, none⟩) (k + 1) (k + 1)) W := fun W => by
        rw [run_sliceAt_array_l W 107 ⟨w.heap.size, 0, none⟩ (by kernel_rfl) .i64 (i1 : Int) (by omega) (by rw [hal]; omega)]
        have e1 : (65 - i1 : Nat) = k + 1 := by omega
        have e2 : ¬ 65 = i1 := by omega
        have e4 : ¬ i1 = 0 := by omega
        have e3 : (sizeOf (Tryd.prog.elem 107)).run Tryd.prog W = .ok 1 W := by
          have : Tryd.prog.elem 107 = 5 := by kernel_rfl
          rw [this]
          exact Tryd.sizeOf5 W
        rw [e3, hal]
        simp [slicedAt, Addr.add, e1, e2, e4]
      have hLt : n < 16 ^ (k + 1) := by
        have h1 := HU.out
        rw [Nat.pow_succ]
        have := Nat.div_add_mod n (16 ^ k)
        have h2 : n % 16 ^ k < 16 ^ k := Nat.mod_lt _ (Nat.pow_pos (by decide))
        rw [← h1] at this
        have h3 : 16 ^ k * U ≤ 16 ^ k * 15 := Nat.mul_le_mul_left _ (by omega)
        omega
      have hr3 : (wr.setCell ⟨w.heap.size, i1, none⟩ (.int .u8 ((((ByteArray.mk (List.toArray (48 :: 49 :: 50 :: 51 :: 52 :: 53 :: 54 :: 55 :: 56 :: 57 :: 97 :: 98 :: 99 :: 100 :: 101 :: 102 :: 103 :: 104 :: 105 :: 106 :: 107 :: 108 :: 109 :: 110 :: 111 :: 112 :: 113 :: 114 :: 115 :: 116 :: 117 :: 118 :: 119 :: 120 :: 121 :: 122 :: [])))[U]'(Nat.lt_of_lt_of_le hD (by decide))).toNat : Nat) : Int))).rowIs w.heap.size 107 65 (hxV n i1) := by
        rw [dig36 U hD]
        exact (hrow.set i1 _).congr fun j _ => hxV_set n i1 j U (by rw [show 64 - i1 = k by omega, ← HU.out, Nat.mod_eq_of_lt hD])
      have hcv := run_convert_bytes_back (P := Tryd.prog) (wr.setCell ⟨w.heap.size, i1, none⟩ (.int .u8 ((((ByteArray.mk (List.toArray (48 :: 49 :: 50 :: 51 :: 52 :: 53 :: 54 :: 55 :: 56 :: 57 :: 97 :: 98 :: 99 :: 100 :: 101 :: 102 :: 103 :: 104 :: 105 :: 106 :: 107 :: 108 :: 109 :: 110 :: 111 :: 112 :: 113 :: 114 :: 115 :: 116 :: 117 :: 118 :: 119 :: 120 :: 121 :: 122 :: [])))[U]'(Nat.lt_of_lt_of_le hD (by decide))).toNat : Nat) : Int))) 70 9 5 ⟨w.heap.size, i1, none⟩ (k + 1) (hexW (k + 1) n) Tryd.underlying70 Tryd.underlying5 Tryd.underlying9 (fun j hj => by
        rw [hexW_len] at hj
        have h1 := hr3.cell (i := i1 + j) (by omega)
        have h2 := hexW_get (k + 1) n j hj
        rw [List.getElem?_eq_getElem (by rw [hexW_len]; exact hj)] at h2
        injection h2 with h2
        rw [h2]
        unfold hxV at h1
        rw [if_neg (by omega), show 64 - (i1 + j) = k + 1 - 1 - j by omega] at h1
        rw [Go.WideShapes.add_plain]
        exact h1)
      rw [hexW_len] at hcv
      have hg3 : Gro w (wr.setCell ⟨w.heap.size, i1, none⟩ (.int .u8 ((((ByteArray.mk (List.toArray (48 :: 49 :: 50 :: 51 :: 52 :: 53 :: 54 :: 55 :: 56 :: 57 :: 97 :: 98 :: 99 :: 100 :: 101 :: 102 :: 103 :: 104 :: 105 :: 106 :: 107 :: 108 :: 109 :: 110 :: 111 :: 112 :: 113 :: 114 :: 115 :: 116 :: 117 :: 118 :: 119 :: 120 :: 121 :: 122 :: [])))[U]'(Nat.lt_of_lt_of_le hD (by decide))).toNat : Nat) : Int))) := hg.setCell (Nat.le_refl _) _
      have HG := Lib.hid hg3
      clear hr3 hrow hal hg3 hI
      have hI : ((i1 + 1 : Nat) : Int) - 1 = (i1 : Int) := by omega
      go_wp2
      go_ret2
      exact ⟨k + 1, by omega, by omega, hLt, rfl, HG.out⟩

-- @has fmtInt16
theorem fmtInt16_c (n : Nat) (hn : n < 4294967296) (w : World) (hd : w.cell? ⟨6, 15, none⟩ = some (.int .u8 4)) :
    Calls Tryd.prog 35 #[.int .i64 n, .int .i64 16] w fun e w' => ∃ L, 1 ≤ L ∧ L ≤ 8 ∧ n < 16 ^ L ∧ e = .returned (.string ⟨(hexW L n).toArray⟩) ∧ Gro w w' := by
  have hin : Calls Tryd.prog 46 #[.int .i64 n, .int .i64 16] w fun e w' => ∃ L, 1 ≤ L ∧ L ≤ 8 ∧ n < 16 ^ L ∧ e = .returned (.string ⟨(hexW L n).toArray⟩) ∧ Gro w w' := by
    have hneg : ¬ (n : Int) < 0 := by omega
    go_enter Tryd.func46, Tryd.ntmps46
    go_wp2_with (go_at_call 60; refine (fmtBits_c n hn _ (Gro.cell (by repeat (first | with_reducible exact Gro.refl _ | with_reducible apply Gro.drewN | with_reducible apply Gro.drew | with_reducible apply Gro.alloc | with_reducible refine Gro.setCell ?_ (by dsimp only; omega) _ | refine Gro.trans ?_ (by assumption))) hd)).mono ?_; rintro e w1 ⟨L, h1, h2, h3, rfl, hg⟩)
    all_goals
      go_ret
      exact ⟨L, h1, h2, h3, rfl, by show Gro w _; (repeat (first | with_reducible exact Gro.refl _ | with_reducible apply Gro.drewN | with_reducible apply Gro.drew | refine Gro.trans ?_ (by assumption)))⟩
  go_enter Tryd.func35, Tryd.ntmps35
  go_wp2_with (go_at_call 46; refine hin.mono ?_; rintro e w1 ⟨L, h1, h2, h3, rfl, hg⟩)
  go_ret
  exact ⟨L, h1, h2, h3, rfl, hg⟩

-- @has repeat0
theorem hasPre_c (s : ByteArray) (b : Bool) (hs : 1 ≤ s.size) (h : ((s.extract 0 1).toList == [48]) = b) (w : World) :
    Calls Tryd.prog 49 #[.string s, .string ⟨#[48]⟩] w (RetV (.bool b) w) := by
  go_enter Tryd.func49, Tryd.ntmps49
  go_wp2
  go_ret
  exact ⟨0, rfl, rfl⟩
set_option maxHeartbeats 2000000 in
set_option maxRecDepth 100000 in
theorem repeat0_c (c : Nat) (hc : c ≤ 7) (w : World) :
    Calls Tryd.prog 37 #[.string ⟨#[48]⟩, .int .i64 c] w (RetV (.string ⟨(List.replicate c 48).toArray⟩) w) := by
  have hmul := Tryd.bits_Mul 1 c (by decide) (by omega)
  have e1 : 1 * c / 18446744073709551616 = 0 := by omega
  have e2 : 1 * c % 18446744073709551616 = c := by omega
  rw [e1, e2] at hmul
  have e3 : ((({ data := #[48] } : ByteArray)[0].toNat : Int) == 32) = false := by decide
  have e4 : ((({ data := #[48] } : ByteArray)[0].toNat : Int) == 45) = false := by decide
  have e5 : ((({ data := #[48] } : ByteArray)[0].toNat : Int) == 48) = true := by decide
  by_cases h0 : c = 0
  · subst h0
    go_enter Tryd.func37, Tryd.ntmps37
    go_wp2
    go_ret
    exact ⟨0, rfl, rfl⟩
  by_cases h1 : c = 1
  · subst h1
    go_enter Tryd.func37, Tryd.ntmps37
    go_wp2
    go_ret
    exact ⟨0, rfl, rfl⟩
  have hc2 : 2 ≤ c := by omega
  have h0' : ((c : Int) == 0) = false := beq_eq_false_iff_ne.2 (by omega)
  have h1' : ((c : Int) == 1) = false := beq_eq_false_iff_ne.2 (by omega)
  go_enter Tryd.func37, Tryd.ntmps37
  go_wp2_with (first | (go_at_call 48; refine (hmul _).mono ?_; rintro e w1 ⟨rfl, rfl⟩) | (go_at_call 49; refine (hasPre_c _ false (by decide) (by rw [Lib.toList_data]; decide +kernel) _).mono ?_; rintro e w1 ⟨n, rfl, rfl⟩) | (go_at_call 49; refine (hasPre_c _ true (by decide) (by rw [Lib.toList_data]; decide +kernel) _).mono ?_; rintro e w1 ⟨n, rfl, rfl⟩))
  go_ret
  refine ⟨_, ?_, rfl⟩
  clear hmul e1 e2 e3 e4 e5 h0 h1 h0' h1'
  refine congrArg Ending.returned (congrArg Value.string (ByteArray.ext ?_))
  obtain rfl | rfl | rfl | rfl | rfl | rfl : c = 2 ∨ c = 3 ∨ c = 4 ∨ c = 5 ∨ c = 6 ∨ c = 7 := by omega
  all_goals decide +kernel

-- @has implBitsOf
theorem implBitsOf_c (b : Nat) (hb : WfC .f32 (cl .f32 b)) (w : World) :
    Calls Tryd.prog 36 #[.float .f32 b] w (RetV (.int .i64 (bitsC (cl .f32 b))) w) := by
  have hx := f32bits_run
  rcases h : cl .f32 b with _ | c
  · go_enter Tryd.func36, Tryd.ntmps36
    go_wp2
    go_ret
    exact ⟨0, rfl, rfl⟩
  · have hs := ford_self h
    obtain ⟨rfl, -⟩ := cl_some h
    have hb' : b < 2 ^ 32 := hb _ h
    clear hb
    go_enter Tryd.func36, Tryd.ntmps36
    go_wp2
    go_ret
    exact ⟨0, rfl, rfl⟩

-- @has implDigits
theorem str_app2 (a b : List UInt8) : (⟨a.toArray⟩ : ByteArray) ++ (⟨b.toArray⟩ : ByteArray) = ⟨(a ++ b).toArray⟩ := by
  apply ByteArray.ext
  simp
theorem repeat0_i (c : Int) (h0 : 0 ≤ c) (h7 : c ≤ 7) (w : World) :
    Calls Tryd.prog 37 #[.string ⟨#[48]⟩, .int .i64 c] w (RetV (.string ⟨(List.replicate c.toNat 48).toArray⟩) w) := by
  obtain ⟨n, rfl⟩ : ∃ n : Nat, c = n := ⟨c.toNat, by omega⟩
  exact repeat0_c n (by omega) w
theorem pad_eq {L n : Nat} {S : ByteArray} (h : n < 16 ^ L) (hL : L ≤ 8) (hS : S = ⟨(hexW L n).toArray⟩) : (⟨Array.replicate (8 - L) 48⟩ : ByteArray) ++ S = ⟨(hexW 8 n).toArray⟩ := by
  rw [hS, ← List.toArray_replicate, str_app2, ← hexW_pad L n h, show 8 - L + L = 8 by omega]
set_option maxHeartbeats 1000000 in
theorem implDigits_c (b : Nat) (hb : b < 4294967296) (w : World) (hd : w.cell? ⟨6, 15, none⟩ = some (.int .u8 4)) :
    Calls Tryd.prog 25 #[.float .f32 b] w fun e w' => e = .returned (.string (hexT b)) ∧ Gro w w' := by
  have hbits := implBitsOf_c b (wf_cl (show b < 2 ^ 32 by omega))
  rw [nb_int] at hbits
  have hnb := nb_le hb
  go_enter Tryd.func25, Tryd.ntmps25
  go_wp2_with (first | (go_at_call 36; refine (hbits _).mono ?_; rintro e w1 ⟨n, rfl, rfl⟩) | (go_at_call 35; refine (fmtInt16_c _ hnb _ (Gro.cell (by repeat (first | with_reducible exact Gro.refl _ | with_reducible apply Gro.drewN | with_reducible apply Gro.drew | with_reducible apply Gro.alloc | with_reducible refine Gro.setCell ?_ (by dsimp only; omega) _ | refine Gro.trans ?_ (by assumption))) hd)).mono ?_; rintro e w1 ⟨L, h1, h2, h3, rfl, hg⟩; obtain ⟨S, hS⟩ : ∃ S : ByteArray, S = ⟨(hexW L (nb b)).toArray⟩ := ⟨_, rfl⟩; rw [← hS]; have hP := Lib.hid (pad_eq h3 h2 hS); have hz : S.size = L := (by rw [hS]; show (hexW L (nb b)).toArray.size = L; rw [List.size_toArray, hexW_len]); clear hS) | (go_at_call 37; refine (repeat0_i _ (by omega) (by omega) _).mono ?_; rintro e w2 ⟨n2, rfl, rfl⟩))
  go_ret
  exact ⟨congrArg (fun s => Ending.returned (.string s)) hP.out, by show Gro w _; (repeat (first | with_reducible exact Gro.refl _ | with_reducible apply Gro.drewN | with_reducible apply Gro.drew | refine Gro.trans ?_ (by assumption)))⟩

-- @has joined
theorem info_str : (Tryd.prog.info? 9).map (fun i => (i.zero, i.size, i.bytes)) = some (some (.string ByteArray.empty), 1, 16) := by kernel_rfl
theorem joined_c (g cap : Nat) (xs : List ByteArray) (w : World) (hc : ∀ (j : Nat) x, xs[j]? = some x → w.cell? ⟨g, 0 + j, none⟩ = some (.string x)) (hg : g < w.heap.size) (hN : xs.length ≤ 1000) (hcap : xs.length ≤ cap) (hlen : (Lib.join (xs.map (·.data.toList)) [44]).length ≤ 140737488355328) :
    Calls Tryd.prog 26 #[.slice (some ⟨g, 0, none⟩) xs.length cap] w fun e w' => e = .returned (.string (if xs.length = 0 then noneB else ⟨(Lib.join (xs.map (·.data.toList)) [44]).toArray⟩)) ∧ Gro w w' := by
  by_cases h0 : xs.length = 0
  · have hb : ((xs.length : Int) == 0) = true := by simp [h0]
    rw [if_pos h0]
    go_enter Tryd.func26, Tryd.ntmps26
    go_wp2
    go_ret
    exact ⟨rfl, Gro.refl _⟩
  · have hb : ((xs.length : Int) == 0) = false := by simpa using h0
    rw [if_neg h0]
    have J := Lib.hid (Tryd.strings_Join g 0 cap xs ⟨#[44]⟩ w hc hg (by omega) hcap hlen)
    clear hc hlen
    go_enter Tryd.func26, Tryd.ntmps26
    go_wp2_with (go_at_call 38; refine J.out.mono ?_; rintro e w1 ⟨rfl, hb1⟩)
    go_ret
    exact ⟨rfl, hb1⟩

-- @has implNumbersText
set_option maxRecDepth 100000 in
set_option maxHeartbeats 2000000 in
theorem implNumbersText_c (a : Option Addr) (len ca : Nat) (Z : Nat → Nat) (w : World) (h1 : SlF w a len Z) (hz : ∀ j, Z j < 4294967296) (hd : w.cell? ⟨6, 15, none⟩ = some (.int .u8 4)) :
    Calls Tryd.prog 9 #[.slice a len ca] w fun e w' => e = .returned (.tuple #[.string (if len ≤ 256 then textG (hexZ Z) len else ⟨#[]⟩), .bool (decide (len ≤ 256))]) ∧ Gro w w' := by
  obtain ⟨i0, hi, hz0, hz1, hz2⟩ := info_parts info_str
  have hm := h1.1
  unfold maxLen at hm
  by_cases hl : len ≤ 256
  case neg =>
    have hl' : (256 : Int) < len := by omega
    rw [if_neg hl, decide_eq_false hl]
    go_enter Tryd.func9, Tryd.ntmps9
    go_wp2
    all_goals
      go_ret2
      exact ⟨rfl, Gro.refl _⟩
  have hl' : ¬ (256 : Int) < len := by omega
  rw [if_pos hl, decide_eq_true hl]
  have HZ := Lib.hid hz
  have HD := Lib.hid hd
  clear hz hd
  go_enter Tryd.func9, Tryd.ntmps9
  go_wp2
  go_loopw [4, 13] (fun v i wr => ∃ k : Nat, k ≤ len ∧ i = .int .i64 (k : Int) ∧ wr.ownsRow w.heap.size 9 1 v k ((wsG (hexZ Z) k).map Value.string) ∧ v ≠ .slice none 0 0 ∧ Gro w wr) (fun _ i _ => len - (intOf i).toNat)
  case atStart => exact ⟨0, Nat.zero_le _, rfl, ownsRow_empty (Nat.le_refl _), by simp, (Gro.refl _).alloc _⟩
  case round =>
    obtain ⟨k, hk, rfl, hown, hne, hg⟩ := hrel
    by_cases hlt : k < len
    · obtain ⟨b1, o1, rfl, hc1⟩ := h1.2 (by omega)
      have c0 : wr.cell? ⟨b1, o1 + k, none⟩ = some (.float .f32 (Z k)) := hg.cell (hc1 k hlt)
      have hsz := hg.size
      clear hc1
      go_wp2_with (first | (go_at_call 25; refine (implDigits_c _ (HZ.out k) _ (Gro.cell (a := w) hg HD.out)).mono ?_; rintro e w1 ⟨rfl, hg2⟩) | (at_builtin; refine wpList_append_own _ rfl _ _ 44 rfl w.heap.size 9 i0 (.string ByteArray.empty) 1 16 Tryd.underlying44 hi hz0 hz1 hz2 rfl (by decide) _ _ _ rfl ((own_gro hown hg2).alloc _) ⟨w1.heap.size, 0, none⟩ 1 1 [.string (hexT (Z k))] rfl rfl (cell_new1 _ _ _) (fun x hx => by simp at hx; subst hx; rfl) (by unfold maxLen; omega) (by omega) (by have := hg2.size; simp; omega) ?_))
      intro v' w' hown' hgrow hnn
      have hne' : v' ≠ .slice none 0 0 := fun e => by simp [e] at hnn
      have hg' : Gro w w' := RowKit.Below.grown (Gro.alloc (Gro.trans hg hg2) _) hgrow (by have := hg2.size; simp; omega) (fun j hj => (World.ownsRow.lt hown j hj).1)
      have e1 : (wsG (hexZ Z) k).map Value.string ++ [.string (hexT (Z k))] = (wsG (hexZ Z) (k + 1)).map Value.string := by rw [wsG_snoc, List.map_append]; rfl
      rw [e1] at hown'
      have HO := Lib.hid hown'
      have HN := Lib.hid hne'
      have HG := Lib.hid hg'
      clear hown' hgrow hnn hne' hg' e1 hown hne
      go_wp2
      go_roundw
      case rel => exact ⟨k + 1, by omega, by go_num, HO.out, HN.out, HG.out⟩
      case measure => simp [intOf]; omega
    · obtain rfl : k = len := by omega
      rcases hown.2 with ⟨e, -⟩ | ⟨g, cap, cur, rfl, hbg, hcur, hkc, -⟩
      · exact absurd e hne
      have hlt2 := (Array.getElem?_eq_some_iff.1 hcur).1
      have hlen := wsG_len (hexZ Z) k
      have hcells : ∀ (j : Nat) x, (wsG (hexZ Z) k)[j]? = some x → wr.cell? ⟨g, 0 + j, none⟩ = some (.string x) := fun j x hj => by
        have := hown.cells (g := g) rfl j (.string x) (by rw [List.getElem?_map, hj]; rfl)
        rw [Go.WideShapes.add_plain] at this
        exact this
      have hj := join_wsG (hexZ Z) k
      have hbd := txtG_len (hexZ Z) 8 k (fun j hj => Nat.le_of_eq (hexW_len 8 _))
      have J := joined_c g cap (wsG (hexZ Z) k) wr hcells hlt2 (by omega) (by omega) (by rw [hj]; omega)
      rw [hlen, hj] at J
      change Calls _ _ _ _ (fun e w' => e = .returned (.string (textG (hexZ Z) k)) ∧ Gro wr w') at J
      have HJ := Lib.hid J
      clear J hcells hcur hown hlen hj hbd
      go_wp2_with (go_at_call 26; refine HJ.out.mono ?_; rintro e w1 ⟨rfl, hg2⟩)
      go_ret2
      exact ⟨rfl, Gro.trans hg hg2⟩

-- @has FnExactNumbersText
set_option maxHeartbeats 2000000 in
theorem walk_FnExactNumbersText (w : World) (a : Option Addr) (len cap : Nat) (zs : List Nat) (h : IsFloats w a len cap zs) (hd : w.cell? ⟨6, 15, none⟩ = some (.int .u8 4)) :
    Calls Tryd.prog 3 #[.slice a len cap] w fun e w' => e = .returned (.bool true) ∧ Below w.heap.size w w' := by
  have hS := SlF.of h
  obtain ⟨Z, hZe⟩ : ∃ Z : Nat → Nat, Z = fun j => zs.getD j 0 := ⟨_, rfl⟩
  have HZ : Hid (∀ j, Z j < 4294967296) := Lib.hid (by rw [hZe]; exact fun j => SlF.lt h j)
  rw [← hZe] at hS
  clear hZe
  have hm := hS.1
  unfold maxLen at hm
  clear h
  by_cases hl : 1048576 < len
  · have hl' : (1048576 : Int) < len := by omega
    clear hd hS
    go_enter Tryd.func3, Tryd.ntmps3
    go_wp2
    all_goals
      go_ret
      exact ⟨rfl, Below.refl _ _⟩
  have hl' : ¬ (1048576 : Int) < len := by omega
  have hle : len ≤ 1048576 := by omega
  have HD := Lib.hid hd
  clear hd hm
  go_enter Tryd.func3, Tryd.ntmps3
  go_wp2_with (first | (go_at_call 8; refine (toFloat32S_c _ _ _ _ _ (hS.keep (by repeat (first | with_reducible exact Gro.refl _ | with_reducible apply Gro.drewN | with_reducible apply Gro.drew | with_reducible apply Gro.alloc | with_reducible refine Gro.setCell ?_ (by dsimp only; omega) _ | refine Gro.trans ?_ (by assumption)))) hle).mono ?_; rintro e w1 ⟨g, rfl, hs, hg⟩) | (go_at_call 7; refine (specNumbersText_c _ _ _ _ _ (SlF.keep (by assumption) (by repeat (first | with_reducible exact Gro.refl _ | with_reducible apply Gro.drewN | with_reducible apply Gro.drew | with_reducible apply Gro.alloc | with_reducible refine Gro.setCell ?_ (by dsimp only; omega) _ | refine Gro.trans ?_ (by assumption)))) HZ.out).mono ?_; rintro e w1 ⟨rfl, hg⟩) | (go_at_call 9; refine (implNumbersText_c _ _ _ _ _ (SlF.keep (by assumption) (by repeat (first | with_reducible exact Gro.refl _ | with_reducible apply Gro.drewN | with_reducible apply Gro.drew | with_reducible apply Gro.alloc | with_reducible refine Gro.setCell ?_ (by dsimp only; omega) _ | refine Gro.trans ?_ (by assumption)))) HZ.out (Gro.cell (a := w) (by repeat (first | with_reducible exact Gro.refl _ | with_reducible apply Gro.drewN | with_reducible apply Gro.drew | with_reducible apply Gro.alloc | with_reducible refine Gro.setCell ?_ (by dsimp only; omega) _ | refine Gro.trans ?_ (by assumption))) HD.out)).mono ?_; rintro e w1 ⟨rfl, hg⟩) | (go_at_call 10; refine (eqFloat32S_true _ _ _ _ _ Z Z _ (SlF.keep (by assumption) (by repeat (first | with_reducible exact Gro.refl _ | with_reducible apply Gro.drewN | with_reducible apply Gro.drew | with_reducible apply Gro.alloc | with_reducible refine Gro.setCell ?_ (by dsimp only; omega) _ | refine Gro.trans ?_ (by assumption)))) (by assumption) (fun _ _ => rfl)).mono ?_; rintro e w1 ⟨rfl, hg⟩))
  all_goals
    go_ret
    exact ⟨rfl, by show Gro w _; (repeat (first | with_reducible exact Gro.refl _ | with_reducible apply Gro.drewN | with_reducible apply Gro.drew | refine Gro.trans ?_ (by assumption)))⟩

end Go.Proofs.YtaakellldlamaaaDoor
