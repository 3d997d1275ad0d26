/- Contracts of Go functions: what each returns, as a class of words, whatever the world. -/
import Derived.Test.YtghcpeilbkgmaaaSli
import Derived.Test.YtghcpeilbkgmaaaProg
import Derived.BigQuiet
import Derived.Deep.QuietTactic
import Derived.Deep.RegionHeld3
import Derived.Deep.DeepFit
import Derived.WalkSpells
import Derived.Lib.Hide
import Derived.WalkSmall
import Derived.Deep.DeepCutAuto
namespace Go.Proofs.Ytghcpeilbkgmaaa
open Go.RowKit Go.Fl

-- @has toFloat32S
theorem info_f32 : (Try.prog.info? 25).map (fun i => (i.zero, i.size, i.bytes)) = some (some (.float .f32 0), 1, 4) := by kernel_rfl
set_option maxHeartbeats 800000 in
theorem toFloat32S_c (a : Option Addr) (len cap : Nat) (Z : Nat → Nat) (w : World) (h : SlF w a len Z) (hl : len ≤ 1048576) :
    Calls Try.prog 35 #[.slice a len cap] w fun e w' => ∃ g, e = .returned (.slice (some ⟨g, 0, none⟩) len len) ∧ SlF w' (some ⟨g, 0, none⟩) len Z ∧ Gro w w' := by
  have hmk := run_make_row' (P := Try.prog) 41 25 (.float .f32 0) 4 Try.underlying41 info_f32 rfl .i64 .i64 len (by omega) (by omega)
  go_enter Try.func35, Try.ntmps35
  go_wp2
  have hr0 := World.rowIs_made w (.float .f32 0) len 25
  have hg0 : Gro w (w.alloc (.cells (madeCells #[.float .f32 0] len) 25)) := (Gro.refl w).alloc _
  generalize hB : w.alloc (.cells (madeCells #[.float .f32 0] len) 25) = w2 at hr0 hg0
  go_loopw [4] (fun i wr => ∃ k : Nat, k ≤ len ∧ i = .int .i64 k ∧ wr.rowIs w.heap.size 25 len (fun j => if j < k then .float .f32 (Z j) else .float .f32 0) ∧ Gro w wr) (fun i _ => len - (intOf i).toNat)
  case atStart => exact ⟨0, Nat.zero_le _, rfl, hr0.congr fun j _ => by simp, hg0⟩
  case round =>
    obtain ⟨k, hk, rfl, hrow, hg⟩ := hrel
    by_cases hlt : k < len
    · obtain ⟨b, off, rfl, hc⟩ := h.2 (by omega)
      have c0 := hg.cell (hc k hlt)
      have c1 := hrow.cell hlt
      have c2 := hrow.frozen k
      clear hc hmk
      go_wp2
      go_roundw
      case rel =>
        refine ⟨k + 1, by omega, by go_num, (hrow.set k _).congr fun j _ => ?_, hg.setCell (Nat.le_refl _) _⟩
        by_cases e : j = k
        · subst e; simp
        · have : (j < k + 1) = (j < k) := by apply propext; omega
          simp [e, this]
      case measure => simp [intOf]; omega
    · have : k = len := by omega
      subst this
      clear hmk
      go_wp2
      go_ret
      exact ⟨_, rfl, SlAt.row h.1 (hrow.congr fun j hj => by simp [hj]), hg⟩

-- @has sameFloat
set_option maxHeartbeats 400000 in
theorem sameFloat_true (a b : Nat) (h : cl .f64 a = cl .f64 b) (w : World) :
    Calls Try.prog 31 #[.float .f64 a, .float .f64 b] w (RetV (.bool true) w) := by
  generalize hb : cl .f64 b = c at h
  rcases c with _ | c
  · go_enter Try.func31, Try.ntmps31
    go_wp2
    go_ret
    exact ⟨0, rfl, rfl⟩
  · have hs := ford_self h
    rcases h0 : ford .f64 (some c) (cl .f64 0) with _ | (_ | _ | _)
    all_goals
      go_enter Try.func31, Try.ntmps31
      go_wp2_with (refine wpList_farith _ _ _ _ _ _ rfl rfl _ _ _ rfl rfl rfl ?_; intro b1 n1 h1)
      go_ret
      first | exact ⟨0, rfl, rfl⟩ | exact ⟨_, rfl, rfl⟩

-- @has eqFloat32S
set_option maxHeartbeats 800000 in
theorem eqFloat32S_true (a b : Option Addr) (len ca cb : Nat) (Y Z : Nat → Nat) (w : World) (h1 : SlF w a len Y) (h2 : SlF w b len Z) (he : ∀ j, j < len → cl .f32 (Y j) = cl .f32 (Z j)) :
    Calls Try.prog 37 #[.slice a len ca, .slice b len cb] w fun e w' => e = .returned (.bool true) ∧ Gro w w' := by
  have hm := h1.1
  unfold maxLen at hm
  go_enter Try.func37, Try.ntmps37
  go_wp2
  go_loopw [5] (fun i wr => ∃ k : Nat, k ≤ len ∧ i = .int .i64 k ∧ Gro w wr) (fun i _ => len - (intOf i).toNat)
  case atStart => exact ⟨0, Nat.zero_le _, rfl, Gro.refl _⟩
  case round =>
    obtain ⟨k, hk, rfl, hg⟩ := hrel
    by_cases hlt : k < len
    · obtain ⟨b1, o1, rfl, hc1⟩ := h1.2 (by omega)
      obtain ⟨b2, o2, rfl, hc2⟩ := h2.2 (by omega)
      have c0 : wr.cell? ⟨b1, o1 + k, none⟩ = some (.float .f32 (Y k)) := hg.cell (hc1 k hlt)
      have c1 : wr.cell? ⟨b2, o2 + k, none⟩ = some (.float .f32 (Z k)) := hg.cell (hc2 k hlt)
      have hek := he k hlt
      clear hc1 hc2 he h1 h2
      go_upto_region 6 with fail
      go_cut [28] (fun s28 wx => s28 = .bool false ∧ Gro w wx)
      case first =>
        go_region_with (first | (refine upon_widen _ _ _ _ Try.underlying38 (by rw [Try.underlying25]; rfl) ?_; intro b1 n1 h1) | (refine wpList_widen _ _ _ _ rfl _ rfl Try.underlying38 (by rw [Try.underlying25]; rfl) rfl ?_; intro b1 n1 h1) | (go_at_call 31; refine (sameFloat_true _ _ (by simp only [*]) _).mono ?_; rintro e w1 ⟨m1, rfl, rfl⟩))
        all_goals
          go_wp2_with fail
          go_meet
          exact ⟨rfl, by (repeat (first | assumption | apply Gro.drewN | apply Gro.drew))⟩
      case rest =>
        obtain ⟨rfl, hg2⟩ := hcut
        go_wp2
        go_roundw
        case rel => exact ⟨k + 1, by omega, by go_num, hg2⟩
        case measure => simp [intOf]; omega
    · have : k = len := by omega
      subst this
      go_wp2
      go_ret
      exact ⟨rfl, hg⟩

-- @has implDotNumbers
/-- A call returns some word of a class and a truth value; the world differs by new blocks and draws. -/
def RetG2 (k : FloatKind) (r : Option Nat) (t : Bool) (w : World) (e : Ending) (w' : World) : Prop := ∃ b, e = .returned (.tuple #[.float k b, .bool t]) ∧ cl k b = r ∧ Gro w w'
theorem implDot_off (a b : Option Addr) (la lb ca cb : Nat) (w : World) (hma : la ≤ maxLen) (h : 256 < la ∨ la ≠ lb) :
    Calls Try.prog 39 #[.slice a la ca, .slice b lb cb] w (RetG2 .f32 (cl .f32 0) false w) := by
  unfold maxLen at hma
  by_cases hl : 256 < la
  · go_enter Try.func39, Try.ntmps39
    go_wp2
    go_ret2
    exact ⟨0, rfl, rfl, Gro.refl _⟩
  · have hne : ((la : Int) != (lb : Int)) = true := by simp [bne_iff_ne]; omega
    clear h
    go_enter Try.func39, Try.ntmps39
    go_wp2
    go_ret2
    exact ⟨0, rfl, rfl, Gro.refl _⟩
set_option maxHeartbeats 1000000 in
theorem implDot_on (a b : Option Addr) (len ca cb : Nat) (Y Z : Nat → Nat) (w : World) (h1 : SlF w a len Y) (h2 : SlF w b len Z) (hl : len ≤ 256) :
    Calls Try.prog 39 #[.slice a len ca, .slice b len cb] w (RetG2 .f32 (sumF (fun j => fop .mul .f32 (cl .f32 (Y j)) (cl .f32 (Z j))) len) true w) := by
  have hm := h1.1
  unfold maxLen at hm
  go_enter Try.func39, Try.ntmps39
  go_wp2
  go_loopw [6, 21] (fun s i wr => ∃ k n r : Nat, k ≤ len ∧ i = .int .i64 k ∧ s = .float .f32 r ∧ cl .f32 r = sumF (fun j => fop .mul .f32 (cl .f32 (Y j)) (cl .f32 (Z j))) k ∧ wr = w.drewN n) (fun _ i _ => len - (intOf i).toNat)
  case atStart => exact ⟨0, 0, 0, Nat.zero_le _, rfl, rfl, rfl, rfl⟩
  case round =>
    obtain ⟨k, n, r, hk, rfl, rfl, hb, rfl⟩ := hrel
    by_cases hlt : k < len
    · obtain ⟨b1, o1, rfl, hc1⟩ := h1.2 (by omega)
      obtain ⟨b2, o2, rfl, hc2⟩ := h2.2 (by omega)
      have c0 : w.cell? ⟨b1, o1 + k, none⟩ = some (.float .f32 (Y k)) := hc1 k hlt
      have c1 : w.cell? ⟨b2, o2 + k, none⟩ = some (.float .f32 (Z k)) := hc2 k hlt
      have hb' := Lib.hid hb
      clear hc1 hc2 hb
      go_wp2_with (first | (refine wpList_farith _ .mul _ _ _ _ rfl rfl _ _ _ rfl rfl rfl ?_; intro m1 n1 g1) | (refine wpList_farith _ .add _ _ _ _ rfl rfl _ _ _ rfl rfl rfl ?_; intro m2 n2 g2))
      go_roundw
      case rel => exact ⟨k + 1, _, _, by omega, by go_num, rfl, by rw [g2, hb'.out, g1]; rfl, rfl⟩
      case measure => simp [intOf]; omega
    · have : k = len := by omega
      subst this
      go_wp2
      go_ret2
      exact ⟨_, rfl, hb, (Gro.refl _).drewN _⟩

-- @has l01Few
theorem l01Few_c (a : Option Addr) (len cap : Nat) (w : World) (hm : len ≤ maxLen) :
    Calls Try.prog 58 #[.slice a len cap] w (RetV (.bool (decide (len ≤ 256))) w) := by
  unfold maxLen at hm
  go_enter Try.func58, Try.ntmps58
  go_wp2
  go_ret
  exact ⟨0, by simp; omega, rfl⟩

-- @has l01Dot
set_option maxHeartbeats 1000000 in
theorem l01Dot_c (a b : Option Addr) (len ca cb : Nat) (Y Z : Nat → Nat) (w : World) (h1 : SlF w a len Y) (h2 : SlF w b len Z) :
    Calls Try.prog 60 #[.slice a len ca, .slice b len cb] w fun e w' => ∃ r, e = .returned (.float .f32 r) ∧ cl .f32 r = sumF (fun j => fop .mul .f32 (cl .f32 (Y j)) (cl .f32 (Z j))) len ∧ Gro w w' := by
  have hm := h1.1
  unfold maxLen at hm
  go_enter Try.func60, Try.ntmps60
  go_wp2
  go_loopw [5, 6] (fun s i wr => ∃ k r : Nat, k ≤ len ∧ i = .int .i64 k ∧ s = .float .f32 r ∧ cl .f32 r = sumF (fun j => fop .mul .f32 (cl .f32 (Y j)) (cl .f32 (Z j))) k ∧ Gro w wr) (fun _ i _ => len - (intOf i).toNat)
  case atStart => exact ⟨0, 0, Nat.zero_le _, rfl, rfl, rfl, Gro.refl _⟩
  case round =>
    obtain ⟨k, r, hk, rfl, rfl, hb, hg⟩ := hrel
    by_cases hlt : k < len
    · obtain ⟨b1, o1, rfl, hc1⟩ := h1.2 (by omega)
      obtain ⟨b2, o2, rfl, hc2⟩ := h2.2 (by omega)
      have c0 : wr.cell? ⟨b1, o1 + k, none⟩ = some (.float .f32 (Y k)) := hg.cell (hc1 k hlt)
      have c1 : wr.cell? ⟨b2, o2 + k, none⟩ = some (.float .f32 (Z k)) := hg.cell (hc2 k hlt)
      have hb' := Lib.hid hb
      clear hc1 hc2 hb
      go_upto_region 5 with fail
      go_region_with
        (first | (refine upon_farith .mul _ _ _ _ _ rfl ?_; intro m1 n1 g1) | (refine upon_farith .add _ _ _ _ _ rfl ?_; intro m2 n2 g2))
      all_goals
        go_wp2_with fail
        go_roundw
        case rel => exact ⟨k + 1, _, by omega, by go_num, rfl, by rw [g2, hb'.out, g1]; rfl, by (repeat (first | assumption | apply Gro.drewN | apply Gro.drew))⟩
        case measure => simp [intOf]; omega
    · have : k = len := by omega
      subst this
      go_wp2
      go_ret
      exact ⟨_, rfl, hb, hg⟩

-- @has specDotNumbers
theorem specDot_off (a b : Option Addr) (la lb ca cb : Nat) (w : World) (hma : la ≤ maxLen) (h : 256 < la ∨ la ≠ lb) :
    Calls Try.prog 38 #[.slice a la ca, .slice b lb cb] w (RetG2 .f32 (cl .f32 0) false w) := by
  have hm := hma
  unfold maxLen at hma
  by_cases hl : 256 < la
  · have hd : decide (la ≤ 256) = false := decide_eq_false (by omega)
    go_enter Try.func38, Try.ntmps38
    go_wp2_with (go_at_call 58; refine (l01Few_c _ _ _ _ hm).mono ?_; rintro e w1 ⟨m, rfl, rfl⟩)
    go_ret2
    exact ⟨0, rfl, rfl, (by repeat (first | exact Gro.refl _ | apply Gro.drewN | apply Gro.drew | apply Gro.alloc | refine Gro.setCell ?_ (by dsimp only; omega) _ | refine Gro.trans ?_ (by assumption)))⟩
  · have hne : ((la : Int) != (lb : Int)) = true := by simp [bne_iff_ne]; omega
    have hd : decide (la ≤ 256) = true := decide_eq_true (by omega)
    clear h
    go_enter Try.func38, Try.ntmps38
    go_wp2_with (go_at_call 58; refine (l01Few_c _ _ _ _ hm).mono ?_; rintro e w1 ⟨m, rfl, rfl⟩)
    go_ret2
    exact ⟨0, rfl, rfl, (by repeat (first | exact Gro.refl _ | apply Gro.drewN | apply Gro.drew | apply Gro.alloc | refine Gro.setCell ?_ (by dsimp only; omega) _ | refine Gro.trans ?_ (by assumption)))⟩
theorem specDot_on (a b : Option Addr) (len ca cb : Nat) (Y Z : Nat → Nat) (w : World) (h1 : SlF w a len Y) (h2 : SlF w b len Z) (hl : len ≤ 256) :
    Calls Try.prog 38 #[.slice a len ca, .slice b len cb] w (RetG2 .f32 (sumF (fun j => fop .mul .f32 (cl .f32 (Y j)) (cl .f32 (Z j))) len) true w) := by
  have hm := h1.1
  have hd : decide (len ≤ 256) = true := decide_eq_true hl
  go_enter Try.func38, Try.ntmps38
  go_wp2_with (first | (go_at_call 58; refine (l01Few_c _ _ _ _ hm).mono ?_; rintro e w1 ⟨m, rfl, rfl⟩) | (go_at_call 60; refine (l01Dot_c _ _ _ _ _ _ _ _ (h1.keep (by repeat (first | exact Gro.refl _ | apply Gro.drewN | apply Gro.drew | apply Gro.alloc | refine Gro.setCell ?_ (by dsimp only; omega) _ | refine Gro.trans ?_ (by assumption)))) (h2.keep (by repeat (first | exact Gro.refl _ | apply Gro.drewN | apply Gro.drew | apply Gro.alloc | refine Gro.setCell ?_ (by dsimp only; omega) _ | refine Gro.trans ?_ (by assumption))))).mono ?_; rintro e w1 ⟨r, rfl, hb, hg⟩))
  go_ret2
  exact ⟨_, rfl, hb, (by repeat (first | exact Gro.refl _ | apply Gro.drewN | apply Gro.drew | apply Gro.alloc | refine Gro.setCell ?_ (by dsimp only; omega) _ | refine Gro.trans ?_ (by assumption)))⟩

-- @has FnExactDotNumbers
set_option maxHeartbeats 1000000 in
theorem walk_FnExactDotNumbers (w : World) (a : Option Addr) (len cap : Nat) (zs : List Nat) (ha : IsFloats w a len cap zs) (b : Option Addr) (lenb capb : Nat) (ys : List Nat) (hb : IsFloats w b lenb capb ys) :
    Calls Try.prog 12 #[.slice a len cap, .slice b lenb capb] w fun e w' => e = .returned (.bool true) ∧ Below w.heap.size w w' := by
  have h1 := SlF.of ha
  generalize hY : (fun j => zs.getD j 0) = Y at h1
  have h2 := SlF.of hb
  generalize hZ : (fun j => ys.getD j 0) = Z at h2
  clear ha hb hY hZ
  have hm := h1.1
  have hm2 := h2.1
  unfold maxLen at hm hm2
  by_cases hl : 1048576 < len
  · go_enter Try.func12, Try.ntmps12
    go_wp2
    go_ret
    exact ⟨rfl, Gro.below (Gro.refl _)⟩
  by_cases hl2 : 1048576 < lenb
  · go_enter Try.func12, Try.ntmps12
    go_wp2
    go_ret
    exact ⟨rfl, Gro.below (Gro.refl _)⟩
  by_cases hx : 256 < len ∨ len ≠ lenb
  · go_enter Try.func12, Try.ntmps12
    go_wp2_with (first | (refine wpList_widen _ _ _ _ rfl _ rfl Try.underlying38 (by rw [Try.underlying25]; rfl) rfl ?_; intro b1 n1 h1) | (go_at_call 35; refine (toFloat32S_c _ _ _ _ _ (SlF.keep (by assumption) (by repeat (first | exact Gro.refl _ | apply Gro.drewN | apply Gro.drew | apply Gro.alloc | refine Gro.setCell ?_ (by dsimp only; omega) _ | refine Gro.trans ?_ (by assumption)))) (by omega)).mono ?_; rintro e w1 ⟨g, rfl, hs, hg⟩) | (go_at_call 38; refine (specDot_off _ _ _ _ _ _ _ h1.1 (by assumption)).mono ?_; rintro e w1 ⟨b, rfl, hb, hg⟩) | (go_at_call 39; refine (implDot_off _ _ _ _ _ _ _ h1.1 (by assumption)).mono ?_; rintro e w1 ⟨b, rfl, hb, hg⟩) | (go_at_call 31; refine (sameFloat_true _ _ (by simp only [*]) _).mono ?_; rintro e w1 ⟨m1, rfl, rfl⟩) | (go_at_call 37; refine (eqFloat32S_true _ _ _ _ _ _ _ _ (SlF.keep (by assumption) (by repeat (first | exact Gro.refl _ | apply Gro.drewN | apply Gro.drew | apply Gro.alloc | refine Gro.setCell ?_ (by dsimp only; omega) _ | refine Gro.trans ?_ (by assumption)))) (by assumption) (fun _ _ => rfl)).mono ?_; rintro e w1 ⟨rfl, hg⟩))
    go_ret
    exact ⟨rfl, Gro.below (by repeat (first | exact Gro.refl _ | apply Gro.drewN | apply Gro.drew | apply Gro.alloc | refine Gro.setCell ?_ (by dsimp only; omega) _ | refine Gro.trans ?_ (by assumption)))⟩
  · obtain rfl : len = lenb := by omega
    have hl3 : len ≤ 256 := by omega
    clear hx
    go_enter Try.func12, Try.ntmps12
    go_wp2_with (first | (refine wpList_widen _ _ _ _ rfl _ rfl Try.underlying38 (by rw [Try.underlying25]; rfl) rfl ?_; intro b1 n1 h1) | (go_at_call 35; refine (toFloat32S_c _ _ _ _ _ (SlF.keep (by assumption) (by repeat (first | exact Gro.refl _ | apply Gro.drewN | apply Gro.drew | apply Gro.alloc | refine Gro.setCell ?_ (by dsimp only; omega) _ | refine Gro.trans ?_ (by assumption)))) (by omega)).mono ?_; rintro e w1 ⟨g, rfl, hs, hg⟩) | (go_at_call 38; refine (specDot_on _ _ _ _ _ Y Z _ (SlF.keep (by assumption) (by repeat (first | exact Gro.refl _ | apply Gro.drewN | apply Gro.drew | apply Gro.alloc | refine Gro.setCell ?_ (by dsimp only; omega) _ | refine Gro.trans ?_ (by assumption)))) (SlF.keep (by assumption) (by repeat (first | exact Gro.refl _ | apply Gro.drewN | apply Gro.drew | apply Gro.alloc | refine Gro.setCell ?_ (by dsimp only; omega) _ | refine Gro.trans ?_ (by assumption)))) hl3).mono ?_; rintro e w1 ⟨b, rfl, hb, hg⟩) | (go_at_call 39; refine (implDot_on _ _ _ _ _ Y Z _ (SlF.keep (by assumption) (by repeat (first | exact Gro.refl _ | apply Gro.drewN | apply Gro.drew | apply Gro.alloc | refine Gro.setCell ?_ (by dsimp only; omega) _ | refine Gro.trans ?_ (by assumption)))) (SlF.keep (by assumption) (by repeat (first | exact Gro.refl _ | apply Gro.drewN | apply Gro.drew | apply Gro.alloc | refine Gro.setCell ?_ (by dsimp only; omega) _ | refine Gro.trans ?_ (by assumption)))) hl3).mono ?_; rintro e w1 ⟨b, rfl, hb, hg⟩) | (go_at_call 31; refine (sameFloat_true _ _ (by simp only [*]) _).mono ?_; rintro e w1 ⟨m1, rfl, rfl⟩) | (go_at_call 37; refine (eqFloat32S_true _ _ _ _ _ _ _ _ (SlF.keep (by assumption) (by repeat (first | exact Gro.refl _ | apply Gro.drewN | apply Gro.drew | apply Gro.alloc | refine Gro.setCell ?_ (by dsimp only; omega) _ | refine Gro.trans ?_ (by assumption)))) (by assumption) (fun _ _ => rfl)).mono ?_; rintro e w1 ⟨rfl, hg⟩))
    go_ret
    exact ⟨rfl, Gro.below (by repeat (first | exact Gro.refl _ | apply Gro.drewN | apply Gro.drew | apply Gro.alloc | refine Gro.setCell ?_ (by dsimp only; omega) _ | refine Gro.trans ?_ (by assumption)))⟩

end Go.Proofs.Ytghcpeilbkgmaaa
