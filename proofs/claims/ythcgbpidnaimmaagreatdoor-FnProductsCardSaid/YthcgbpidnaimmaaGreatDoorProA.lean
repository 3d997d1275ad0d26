/- Contracts of Go functions: what each returns, as a class of words, whatever the world. -/
import Derived.Test.YthcgbpidnaimmaaGreatDoorCtx
import Derived.Test.YthcgbpidnaimmaaGreatDoorNumA
import Derived.Test.YthcgbpidnaimmaaGreatDoorProg
import Derived.BigQuiet
import Derived.Deep.QuietTactic
import Derived.Deep.RegionHeld3
import Derived.Deep.DeepFit
import Derived.WalkSpells
import Derived.Lib.Hide
import Derived.WalkSmall
import Derived.Deep.DeepCutAuto
namespace Go.Proofs.YthcgbpidnaimmaaGreatDoor
open Go.RowKit Go.Fl
set_option maxRecDepth 20000

-- @has implParts
theorem implParts_c (a b : Nat) (w : World) : Calls Tryz.prog 40 #[.complex .f32 a b] w fun e w' => ∃ x y n, e = .returned (.tuple #[.float .f64 x, .float .f64 y]) ∧ cl .f64 x = widen (cl .f32 a) ∧ cl .f64 y = widen (cl .f32 b) ∧ w' = w.drewN n := by
  go_enter Tryz.func40, Tryz.ntmps40
  go_wp2_with (refine wpList_widen _ _ _ _ rfl _ rfl Tryz.underlying46 (by rw [Tryz.underlying28]; rfl) rfl ?_; intro b1 n1 h1)
  go_ret2
  exact ⟨_, _, _, rfl, by simp only [*], by simp only [*], rfl⟩

-- @has implProduct
theorem implProduct_c (a b c d : Nat) (w : World) : Calls Tryz.prog 41 #[.float .f64 a, .float .f64 b, .float .f64 c, .float .f64 d] w fun e w' => ∃ x y n, e = .returned (.tuple #[.float .f64 x, .float .f64 y]) ∧ cl .f64 x = mulRe (cl .f64 a) (cl .f64 b) (cl .f64 c) (cl .f64 d) ∧ cl .f64 y = mulIm (cl .f64 a) (cl .f64 b) (cl .f64 c) (cl .f64 d) ∧ w' = w.drewN n := by
  unfold mulRe mulIm
  go_enter Tryz.func41, Tryz.ntmps41
  go_wp2_with (refine wpList_farith _ _ _ _ _ _ rfl rfl _ _ _ rfl rfl rfl ?_; intro b1 n1 h1)
  go_ret2
  exact ⟨_, _, _, rfl, by simp only [*], by simp only [*], rfl⟩

-- @has implMulComplex
theorem implMulComplex_c (a b c d : Nat) (h1 : fits (mulRe (widen (cl .f32 a)) (widen (cl .f32 b)) (widen (cl .f32 c)) (widen (cl .f32 d))) = true) (h2 : fits (mulIm (widen (cl .f32 a)) (widen (cl .f32 b)) (widen (cl .f32 c)) (widen (cl .f32 d))) = true) (w : World) :
    Calls Tryz.prog 7 #[.complex .f32 a b, .complex .f32 c d] w (RetC .f32 (narrow (mulRe (widen (cl .f32 a)) (widen (cl .f32 b)) (widen (cl .f32 c)) (widen (cl .f32 d)))) (narrow (mulIm (widen (cl .f32 a)) (widen (cl .f32 b)) (widen (cl .f32 c)) (widen (cl .f32 d)))) w) := by
  have H1 := Lib.hid h1
  have H2 := Lib.hid h2
  clear h1 h2
  go_enter Tryz.func7, Tryz.ntmps7
  go_wp2_with (first | (go_at_call 40; refine (implParts_c _ _ _).mono ?_; rintro e w1 ⟨x, y, n, rfl, hx, hy, rfl⟩) | (go_at_call 41; refine (implProduct_c _ _ _ _ _).mono ?_; rintro e w1 ⟨p, q, m, rfl, hp, hq, rfl⟩) | (refine wpList_narrow _ _ _ _ rfl _ rfl Tryz.underlying28 (by rw [Tryz.underlying46]; rfl) rfl (by simp only [*]; first | exact H1.out | exact H2.out) ?_; intro b1 n1 h1))
  go_ret
  exact ⟨_, _, _, rfl, by simp only [*], by simp only [*], rfl⟩

-- @has implpowerOf
theorem implpowerOf_c (a b : Nat) (w : World) : Calls Tryz.prog 42 #[.complex .f32 a b] w (RetF .f64 (powC (widen (cl .f32 a)) (widen (cl .f32 b))) w) := by
  unfold powC
  go_enter Tryz.func42, Tryz.ntmps42
  go_wp2_with (first | (go_at_call 40; refine (implParts_c _ _ _).mono ?_; rintro e w1 ⟨x, y, n, rfl, hx, hy, rfl⟩) | (refine wpList_farith _ _ _ _ _ _ rfl rfl _ _ _ rfl rfl rfl ?_; intro b1 n1 h1))
  go_ret
  exact ⟨_, _, rfl, by simp only [*], rfl⟩

-- @has implPowerOf
theorem implPowerOf_c (a b : Nat) (hf : fits (powC (widen (cl .f32 a)) (widen (cl .f32 b))) = true) (w : World) : Calls Tryz.prog 8 #[.complex .f32 a b] w (RetF .f32 (narrow (powC (widen (cl .f32 a)) (widen (cl .f32 b)))) w) := by
  have H := Lib.hid hf
  clear hf
  go_enter Tryz.func8, Tryz.ntmps8
  go_wp2_with (first | (go_at_call 42; refine (implpowerOf_c _ _ _).mono ?_; rintro e w1 ⟨x, n, rfl, hx, rfl⟩) | (refine wpList_narrow _ _ _ _ rfl _ rfl Tryz.underlying28 (by rw [Tryz.underlying46]; rfl) rfl (by simp only [*]; exact H.out) ?_; intro b1 n1 h1))
  go_ret
  exact ⟨_, _, rfl, by simp only [*], rfl⟩

-- @has implConjugateOf
theorem implConjugateOf_c (a b : Nat) (w : World) : Calls Tryz.prog 9 #[.complex .f32 a b] w (RetV (.complex .f32 a (Op.negFloat .f32 b)) w) := by
  go_enter Tryz.func9, Tryz.ntmps9
  go_wp2
  go_ret
  exact ⟨0, rfl, rfl⟩

-- @has implLongOf
theorem implLongOf_c (a b : Nat) (hf : fits (fsqrt (powC (widen (cl .f32 a)) (widen (cl .f32 b)))) = true) (w : World) : Calls Tryz.prog 11 #[.complex .f32 a b] w (RetF .f32 (narrow (fsqrt (powC (widen (cl .f32 a)) (widen (cl .f32 b))))) w) := by
  have H := Lib.hid hf
  clear hf
  go_enter Tryz.func11, Tryz.ntmps11
  go_wp2_with (first | (go_at_call 42; refine (implpowerOf_c _ _ _).mono ?_; rintro e w1 ⟨x, n, rfl, hx, rfl⟩) | (go_at_call 44; refine (Sqrt_c _ _).mono ?_; rintro e w1 ⟨r, n, rfl, hr, rfl⟩) | (refine wpList_narrow _ _ _ _ rfl _ rfl Tryz.underlying28 (by rw [Tryz.underlying46]; rfl) rfl (by rw [hr, hx]; exact H.out) ?_; intro b1 n1 h1))
  go_ret
  exact ⟨_, _, rfl, by simp only [*], rfl⟩

-- @has implQuotientOf
def quoRe (a b c d : Option Nat) : Option Nat := fop .quo .f64 (mulRe a b c (negC d)) (powC c d)
def quoIm (a b c d : Option Nat) : Option Nat := fop .quo .f64 (mulIm a b c (negC d)) (powC c d)
theorem implQuotientOf_c (a b c d : Nat) (h1 : fits (quoRe (widen (cl .f32 a)) (widen (cl .f32 b)) (widen (cl .f32 c)) (widen (cl .f32 d))) = true) (h2 : fits (quoIm (widen (cl .f32 a)) (widen (cl .f32 b)) (widen (cl .f32 c)) (widen (cl .f32 d))) = true) (w : World) :
    Calls Tryz.prog 13 #[.complex .f32 a b, .complex .f32 c d] w (RetC .f32 (narrow (quoRe (widen (cl .f32 a)) (widen (cl .f32 b)) (widen (cl .f32 c)) (widen (cl .f32 d)))) (narrow (quoIm (widen (cl .f32 a)) (widen (cl .f32 b)) (widen (cl .f32 c)) (widen (cl .f32 d)))) w) := by
  unfold quoRe at *
  unfold quoIm at *
  have H1 := Lib.hid h1
  have H2 := Lib.hid h2
  clear h1 h2
  go_enter Tryz.func13, Tryz.ntmps13
  go_wp2_with (first | (go_at_call 40; refine (implParts_c _ _ _).mono ?_; rintro e w1 ⟨x, y, n, rfl, hx, hy, rfl⟩) | (go_at_call 41; refine (implProduct_c _ _ _ _ _).mono ?_; rintro e w1 ⟨p, q, m, rfl, hp, hq, rfl⟩; rw [cl_neg] at hp hq) | (go_at_call 42; refine (implpowerOf_c _ _ _).mono ?_; rintro e w1 ⟨r, n, rfl, hr, rfl⟩) | (refine wpList_farith _ _ _ _ _ _ rfl rfl _ _ _ rfl rfl rfl ?_; intro b1 n1 h1) | (refine wpList_narrow _ _ _ _ rfl _ rfl Tryz.underlying28 (by rw [Tryz.underlying46]; rfl) rfl (by simp only [*]; first | exact H1.out | exact H2.out) ?_; intro b1 n1 h1))
  go_ret
  exact ⟨_, _, _, rfl, by simp only [*], by simp only [*], rfl⟩

-- @has implScaleComplex
theorem implScaleComplex_c (a b c : Nat) (w : World) : Calls Tryz.prog 14 #[.complex .f32 a b, .float .f32 c] w (RetC .f32 (fop .mul .f32 (cl .f32 a) (cl .f32 c)) (fop .mul .f32 (cl .f32 b) (cl .f32 c)) w) := by
  go_enter Tryz.func14, Tryz.ntmps14
  go_wp2_with (refine wpList_farith _ _ _ _ _ _ rfl rfl _ _ _ rfl rfl rfl ?_; intro b1 n1 h1)
  go_ret
  exact ⟨_, _, _, rfl, by simp only [*], by simp only [*], rfl⟩

-- @has implComplexText
set_option maxRecDepth 100000 in
set_option maxHeartbeats 2000000 in
theorem implComplexText_c (a : Option Addr) (len ca : Nat) (R I : Nat → Nat) (w : World) (h1 : SlAt w a len fun j => .complex .f32 (R j) (I j)) (hz : ∀ j, WfC .f32 (cl .f32 (R j)) ∧ WfC .f32 (cl .f32 (I j))) (hd : w.cell? ⟨6, 15, none⟩ = some (.int .u8 4)) :
    Calls Tryz.prog 17 #[.slice a len ca] w fun e w' => e = .returned (.tuple #[.string (if len ≤ 256 then textG (hexC R I) len else ⟨#[]⟩), .bool (decide (len ≤ 256))]) ∧ Gro w w' := by
  obtain ⟨i0, hi, hz0, hz1, hz2⟩ := info_parts info_str
  have hm := h1.1
  unfold maxLen at hm
  by_cases hl : len ≤ 256
  case neg =>
    have hl' : (256 : Int) < len := by omega
    rw [if_neg hl, decide_eq_false hl]
    go_enter Tryz.func17, Tryz.ntmps17
    go_wp2
    all_goals
      go_ret2
      exact ⟨rfl, Gro.refl _⟩
  have hl' : ¬ (256 : Int) < len := by omega
  rw [if_pos hl, decide_eq_true hl]
  have HZ := Lib.hid hz
  have HD := Lib.hid hd
  clear hz hd
  go_enter Tryz.func17, Tryz.ntmps17
  go_wp2
  go_loopw [4, 13] (fun v i wr => ∃ k : Nat, k ≤ len ∧ i = .int .i64 (k : Int) ∧ wr.ownsRow w.heap.size 9 1 v k ((wsG (hexC R I) k).map Value.string) ∧ v ≠ .slice none 0 0 ∧ Gro w wr) (fun _ i _ => len - (intOf i).toNat)
  case atStart => exact ⟨0, Nat.zero_le _, rfl, ownsRow_empty (Nat.le_refl _), by simp, (Gro.refl _).alloc _⟩
  case round =>
    obtain ⟨k, hk, rfl, hown, hne, hg⟩ := hrel
    by_cases hlt : k < len
    · obtain ⟨b1, o1, rfl, hc1⟩ := h1.2 (by omega)
      have c0 : wr.cell? ⟨b1, o1 + k, none⟩ = some (.complex .f32 (R k) (I k)) := hg.cell (hc1 k hlt)
      have hsz := hg.size
      have s1 : (hexT (R k)).size = 8 := hexT_size _
      have s2 : (hexT (I k)).size = 8 := hexT_size _
      clear hc1
      go_wp2_with (first | (go_at_call 47; (with_reducible refine (implDigits_c (R k) (HZ.out k).1 _ (Gro.cell (a := w) hg HD.out)).mono ?_); rintro e wd ⟨rfl, hg1⟩; have hg1' := Gro.trans hg hg1) | (go_at_call 47; (with_reducible refine (implDigits_c (I k) (HZ.out k).2 _ (Gro.cell (a := w) hg1' HD.out)).mono ?_); rintro e w1 ⟨rfl, hg2'⟩; have hg2 := Gro.trans hg1 hg2') | (at_builtin; refine wpList_append_own _ rfl _ _ 69 rfl w.heap.size 9 i0 (.string ByteArray.empty) 1 16 Tryz.underlying69 hi hz0 hz1 hz2 rfl (by decide) _ _ _ rfl ((own_gro hown hg2).alloc _) ⟨w1.heap.size, 0, none⟩ 1 1 [.string (hexT (R k) ++ hexT (I k))] rfl rfl (cell_new1 _ _ _) (fun x hx => by simp at hx; subst hx; rfl) (by unfold maxLen; omega) (by omega) (by have := hg2.size; simp; omega) ?_))
      intro v' w' hown' hgrow hnn
      have hne' : v' ≠ .slice none 0 0 := fun e => by simp [e] at hnn
      have hg' : Gro w w' := RowKit.Below.grown (Gro.alloc (Gro.trans hg hg2) _) hgrow (by have := hg2.size; simp; omega) (fun j hj => (World.ownsRow.lt hown j hj).1)
      have e1 : (wsG (hexC R I) k).map Value.string ++ [.string (hexT (R k) ++ hexT (I k))] = (wsG (hexC R I) (k + 1)).map Value.string := by rw [wsG_snoc, List.map_append]; rfl
      rw [e1] at hown'
      have HO := Lib.hid hown'
      have HN := Lib.hid hne'
      have HG := Lib.hid hg'
      clear hown' hgrow hnn hne' hg' e1 hown hne
      go_wp2
      go_roundw
      case rel => exact ⟨k + 1, by omega, by go_num, HO.out, HN.out, HG.out⟩
      case measure => simp [intOf]; omega
    · obtain rfl : k = len := by omega
      rcases hown.2 with ⟨e, -⟩ | ⟨g, cap, cur, rfl, hbg, hcur, hkc, -⟩
      · exact absurd e hne
      have hlt2 := (Array.getElem?_eq_some_iff.1 hcur).1
      have hlen := wsG_len (hexC R I) k
      have hcells : ∀ (j : Nat) x, (wsG (hexC R I) k)[j]? = some x → wr.cell? ⟨g, 0 + j, none⟩ = some (.string x) := fun j x hj => by
        have := hown.cells (g := g) rfl j (.string x) (by rw [List.getElem?_map, hj]; rfl)
        rw [Go.WideShapes.add_plain] at this
        exact this
      have hj := join_wsG (hexC R I) k
      have hbd := txtG_len (hexC R I) 16 k (fun j hj => Nat.le_of_eq (hexC_len R I j))
      have J := joined_c g cap (wsG (hexC R I) k) wr hcells hlt2 (by omega) (by omega) (by rw [hj]; omega)
      rw [hlen, hj] at J
      change Calls _ _ _ _ (fun e w' => e = .returned (.string (textG (hexC R I) k)) ∧ Gro wr w') at J
      have HJ := Lib.hid J
      clear J hcells hcur hown hlen hj hbd
      go_wp2_with (go_at_call 48; refine HJ.out.mono ?_; rintro e w1 ⟨rfl, hg2⟩)
      go_ret2
      exact ⟨rfl, Gro.trans hg hg2⟩

-- @has infoc64r
theorem info_c64r : (Tryz.prog.info? 24).map (fun i => (i.zero, i.size, i.bytes)) = some (some (.complex .f32 0 0), 1, 8) := by kernel_rfl
theorem ext_size {p : ByteArray} (h : p.size = 16) : (p.extract 0 8).size = 8 ∧ (p.extract 8 p.size).size = 8 := by
  constructor
  · rw [ByteArray.size_extract]; omega
  · rw [ByteArray.size_extract]; omega

-- @has implReadComplex
set_option maxRecDepth 100000 in
set_option maxHeartbeats 4000000 in
theorem implReadComplex_c (s : ByteArray) (w : World) (hs : s.size ≤ 1048576) {t1 t2 : TypeId} {p1 p2 : Value}
    (hv1 : w.var? Tryz.prog "strconv.ErrSyntax" = some #[.iface t1 p1]) (hv2 : w.var? Tryz.prog "strconv.ErrRange" = some #[.iface t2 p2]) (hd : w.cell? ⟨6, 15, none⟩ = some (.int .u8 4)) {m : Int} (hm : w.cell? ⟨4, 0, none⟩ = some (.int .i64 m)) :
    Calls Tryz.prog 18 #[.string s] w fun e w' => ∃ v, e = .returned (.tuple #[v, .bool (gOk okC s)]) ∧ Gro w w' ∧ RG 24 okC cH s w w' v := by
  obtain ⟨i0, hi, hz0, hz1, hz2⟩ := info_parts info_c64r
  have V1 := Lib.hid (var_below hv1)
  have V2 := Lib.hid (var_below hv2)
  have HD := Lib.hid hd
  have HM := Lib.hid hm
  clear hv1 hv2 hd hm
  cases hn : isNone s
  case true =>
    have HO := Lib.hid (gOk_none (ok := okC) hn)
    have HV := Lib.hid (gV_none (f := cH) hn)
    have HN := Lib.hid hn
    clear hn
    go_enter Tryz.func18, Tryz.ntmps18
    go_wp2_with (go_at_call 49; refine (apart_none s HN.out _).mono ?_; rintro e w1 ⟨n, rfl, rfl⟩)
    go_loopw [6, 21] (fun v i wr => v = .slice (some ⟨w.heap.size, 0, none⟩) 0 0 ∧ i = .int .i64 0 ∧ wr = (w.drewN n).alloc (.cells #[] 24)) (fun _ _ _ => 0)
    case atStart => exact ⟨rfl, rfl, rfl⟩
    case round =>
      obtain ⟨rfl, rfl, rfl⟩ := hrel
      go_wp2
      go_ret2
      exact ⟨.slice (some ⟨w.heap.size, 0, none⟩) 0 0, by rw [HO.out]; rfl, Gro.alloc (Gro.drewN (Gro.refl _) _) _, .inl ⟨HO.out, by simp, by rw [HV.out]; exact ownsRow_empty (w := w.drewN n) (Nat.le_refl _)⟩⟩
  have HN := Lib.hid hn
  have hps := Lib.hid (pieces_size s)
  have ap := Lib.hid (apart_c s hn w hs HM.out)
  clear hn
  by_cases hl : (pieces s).length ≤ 256
  case neg =>
    have HO := Lib.hid (gOk_long (ok := okC) HN.out (by omega))
    have hlen : 256 < (pieces s).length := by omega
    rw [decide_eq_false hl] at ap
    clear hl
    obtain ⟨p, hp⟩ : ∃ p, (pieces s)[0]? = some p := ⟨_, List.getElem?_eq_getElem (by omega)⟩
    have HP := Lib.hid hp
    clear hp
    go_enter Tryz.func18, Tryz.ntmps18
    go_wp2_with (go_at_call 49; refine ap.out.mono ?_; rintro e w1 ⟨g, cap, rfl, hc, ⟨cur, hcur⟩, hg⟩; have HC := Lib.hid hc; clear hc)
    have c0 : w1.cell? ⟨g, 0, none⟩ = some (.string p) := HC.out 0 p HP.out
    go_loopw [6, 21] (fun v i wr => v = .slice (some ⟨w1.heap.size, 0, none⟩) 0 0 ∧ i = .int .i64 0 ∧ wr = w1.alloc (.cells #[] 24)) (fun _ _ _ => 0)
    case atStart => exact ⟨rfl, rfl, rfl⟩
    case round =>
      obtain ⟨rfl, rfl, rfl⟩ := hrel
      have hga : Gro w (w1.alloc (.cells #[] 24)) := hg.alloc _
      have c1 : (w1.alloc (.cells #[] 24)).cell? ⟨g, 0, none⟩ = some (.string p) := Gro.cell ((Gro.refl w1).alloc _) c0
      generalize w1.alloc (.cells #[] 24) = W2 at hga c1 ⊢
      go_wp2
      all_goals
        go_ret2
        exact ⟨.slice none 0 0, by rw [HO.out]; rfl, hga, .inr ⟨HO.out, rfl⟩⟩
  case pos =>
  rw [decide_eq_true hl] at ap
  go_enter Tryz.func18, Tryz.ntmps18
  go_wp2_with (go_at_call 49; refine ap.out.mono ?_; rintro e w1 ⟨g, cap, rfl, hc, ⟨cur, hcur⟩, hg⟩; have HC := Lib.hid hc; clear hc)
  have hgw : Gro w (w1.alloc (.cells #[] 24)) := hg.alloc _
  go_loopw [6, 21] (fun v i wr => ∃ k : Nat, k ≤ (pieces s).length ∧ i = .int .i64 (k : Int) ∧ (∀ (j : Nat) p, j < k → (pieces s)[j]? = some p → okC p = true) ∧ wr.ownsRow w.heap.size 24 1 v k (gC cH (pieces s) k) ∧ v ≠ .slice none 0 0 ∧ Gro w wr ∧ wr.heap[g]? = some (.cells cur 9 (0, 0))) (fun _ i _ => (pieces s).length - (intOf i).toNat)
  case atStart => exact ⟨0, Nat.zero_le _, rfl, fun j p h => absurd h (Nat.not_lt_zero _), ownsRow_empty hg.size, by simp, hgw, (block_gro ((Gro.refl w1).alloc _) hcur).trans hcur⟩
  case round =>
    obtain ⟨k, hk, rfl, hall, hown, hne, hgr, hgc⟩ := hrel
    have HA := Lib.hid hall
    clear hall
    by_cases hlt : k < (pieces s).length
    · obtain ⟨p, hp⟩ : ∃ p, (pieces s)[k]? = some p := ⟨_, List.getElem?_eq_getElem hlt⟩
      have c0 : wr.cell? ⟨g, k, none⟩ = some (.string p) := (cell_block (hgc.trans hcur.symm)).trans (HC.out k p hp)
      have HP := Lib.hid hp
      have hsz := hgr.size
      clear hp
      by_cases h8 : p.size = 16
      case neg =>
        have h8' : ((p.size : Int) == 16) = false := beq_eq_false_iff_ne.2 (by omega)
        have HO := Lib.hid (gOk_bad (ok := okC) HN.out HP.out (okC_size h8))
        clear hown hne
        go_wp2
        all_goals
          go_ret2
          exact ⟨.slice none 0 0, by rw [HO.out]; rfl, hgr, .inr ⟨HO.out, rfl⟩⟩
      have h8' : ((p.size : Int) == 16) = true := by rw [h8]; rfl
      have hpc := Lib.hid (okC_eq h8)
      have hcv := Lib.hid (show cH p = .complex .f32 (valH (p.extract 0 8)) (valH (p.extract 8 p.size)) from rfl)
      have hze := ext_size h8
      obtain ⟨A, hA⟩ : ∃ A, p.extract 0 8 = A := ⟨_, rfl⟩
      obtain ⟨B, hB⟩ : ∃ B, p.extract 8 p.size = B := ⟨_, rfl⟩
      rw [hA, hB] at hpc hcv hze
      have hB2 : p.extract 8 16 = B := by rw [← h8]; exact hB
      have D1 := Lib.hid (readDigits_c A (by omega) wr (V1.out _ hgr) (V2.out _ hgr) (Gro.cell hgr HD.out))
      have D2 : Hid (∀ w', Gro w w' → Calls Tryz.prog 50 #[.string B] w' fun e w'' => ∃ u, e = .returned (.tuple #[.float .f32 u, .bool (okH B)]) ∧ (okH B = true → u = valH B) ∧ Gro w' w'') := Lib.hid fun w' h => readDigits_c B (by omega) w' (V1.out _ h) (V2.out _ h) (Gro.cell h HD.out)
      clear hze
      go_wp2_with (first | (go_at_call 50; with_reducible refine D1.out.mono ?_; rintro e w2 ⟨u1, rfl, hu1, hg2⟩; have HU1 := Lib.hid hu1; clear hu1) | (go_at_call 50; with_reducible refine (D2.out _ (Gro.trans hgr hg2)).mono ?_; rintro e w3 ⟨u2, rfl, hu2, hg3⟩; have HU2 := Lib.hid hu2; clear hu2; refine Hid.out ?_))
      have hgd : Gro w w3 := Gro.trans (Gro.trans hgr hg2) hg3
      cases hoA : okH A
      case false =>
        have hbad : okC p = false := by rw [hpc.out, hoA]; rfl
        have HO := Lib.hid (gOk_bad (ok := okC) HN.out HP.out hbad)
        clear hown hne hoA hbad HU1 HU2
        cases okH B
        all_goals
          refine Lib.hid ?_
          go_wp2
          all_goals
            go_ret2
            exact ⟨.slice none 0 0, by rw [HO.out]; rfl, hgd, .inr ⟨HO.out, rfl⟩⟩
      cases hoB : okH B
      case false =>
        have hbad : okC p = false := by rw [hpc.out, hoA, hoB]; rfl
        have HO := Lib.hid (gOk_bad (ok := okC) HN.out HP.out hbad)
        clear hown hne hoA hoB hbad HU1 HU2
        refine Lib.hid ?_
        go_wp2
        all_goals
          go_ret2
          exact ⟨.slice none 0 0, by rw [HO.out]; rfl, hgd, .inr ⟨HO.out, rfl⟩⟩
      have hok : okC p = true := by rw [hpc.out, hoA, hoB]; rfl
      obtain rfl := HU1.out hoA
      obtain rfl := HU2.out hoB
      have HK := Lib.hid hok
      have hgr3 := Gro.trans hg2 hg3
      clear hok hoA hoB HU1 HU2 D1 D2 hA hB hB2
      have hown3 : w3.ownsRow w.heap.size 24 1 u6 k (gC cH (pieces s) k) := own_gro hown hgr3
      have hgc3 : w3.heap[g]? = some (.cells cur 9 (0, 0)) := (block_gro hgr3 hgc).trans hgc
      have hsz3 : w.heap.size ≤ w3.heap.size := hgd.size
      clear hown hgc c0 hg2 hg3 hgr3
      refine Lib.hid ?_
      go_wp2_with (at_builtin; refine wpList_append_own _ rfl _ _ 25 rfl w.heap.size 24 i0 (.complex .f32 0 0) 1 8 Tryz.underlying25 hi hz0 hz1 hz2 rfl (by decide) _ _ _ rfl (hown3.alloc _) ⟨w3.heap.size, 0, none⟩ 1 1 [.complex .f32 (valH A) (valH B)] rfl rfl (cell_new1 _ _ _) (fun x hx => by simp at hx; subst hx; rfl) (by unfold maxLen; omega) (by omega) (by simp; omega) ?_)
      intro v' w' hown' hgrow hnn
      have hne' : v' ≠ .slice none 0 0 := fun e => by simp [e] at hnn
      have hg' : Gro w w' := RowKit.Below.grown (Gro.alloc hgd _) hgrow (by simp; omega) (fun j hj => (World.ownsRow.lt hown3 j hj).1)
      rw [← hcv.out, gC_snoc HP.out] at hown'
      have HB := Lib.hid (block_append (w2 := w3) hgc3 hown3 hgc3 (by decide) hgrow)
      have HW := Lib.hid hown'
      have HE := Lib.hid hne'
      have HG := Lib.hid hg'
      clear hown' hgrow hnn hne' hg' hown3 hne
      go_wp2
      go_roundw
      case rel =>
        refine ⟨k + 1, by omega, by go_num, fun j q hj hq => ?_, HW.out, HE.out, HG.out, HB.out⟩
        rcases Nat.lt_or_eq_of_le (Nat.le_of_lt_succ hj) with h | rfl
        · exact HA.out j q h hq
        · rw [HP.out] at hq
          cases hq
          exact HK.out
      case measure => simp [intOf]; omega
    · obtain rfl : k = (pieces s).length := by omega
      have HO := Lib.hid (gOk_yes (ok := okC) HN.out (by omega) HA.out)
      rw [gC_all cH s HN.out] at hown
      have HW := Lib.hid hown
      have HE := Lib.hid hne
      have HL := Lib.hid (gV_len cH s HN.out)
      clear hown hne
      go_wp2
      go_ret2
      exact ⟨_, by rw [HO.out]; rfl, hgr, .inl ⟨HO.out, HE.out, by rw [HL.out]; exact HW.out⟩⟩

-- @has B10Whole
theorem info_c64w : (Tryz.prog.info? 24).map (fun i => (i.zero, i.size, i.bytes)) = some (some (.complex .f32 0 0), 1, 8) := by kernel_rfl
set_option maxRecDepth 100000 in
set_option maxHeartbeats 4000000 in
theorem B10Whole_c (a : Option Addr) (len cap : Nat) (Z : Nat → Int) (w : World) (hB : BytesIn w a len Z) :
    Calls Tryz.prog 6 #[.slice a len cap, .int .i64 1, .int .i64 200] w fun e w' => ∃ (g c : Nat) (x y : Int), e = .returned (.slice (some ⟨g, 0, none⟩) 1 c) ∧ x.natAbs ≤ 200 ∧ y.natAbs ≤ 200 ∧ w'.cell? ⟨g, 0, none⟩ = some (.complex .f32 (floatOfInt .f32 x) (floatOfInt .f32 y)) ∧ Gro w w' := by
  obtain ⟨i0, hi, hz0, hz1, hz2⟩ := info_parts info_c64w
  go_enter Tryz.func6, Tryz.ntmps6
  go_wp2_with (go_at_call 38; refine (l00From_c _ _ _ Z _ hB).mono ?_; rintro e w1 ⟨rfl, h1⟩)
  have ho1 : (w1.alloc (.cells #[] 24)).ownsRow w1.heap.size 24 1 (.slice (some ⟨w1.heap.size, 0, none⟩) 0 0) 0 [] := ownsRow_empty (Nat.le_refl _)
  have hlt : w.heap.size < w1.heap.size := h1.src.lt
  have hT0 : Tells w w.heap.size a len cap Z 0 (w1.alloc (.cells #[] 24)) := h1.alloc _
  go_loopw [1, 8] (fun nv v wr => ∃ (r : Nat) (L : List (Int × Int)), nv = .int .i64 (r : Int) ∧ L.length + r = 1 ∧ (∀ z ∈ L, z.1.natAbs ≤ 200 ∧ z.2.natAbs ≤ 200) ∧ v ≠ .slice none 0 0 ∧ wr.ownsRow w1.heap.size 24 1 v L.length (L.map fun z => .complex .f32 (floatOfInt .f32 z.1) (floatOfInt .f32 z.2)) ∧ Gro w wr ∧ w1.heap.size ≤ wr.heap.size ∧ (r = 1 → Tells w w.heap.size a len cap Z 0 wr)) (fun nv _ _ => (intOf nv).toNat)
  case atStart => exact ⟨1, [], rfl, by simp, by simp, by simp, ho1, hT0.gro, by simp, fun _ => hT0⟩
  case round =>
    obtain ⟨r, L, rfl, hlen, hwf, hne, hown, hgr, hsz, hT⟩ := hrel
    by_cases hr : r = 0
    · subst hr
      have hl : L.length = 1 := by omega
      obtain ⟨z, rfl⟩ : ∃ z, L = [z] := by
        cases L with
        | nil => cases hl
        | cons z r => cases r with
          | nil => exact ⟨z, rfl⟩
          | cons _ _ => simp at hl
      obtain ⟨hz1', hz2'⟩ := hwf z (List.mem_singleton_self z)
      rcases hown.2 with ⟨e, -⟩ | ⟨g, c, cur, rfl, hbg, hcur, hkc, -⟩
      · exact absurd e hne
      have c0 := hown.cells (g := g) rfl 0 (.complex .f32 (floatOfInt .f32 z.1) (floatOfInt .f32 z.2)) rfl
      rw [Go.WideShapes.add_plain] at c0
      have C0 := Lib.hid c0
      clear c0 hown hwf hcur hT ho1 hT0 h1
      go_wp2
      go_ret
      exact ⟨g, c, z.1, z.2, rfl, hz1', hz2', C0.out, hgr⟩
    · obtain rfl : r = 1 := by omega
      obtain rfl : L = [] := by cases L with
        | nil => rfl
        | cons z r => simp at hlen
      have hT1 := hT rfl
      clear hT hwf
      go_wp2_with (first | (go_at_call 39; refine (srcpick_c 401 (by decide) (by decide) _ hT1 (by omega)).mono ?_; rintro e w2 ⟨m, rfl, hm, hd⟩; have h2 := hT1.next hd (by omega)) | (go_at_call 39; refine (srcpick_c 401 (by decide) (by decide) _ h2 (by omega)).mono ?_; rintro e w3 ⟨m2, rfl, hm2, hd2⟩; have h3 := h2.next hd2 (by omega)) | (at_builtin; refine wpList_append_own _ rfl _ _ 25 rfl w1.heap.size 24 i0 (.complex .f32 0 0) 1 8 Tryz.underlying25 hi hz0 hz1 hz2 rfl (by decide) _ _ _ rfl ((ownsRow_moved (ownsRow_moved hown hd.1 hlt) hd2.1 hlt).alloc _) ⟨w3.heap.size, 0, none⟩ 1 1 [.complex .f32 (floatOfInt .f32 ((m : Int) - 200)) (floatOfInt .f32 ((m2 : Int) - 200))] rfl rfl (cell_new1 _ _ _) (fun x hx => by simp at hx; subst hx; rfl) (by unfold maxLen; simp) (by simp) (by have := hd.1.size; have := hd2.1.size; simp; omega) ?_))
      intro v' w' hown' hgrow hnn
      have hne' : v' ≠ .slice none 0 0 := fun e => by simp [e] at hnn
      have hg' : Gro w w' := RowKit.Below.grown (h3.gro.alloc _) hgrow (by have := h3.gro.size; simp; omega) (fun j hj => Nat.le_trans h1.gro.size (World.ownsRow.lt hown j hj).1)
      have hsz' : w1.heap.size ≤ w'.heap.size := by have := hgrow.size; have := hd.1.size; have := hd2.1.size; simp at *; omega
      have HO := Lib.hid hown'
      have HN := Lib.hid hne'
      have HG := Lib.hid hg'
      clear hown' hgrow hnn hne' hg' hown hne ho1 hT0 hT1 h1 h2 h3 hd hd2
      go_wp2
      go_roundw
      case rel => exact ⟨0, [((m : Int) - 200, (m2 : Int) - 200)], by go_num, rfl, by simp; omega, HN.out, HO.out, HG.out, hsz', fun h => by cases h⟩
      case measure => simp [intOf]

-- @has drawComplex
set_option maxHeartbeats 1000000 in
theorem drawComplex_c {w0 : World} {g : Nat} {a : Option Addr} {len cap : Nat} {Z : Nat → Int} {K : Nat} (w : World) (h : Tells w0 g a len cap Z K w) (hK : K ≤ 600000) :
    Calls Tryz.prog 57 #[.pointer (some ⟨g, 0, none⟩)] w fun e w' => ∃ x y, e = .returned (.complex .f32 x y) ∧ WfC .f32 (cl .f32 x) ∧ WfC .f32 (cl .f32 y) ∧ Drawn g 88 a len cap (K + 20) w w' := by
  go_enter Tryz.func57, Tryz.ntmps57
  go_wp2_with (first | (go_at_call 53; refine (drawFloat_c _ h (by omega)).mono ?_; rintro e w1 ⟨x, rfl, hx, hd⟩; have h1 := h.next hd (by omega)) | (go_at_call 53; refine (drawFloat_c _ h1 (by omega)).mono ?_; rintro e w2 ⟨y, rfl, hy, hd2⟩))
  all_goals
    go_ret
    exact ⟨x, y, rfl, hx, hy, (hd.trans hd2).mono (by omega)⟩

-- @has drawFine
set_option maxHeartbeats 1000000 in
theorem drawFine_c {w0 : World} {g : Nat} {a : Option Addr} {len cap : Nat} {Z : Nat → Int} {K : Nat} (w : World) (h : Tells w0 g a len cap Z K w) (hK : K ≤ 600000) :
    Calls Tryz.prog 58 #[.pointer (some ⟨g, 0, none⟩)] w fun e w' => ∃ x y, e = .returned (.complex .f32 x y) ∧ WfC .f32 (cl .f32 x) ∧ WfC .f32 (cl .f32 y) ∧ Drawn g 88 a len cap (K + 20) w w' := by
  go_enter Tryz.func58, Tryz.ntmps58
  go_wp2_with (first | (go_at_call 39; refine (srcpick_c 65 (by decide) (by decide) _ h (by omega)).mono ?_; rintro e w1 ⟨m, rfl, hm, hd⟩; have h1 := h.next hd (by omega)) | (go_at_call 39; refine (srcpick_c 65 (by decide) (by decide) _ (h1.drewN _) (by omega)).mono ?_; rintro e w2 ⟨m2, rfl, hm2, hd2⟩) | (refine wpList_farith _ _ _ _ _ _ rfl rfl _ _ _ rfl rfl rfl ?_; intro b1 n1 k1))
  go_ret
  exact ⟨_, _, rfl, by simp only [*]; exact wf_fop _ _ _ _, by simp only [*]; exact wf_fop _ _ _ _, (((hd.drewN _).trans hd2).drewN _).mono (by omega)⟩

-- @has drawComplexes
theorem info_c64d : (Tryz.prog.info? 24).map (fun i => (i.zero, i.size, i.bytes)) = some (some (.complex .f32 0 0), 1, 8) := by kernel_rfl
set_option maxRecDepth 100000 in
set_option maxHeartbeats 4000000 in
theorem drawComplexes_c {w0 : World} {g : Nat} {a : Option Addr} {len cap : Nat} {Z : Nat → Int} {K : Nat} (n : Nat) (hn : n ≤ 1000) (w : World) (h : Tells w0 g a len cap Z K w) (hK : K ≤ 500000) :
    Calls Tryz.prog 46 #[.pointer (some ⟨g, 0, none⟩), .int .i64 n] w fun e w' => ∃ (v : Value) (L : List (Nat × Nat)), e = .returned v ∧ L.length = n ∧ (∀ z ∈ L, WfC .f32 (cl .f32 z.1) ∧ WfC .f32 (cl .f32 z.2)) ∧ v ≠ .slice none 0 0 ∧ w'.ownsRow w.heap.size 24 1 v n (L.map fun z => .complex .f32 z.1 z.2) ∧ Drawn g 88 a len cap (K + 2 + 20 * n) w w' := by
  obtain ⟨i0, hi, hz0, hz1, hz2⟩ := info_parts info_c64d
  have hlt := h.src.lt
  go_enter Tryz.func46, Tryz.ntmps46
  go_wp2_with (go_at_call 51; refine (srcone_c 5 (by decide) (by decide) _ (h.alloc _) (by omega)).mono ?_; rintro e w1 ⟨b, rfl, hd⟩)
  have hd1 : Drawn g 88 a len cap (K + 2) w w1 := (Drawn.alloc h.src _).trans hd
  have ho1 : w1.ownsRow w.heap.size 24 1 (.slice (some ⟨w.heap.size, 0, none⟩) 0 0) 0 [] := ownsRow_moved (ownsRow_empty (Nat.le_refl _)) hd.1 hlt
  clear hd
  go_loopw [1, 5] (fun nv v wr => ∃ (r : Nat) (L : List (Nat × Nat)), nv = .int .i64 (r : Int) ∧ L.length + r = n ∧ (∀ z ∈ L, WfC .f32 (cl .f32 z.1) ∧ WfC .f32 (cl .f32 z.2)) ∧ v ≠ .slice none 0 0 ∧ wr.ownsRow w.heap.size 24 1 v L.length (L.map fun z => .complex .f32 z.1 z.2) ∧ Drawn g 88 a len cap (K + 2 + 20 * L.length) w wr) (fun nv _ _ => (intOf nv).toNat)
  case atStart => exact ⟨n, [], rfl, by simp, by simp, by simp, ho1, hd1⟩
  case round =>
    obtain ⟨r, L, rfl, hlen, hwf, hne, hown, hdr⟩ := hrel
    by_cases hr : r = 0
    · subst hr
      have hl : L.length = n := by omega
      rw [hl] at hown hdr
      have HO := Lib.hid hown
      have HN := Lib.hid hne
      have HW := Lib.hid hwf
      clear hown hne hwf
      go_wp2
      go_ret
      exact ⟨_, L, rfl, hl, HW.out, HN.out, HO.out, hdr⟩
    · have hr0 : (0 : Int) < r := by omega
      have hT : Tells w0 g a len cap Z (K + 2 + 20 * L.length) _ := h.next hdr (by omega)
      have hLn : L.length < n := by omega
      have HW := Lib.hid hwf
      clear hwf
      have fin : ∀ (z : Nat × Nat) (w3 w' : World) (v' : Value) (o : Obj), WfC .f32 (cl .f32 z.1) ∧ WfC .f32 (cl .f32 z.2) → Drawn g 88 a len cap (K + 2 + 20 * L.length + 20) wr w3 → w'.ownsRow w.heap.size 24 1 v' (L.length + 1) ((L.map fun z => Value.complex .f32 z.1 z.2) ++ [.complex .f32 z.1 z.2]) → (w3.alloc o).grownBy w' u5.ownBlock → ¬ v' = .slice none 0 0 → ∃ L' : List (Nat × Nat), L'.length = L.length + 1 ∧ (∀ z ∈ L', WfC .f32 (cl .f32 z.1) ∧ WfC .f32 (cl .f32 z.2)) ∧ v' ≠ .slice none 0 0 ∧ w'.ownsRow w.heap.size 24 1 v' L'.length (L'.map fun z => .complex .f32 z.1 z.2) ∧ Drawn g 88 a len cap (K + 2 + 20 * L'.length) w w' := by
        intro z w3 w' v' o hz hd3 hown' hgrow hnn
        refine ⟨L ++ [z], by simp, fun y hy => ?_, hnn, by simpa using hown', ?_⟩
        · rcases List.mem_append.1 hy with hy | hy
          · exact HW.out y hy
          · rw [List.mem_singleton.1 hy]; exact hz
        · have := (hdr.trans hd3).append hgrow (fun k hk => (World.ownsRow.lt hown k hk).1) hlt
          exact this.mono (by simp; omega)
      have FIN := Lib.hid fin
      clear fin
      cases b
      all_goals
        go_wp2_with (first | (go_at_call 58; refine (drawFine_c _ hT (by omega)).mono ?_; rintro e w3 ⟨x, y, rfl, hx, hy, hd3⟩) | (go_at_call 57; refine (drawComplex_c _ hT (by omega)).mono ?_; rintro e w3 ⟨x, y, rfl, hx, hy, hd3⟩) | (at_builtin; refine wpList_append_own _ rfl _ _ 25 rfl w.heap.size 24 i0 (.complex .f32 0 0) 1 8 Tryz.underlying25 hi hz0 hz1 hz2 rfl (by decide) _ _ _ rfl ((ownsRow_moved hown hd3.1 hlt).alloc _) ⟨w3.heap.size, 0, none⟩ 1 1 [.complex .f32 x y] rfl rfl (cell_new1 _ _ _) (fun x hx => by simp at hx; subst hx; rfl) (by unfold maxLen; omega) (by omega) (by have := hd3.1.size; have := hdr.1.size; simp; omega) ?_))
        intro v' w' hown' hgrow hnn
        obtain ⟨L', e1, e2, e3, e4, e5⟩ := FIN.out (x, y) w3 w' v' _ ⟨hx, hy⟩ hd3 hown' hgrow hnn
        have H2 := Lib.hid e2
        have H3 := Lib.hid e3
        have H4 := Lib.hid e4
        have H5 := Lib.hid e5
        clear hown' hgrow hnn e2 e3 e4 e5 hown hne hd3 hx hy
        go_wp2
        go_roundw
        case rel => exact ⟨r - 1, L', by go_num, by omega, H2.out, H3.out, H4.out, H5.out⟩
        case measure => simp [intOf]; omega

-- @has B10Any
theorem B10Any_c (a : Option Addr) (len cap : Nat) (Z : Nat → Int) (n : Nat) (hn : n ≤ 1000) (w : World) (hB : BytesIn w a len Z) :
    Calls Tryz.prog 15 #[.slice a len cap, .int .i64 n] w fun e w' => ∃ (v : Value) (L : List (Nat × Nat)), e = .returned v ∧ L.length = n ∧ (∀ z ∈ L, WfC .f32 (cl .f32 z.1) ∧ WfC .f32 (cl .f32 z.2)) ∧ v ≠ .slice none 0 0 ∧ w'.ownsRow w.heap.size 24 1 v n (L.map fun z => .complex .f32 z.1 z.2) ∧ Gro w w' := by
  go_enter Tryz.func15, Tryz.ntmps15
  go_wp2_with (first | (go_at_call 38; refine (l00From_c _ _ _ Z _ hB).mono ?_; rintro e w1 ⟨rfl, h1⟩) | (go_at_call 46; refine (drawComplexes_c n hn _ h1 (by omega)).mono ?_; rintro e w2 ⟨v, L, rfl, hl, hw, hne, ho, hd⟩; have HW := Lib.hid hw; have HO := Lib.hid ho; clear hw ho))
  all_goals
    go_ret
    exact ⟨v, L, rfl, hl, HW.out, hne, ownsRow_base HO.out h1.gro.size, (h1.next hd (by omega)).gro⟩

-- @has B10Complex
set_option maxHeartbeats 1000000 in
theorem B10Complex_c (a : Option Addr) (len cap : Nat) (Z : Nat → Int) (w : World) (hB : BytesIn w a len Z) :
    Calls Tryz.prog 22 #[.slice a len cap] w fun e w' => ∃ x y, e = .returned (.complex .f32 x y) ∧ WfC .f32 (cl .f32 x) ∧ WfC .f32 (cl .f32 y) ∧ Gro w w' := by
  go_enter Tryz.func22, Tryz.ntmps22
  go_wp2_with (first | (go_at_call 38; refine (l00From_c _ _ _ Z _ hB).mono ?_; rintro e w1 ⟨rfl, h1⟩) | (go_at_call 51; refine (srcone_c 4 (by decide) (by decide) _ h1 (by omega)).mono ?_; rintro e w2 ⟨b, rfl, hd2⟩; refine Hid.out ?_))
  have h2 := h1.next hd2 (by omega)
  clear h1 hd2
  cases b
  all_goals
    refine Lib.hid ?_
    go_wp2_with (first | (go_at_call 57; refine (drawComplex_c _ h2 (by omega)).mono ?_; rintro e w3 ⟨x, y, rfl, hx, hy, hd3⟩) | (go_at_call 58; refine (drawFine_c _ h2 (by omega)).mono ?_; rintro e w3 ⟨x, y, rfl, hx, hy, hd3⟩))
    all_goals
      go_ret
      exact ⟨x, y, rfl, hx, hy, (h2.next hd3 (by omega)).gro⟩

-- @has implNarrowComplex
theorem implNarrowComplex_c (a b : Nat) (h1 : fits (cl .f64 a) = true) (h2 : fits (cl .f64 b) = true) (w : World) : Calls Tryz.prog 25 #[.complex .f64 a b] w (RetC .f32 (narrow (cl .f64 a)) (narrow (cl .f64 b)) w) := by
  have H1 := Lib.hid h1
  have H2 := Lib.hid h2
  clear h1 h2
  go_enter Tryz.func25, Tryz.ntmps25
  go_wp2_with (refine wpList_narrow _ _ _ _ rfl _ rfl Tryz.underlying28 (by rw [Tryz.underlying46]; rfl) rfl (by first | exact H1.out | exact H2.out) ?_; intro b1 n1 h1)
  go_ret
  exact ⟨_, _, _, rfl, by simp only [*], by simp only [*], rfl⟩

-- @has Signbit
theorem signbit_c (b : Nat) (w : World) : Calls Tryz.prog 81 #[.float .f64 b] w (RetV (.bool (sgn FloatKind.f64.format b)) w) := by
  have hx := f64bits_run
  go_enter Tryz.func81, Tryz.ntmps81
  go_wp2
  go_ret
  exact ⟨0, by rw [← signbit_eq]; rfl, rfl⟩

-- @has implSameNumber
theorem implSameNumber_c (a b : Nat) (ha : WfC .f32 (cl .f32 a)) (hb : WfC .f32 (cl .f32 b)) (w : World) : Calls Tryz.prog 60 #[.float .f32 a, .float .f32 b] w (RetV (.bool (decide (cl .f32 a = cl .f32 b))) w) := by
  rcases h1 : cl .f32 a with _ | c
  · rcases h2 : cl .f32 b with _ | d
    · go_enter Tryz.func60, Tryz.ntmps60
      go_wp2
      go_ret
      exact ⟨0, rfl, rfl⟩
    · have s2 := ford_self h2
      go_enter Tryz.func60, Tryz.ntmps60
      go_wp2
      go_ret
      exact ⟨0, rfl, rfl⟩
  · have s1 := ford_self h1
    rcases h2 : cl .f32 b with _ | d
    · go_enter Tryz.func60, Tryz.ntmps60
      go_wp2
      go_ret
      exact ⟨0, rfl, rfl⟩
    · have s2 := ford_self h2
      obtain ⟨x, x1, x2, x3, x4, x5⟩ := widen_cl h1
      obtain ⟨y, y1, y2, y3, y4, y5⟩ := widen_cl h2
      have hsame := same_word (cl_idem h1) (cl_idem h2) (ha _ h1) (hb _ h2)
      have H := Lib.hid hsame
      have X4 := Lib.hid x4
      have Y4 := Lib.hid y4
      clear hsame x2 x3 x4 x5 y2 y3 y4 y5 ha hb
      rcases ho : ford .f32 (some c) (some d) with _ | (_ | _ | _)
      all_goals
        go_enter Tryz.func60, Tryz.ntmps60
        go_wp2_with (first | (refine wpList_widen _ _ _ _ rfl _ rfl Tryz.underlying46 (by rw [Tryz.underlying28]; rfl) rfl ?_; intro b1 n1 hb1) | (go_at_call 81; refine (signbit_c _ _).mono ?_; rintro e w' ⟨n, rfl, rfl⟩))
        first
          | (have e1 := ‹cl .f64 _ = widen (cl .f32 a)›
             have e2 := ‹cl .f64 _ = widen (cl .f32 b)›
             rw [h1, x1] at e1
             rw [h2, y1] at e2
             obtain ⟨rfl, -⟩ := cl_some e1
             obtain ⟨rfl, -⟩ := cl_some e2
             go_ret
             exact ⟨_, by rw [← H.out, ho, ← X4.out, ← Y4.out]; rfl, rfl⟩)
          | (go_ret
             exact ⟨0, by rw [← H.out, ho]; rfl, rfl⟩)

-- @has implSameComplex
theorem implSameComplex_c (a b c d : Nat) (ha : WfC .f32 (cl .f32 a)) (hb : WfC .f32 (cl .f32 b)) (hc : WfC .f32 (cl .f32 c)) (hd : WfC .f32 (cl .f32 d)) (w : World) :
    Calls Tryz.prog 24 #[.complex .f32 a b, .complex .f32 c d] w (RetV (.bool (decide (cl .f32 a = cl .f32 c) && decide (cl .f32 b = cl .f32 d))) w) := by
  cases h : decide (cl .f32 a = cl .f32 c)
  all_goals
    have H := Lib.hid h
    clear h
    go_enter Tryz.func24, Tryz.ntmps24
    go_wp2_with (first | (go_at_call 60; (with_reducible refine (implSameNumber_c _ _ ha hc _).mono ?_); rw [H.out]; rintro e w1 ⟨m1, rfl, rfl⟩) | (go_at_call 60; (with_reducible refine (implSameNumber_c _ _ hb hd _).mono ?_); rintro e w1 ⟨m2, rfl, rfl⟩))
    go_ret
    exact ⟨_, by simp, rfl⟩

-- @has specSameComplex
theorem l01CSame_c (a b c d : Nat) (ha : WfC .f32 (cl .f32 a)) (hb : WfC .f32 (cl .f32 b)) (hc : WfC .f32 (cl .f32 c)) (hd : WfC .f32 (cl .f32 d)) (w : World) :
    Calls Tryz.prog 80 #[.complex .f32 a b, .complex .f32 c d] w (RetV (.bool (decide (cl .f32 a = cl .f32 c) && decide (cl .f32 b = cl .f32 d))) w) := by
  cases h : decide (cl .f32 a = cl .f32 c)
  all_goals
    have H := Lib.hid h
    clear h
    go_enter Tryz.func80, Tryz.ntmps80
    go_wp2_with (first | (go_at_call 43; (with_reducible refine (l01Same_c _ _ ha hc _).mono ?_); rw [H.out]; rintro e w1 ⟨m1, rfl, rfl⟩) | (go_at_call 43; (with_reducible refine (l01Same_c _ _ hb hd _).mono ?_); rintro e w1 ⟨m2, rfl, rfl⟩))
    go_ret
    exact ⟨_, by simp, rfl⟩
theorem specSameComplex_c (a b c d : Nat) (ha : WfC .f32 (cl .f32 a)) (hb : WfC .f32 (cl .f32 b)) (hc : WfC .f32 (cl .f32 c)) (hd : WfC .f32 (cl .f32 d)) (w : World) :
    Calls Tryz.prog 59 #[.complex .f32 a b, .complex .f32 c d] w (RetV (.bool (decide (cl .f32 a = cl .f32 c) && decide (cl .f32 b = cl .f32 d))) w) := by
  go_enter Tryz.func59, Tryz.ntmps59
  go_wp2_with (go_at_call 80; (with_reducible refine (l01CSame_c _ _ _ _ ha hb hc hd _).mono ?_); rintro e w1 ⟨m1, rfl, rfl⟩)
  go_ret
  exact ⟨_, rfl, rfl⟩

-- @has implIsFiniteComplex
theorem implIsFiniteComplex_c (a b : Nat) (w : World) : Calls Tryz.prog 26 #[.complex .f32 a b] w (RetV (.bool (isFin .f32 (cl .f32 a) && isFin .f32 (cl .f32 b))) w) := by
  cases h : isFin .f32 (cl .f32 a)
  all_goals
    go_enter Tryz.func26, Tryz.ntmps26
    go_wp2_with (first | (go_at_call 61; (with_reducible refine (implIsFinite_c a _).mono ?_); rw [h]; rintro e w1 ⟨m1, rfl, rfl⟩) | (go_at_call 61; (with_reducible refine (implIsFinite_c b _).mono ?_); rintro e w1 ⟨m2, rfl, rfl⟩))
    go_ret
    exact ⟨_, by simp, rfl⟩

-- @has l01NarrowRoot
theorem l01Narrow_c (b : Nat) (hf : fits (cl .f64 b) = true) (w : World) : Calls Tryz.prog 72 #[.float .f64 b] w (RetF .f32 (narrow (cl .f64 b)) w) := by
  have H := Lib.hid hf
  clear hf
  go_enter Tryz.func72, Tryz.ntmps72
  go_wp2_with (refine wpList_narrow _ _ _ _ rfl _ rfl Tryz.underlying28 (by rw [Tryz.underlying46]; rfl) rfl (H.out) ?_; intro b1 n1 h1)
  go_ret
  exact ⟨_, _, rfl, by assumption, rfl⟩

-- @has l01Sqrt
theorem l01Sqrt_c (b : Nat) (w : World) : Calls Tryz.prog 45 #[.float .f32 b] w (RetF .f32 (narrow (fsqrt (widen (cl .f32 b)))) w) := by
  have hf := Lib.hid (fits_sqrt b)
  go_enter Tryz.func45, Tryz.ntmps45
  go_wp2_with (first | (refine wpList_widen _ _ _ _ rfl _ rfl Tryz.underlying46 (by rw [Tryz.underlying28]; rfl) rfl ?_; intro b1 n1 h1) | (go_at_call 44; refine (Sqrt_c _ _).mono ?_; rintro e w1 ⟨r, n, rfl, hr, rfl⟩) | (go_at_call 72; refine (l01Narrow_c _ (by rw [hr, h1]; exact hf.out) _).mono ?_; rintro e w1 ⟨q, m, rfl, hq, rfl⟩))
  go_ret
  exact ⟨_, _, rfl, by simp only [*], rfl⟩

-- @has specRootNumber
theorem specRootNumber_c (b : Nat) (w : World) : Calls Tryz.prog 12 #[.float .f32 b] w (RetF .f32 (narrow (fsqrt (widen (cl .f32 b)))) w) := by
  go_enter Tryz.func12, Tryz.ntmps12
  go_wp2_with (go_at_call 45; refine (l01Sqrt_c _ _).mono ?_; rintro e w1 ⟨r, n, rfl, hr, rfl⟩)
  go_ret
  exact ⟨_, _, rfl, hr, rfl⟩

-- @has l01Finite
theorem l01Finite_c (b : Nat) (w : World) : Calls Tryz.prog 62 #[.float .f32 b] w (RetV (.bool (isFin .f32 (cl .f32 b))) w) := by
  go_enter Tryz.func62, Tryz.ntmps62
  go_wp2_with (refine wpList_farith _ _ _ _ _ _ rfl rfl _ _ _ rfl rfl rfl ?_; intro b1 n1 h1)
  go_ret
  exact ⟨_, by rw [← sub_self_eq]; rfl, rfl⟩

-- @has specIsFinite
theorem specIsFinite_c (b : Nat) (w : World) : Calls Tryz.prog 27 #[.float .f32 b] w (RetV (.bool (isFin .f32 (cl .f32 b))) w) := by
  go_enter Tryz.func27, Tryz.ntmps27
  go_wp2_with (go_at_call 62; refine (l01Finite_c _ _).mono ?_; rintro e w' ⟨n, rfl, rfl⟩)
  go_ret
  exact ⟨_, rfl, rfl⟩

end Go.Proofs.YthcgbpidnaimmaaGreatDoor
