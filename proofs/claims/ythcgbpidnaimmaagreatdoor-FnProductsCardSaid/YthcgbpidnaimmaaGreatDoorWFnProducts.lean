/- Contracts of Go functions: what each returns, as a class of words, whatever the world. -/
import Derived.Test.YthcgbpidnaimmaaGreatDoorPrd
import Derived.Test.YthcgbpidnaimmaaGreatDoorProA
import Derived.Test.YthcgbpidnaimmaaGreatDoorProg
import Derived.BigQuiet
import Derived.Deep.QuietTactic
import Derived.Deep.RegionHeld3
import Derived.Deep.DeepFit
import Derived.WalkSpells
import Derived.Lib.Hide
import Derived.WalkSmall
import Derived.Deep.DeepCutAuto
namespace Go.Proofs.YthcgbpidnaimmaaGreatDoor
open Go.RowKit Go.Fl
set_option maxRecDepth 20000

-- @has b10Same
set_option maxHeartbeats 2000000 in
theorem b10Same_c (a b : Option Addr) (len ca cb : Nat) (R I R' I' : Nat → Nat) (w : World) (h1 : SlAt w a len fun j => .complex .f32 (R j) (I j)) (h2 : SlAt w b len fun j => .complex .f32 (R' j) (I' j))
    (wf : ∀ j, WfC .f32 (cl .f32 (R' j)) ∧ WfC .f32 (cl .f32 (I' j))) (he : ∀ j, cl .f32 (R j) = cl .f32 (R' j) ∧ cl .f32 (I j) = cl .f32 (I' j)) :
    Calls Tryz.prog 23 #[.slice a len ca, .slice b len cb] w (RetV (.bool true) w) := by
  have hm := h1.1
  unfold maxLen at hm
  have HE := Lib.hid he
  have HW := Lib.hid wf
  clear he wf
  go_enter Tryz.func23, Tryz.ntmps23
  go_wp2
  go_loopw [13] (fun i wr => ∃ (j q : Nat), j ≤ len ∧ i = .int .i64 (j : Int) ∧ wr = w.drewN q) (fun i _ => len - (intOf i).toNat)
  case atStart => exact ⟨0, 0, Nat.zero_le _, rfl, rfl⟩
  case round =>
    obtain ⟨j, q, hj, rfl, rfl⟩ := hrel
    by_cases hlt : j < len
    · obtain ⟨b1, o1, rfl, hc1⟩ := h1.2 (by omega)
      obtain ⟨b2, o2, rfl, hc2⟩ := h2.2 (by omega)
      have c0 : w.cell? ⟨b1, o1 + j, none⟩ = some (.complex .f32 (R j) (I j)) := hc1 j hlt
      have c1 : w.cell? ⟨b2, o2 + j, none⟩ = some (.complex .f32 (R' j) (I' j)) := hc2 j hlt
      have w1' : WfC .f32 (cl .f32 (R j)) := by rw [(HE.out j).1]; exact (HW.out j).1
      have w2' : WfC .f32 (cl .f32 (I j)) := by rw [(HE.out j).2]; exact (HW.out j).2
      have hd : (decide (cl .f32 (R j) = cl .f32 (R' j)) && decide (cl .f32 (I j) = cl .f32 (I' j))) = true := by rw [(HE.out j).1, (HE.out j).2]; simp
      clear hc1 hc2 h1 h2
      go_upto_region 6 with fail
      go_cut [25] (fun s25 wx => s25 = .bool false ∧ ∃ n, wx = w.drewN n)
      case first =>
        go_region_held3 (fun w' => w'.cell? ⟨b1, o1 + j, none⟩ = some (.complex .f32 (R j) (I j)) ∧ w'.cell? ⟨b2, o2 + j, none⟩ = some (.complex .f32 (R' j) (I' j))) (first | (simp [*]; done)) (first | (go_at_call 59; refine (specSameComplex_c _ _ _ _ w1' w2' (HW.out j).1 (HW.out j).2 _).mono ?_; rw [hd]; rintro e w1 ⟨m7, rfl, rfl⟩))
        all_goals
          go_wp2_with fail
          go_meet
          exact ⟨rfl, _, rfl⟩
      case rest =>
        obtain ⟨rfl, q2, rfl⟩ := hcut
        go_wp2
        go_roundw
        case rel => exact ⟨j + 1, _, by omega, by go_num, rfl⟩
        case measure => simp [intOf]; omega
    · obtain rfl : j = len := by omega
      clear h1 h2
      go_wp2
      go_ret
      exact ⟨_, rfl, rfl⟩

-- @has FnProducts
set_option maxHeartbeats 4000000 in
theorem walk_FnProducts (w : World) (a : Option Addr) (len cap : Nat) (zs : List Int) (h : IsInts .u8 w a len cap zs) (a' : Option Addr) (len' cap' : Nat) (zs' : List Int) (h' : IsInts .u8 w a' len' cap' zs') (hd : w.cell? ⟨6, 15, none⟩ = some (.int .u8 4)) {t1 t2 : TypeId} {p1 p2 : Value}
    (hv1 : w.var? Tryz.prog "strconv.ErrSyntax" = some #[.iface t1 p1]) (hv2 : w.var? Tryz.prog "strconv.ErrRange" = some #[.iface t2 p2]) (hmx : ∃ m, w.cell? ⟨4, 0, none⟩ = some (.int .i64 m)) :
    Calls Tryz.prog 3 #[.slice a len cap, .slice a' len' cap'] w fun e w' => e = .returned (.bool true) ∧ Below w.heap.size w w' := by
  obtain ⟨mx, hm⟩ := hmx
  have BC := bytes_in h
  have BM := bytes_in h'
  generalize (fun j => zs.getD j 0) = Z at BC
  generalize (fun j => zs'.getD j 0) = Z' at BM
  have l1 := BC.1.1
  have l2 := BM.1.1
  have V1 := Lib.hid (var_below hv1)
  have V2 := Lib.hid (var_below hv2)
  have HD := Lib.hid hd
  have HM := Lib.hid hm
  clear h h' hv1 hv2 hd hm
  cases hlong : (decide (1048576 < len) || decide (1048576 < len'))
  case true =>
    have HL := Lib.hid hlong
    go_enter Tryz.func3, Tryz.ntmps3
    go_wp2_with (go_at_call 5; refine (b10Long_c _ _ _ _ _ _ l1 l2 _).mono ?_; rw [HL.out]; rintro e w1 ⟨n0, rfl, rfl⟩)
    all_goals
      go_ret
      exact ⟨rfl, below_drewN (Below.refl _ _) _⟩
  have HL := Lib.hid hlong
  clear hlong
  go_enter Tryz.func3, Tryz.ntmps3
  go_wp2_with (first | (go_at_call 5; refine (b10Long_c _ _ _ _ _ _ l1 l2 _).mono ?_; rw [HL.out]; rintro e w1 ⟨n0, rfl, rfl⟩; have g1 : Gro w (w.drewN n0) := Gro.drewN (Gro.refl w) _) | (go_at_call 6; (with_reducible refine (B10Whole_c _ _ _ Z _ (BC.keep g1)).mono ?_); rintro e w2 ⟨ga, ca, x1, y1, rfl, bx1, by1, c1, g2⟩; have g2 := Gro.trans g1 g2) | (go_at_call 6; (with_reducible refine (B10Whole_c _ _ _ Z' _ (BM.keep g2)).mono ?_); rintro e w3 ⟨gb, cb, x2, y2, rfl, bx2, by2, c2, g3⟩; have g3 := Gro.trans g2 g3; refine Hid.out ?_))
  refine Lib.hid ?_
  have A1 : IsZ .f32 (cl .f32 (floatOfInt .f32 x1)) x1 := isZ_cl .f32 (roomy32 (by omega))
  have A2 : IsZ .f32 (cl .f32 (floatOfInt .f32 y1)) y1 := isZ_cl .f32 (roomy32 (by omega))
  have B1 : IsZ .f32 (cl .f32 (floatOfInt .f32 x2)) x2 := isZ_cl .f32 (roomy32 (by omega))
  have B2 : IsZ .f32 (cl .f32 (floatOfInt .f32 y2)) y2 := isZ_cl .f32 (roomy32 (by omega))
  generalize floatOfInt .f32 x1 = a1 at A1 ⊢
  generalize floatOfInt .f32 y1 = a2 at A2 ⊢
  generalize floatOfInt .f32 x2 = b1 at B1 c2 ⊢
  generalize floatOfInt .f32 y2 = b2 at B2 c2 ⊢
  clear c1
  have T1 := isZ_toInt_cl A1
  have T2 := isZ_toInt_cl A2
  have T3 := isZ_toInt_cl B1
  have T4 := isZ_toInt_cl B2
  have m1 : -40000 ≤ x1 * x2 ∧ x1 * x2 ≤ 40000 := int_bound (mul_bound bx1 bx2)
  have m2 : -40000 ≤ y1 * y2 ∧ y1 * y2 ≤ 40000 := int_bound (mul_bound by1 by2)
  have m3 : -40000 ≤ x1 * y2 ∧ x1 * y2 ≤ 40000 := int_bound (mul_bound bx1 by2)
  have m4 : -40000 ≤ y1 * x2 ∧ y1 * x2 ≤ 40000 := int_bound (mul_bound by1 bx2)
  have m5 : -40000 ≤ x1 * x1 ∧ x1 * x1 ≤ 40000 := int_bound (mul_bound bx1 bx1)
  have m6 : -40000 ≤ y1 * y1 ∧ y1 * y1 ≤ 40000 := int_bound (mul_bound by1 by1)
  have q1 : -200 ≤ x1 ∧ x1 ≤ 200 := int_bound bx1
  have q2 : -200 ≤ y1 ∧ y1 ≤ 200 := int_bound by1
  have q3 : -200 ≤ x2 ∧ x2 ≤ 200 := int_bound bx2
  have q4 : -200 ≤ y2 ∧ y2 ≤ 200 := int_bound by2
  obtain ⟨f1, f2, z1, z2⟩ := mulZ32 A1 A2 B1 B2 bx1 by1 bx2 by2
  obtain ⟨f3, f4, z3, z4⟩ := mulZ32 B1 B2 A1 A2 bx2 by2 bx1 by1
  obtain ⟨-, f5, z5⟩ := powZ A1 A2 bx1 by1
  have z6 := powW A1 A2 bx1 by1
  have Z1 := Lib.hid z1
  have Z2 := Lib.hid z2
  have Z3 := Lib.hid z3
  have Z4 := Lib.hid z4
  have Z5 := Lib.hid z5
  have Z6 := Lib.hid z6
  have F := Lib.hid (And.intro f1 (And.intro f2 (And.intro f3 (And.intro f4 f5))))
  clear z1 z2 z3 z4 z5 z6 f1 f2 f3 f4 f5
  go_wp2_with fail
  refine (implMulComplex_c a1 a2 b1 b2 F.out.1 F.out.2.1 _).mono ?_
  rintro e w4 ⟨p1, p2, n1, rfl, hp1, hp2, rfl⟩
  have P1 : IsZ .f32 (cl .f32 p1) (x1 * x2 - y1 * y2) := by rw [hp1]; exact Z1.out
  have P2 : IsZ .f32 (cl .f32 p2) (x1 * y2 + y1 * x2) := by rw [hp2]; exact Z2.out
  clear hp1 hp2 Z1 Z2
  have R1 : roomy .f32 (x1 * x2 - y1 * y2) := roomy32 (by omega)
  have R2 : roomy .f32 (x1 * y2 + y1 * x2) := roomy32 (by omega)
  have R3 : roomy .f32 (x1 * x1 + y1 * y1) := roomy32 (by omega)
  have E1 := P1.eq (isZ_cl .f32 R1)
  have E2 := P2.eq (isZ_cl .f32 R2)
  go_wp2_with (first | (refine wpList_f2z _ .f32 _ _ _ rfl _ rfl Tryz.underlying2 (by rw [Tryz.underlying28]; rfl) rfl _ T1 (by omega) ?_) | (refine wpList_f2z _ .f32 _ _ _ rfl _ rfl Tryz.underlying2 (by rw [Tryz.underlying28]; rfl) rfl _ T2 (by omega) ?_) | (refine wpList_f2z _ .f32 _ _ _ rfl _ rfl Tryz.underlying2 (by rw [Tryz.underlying28]; rfl) rfl _ T3 (by omega) ?_) | (refine wpList_f2z _ .f32 _ _ _ rfl _ rfl Tryz.underlying2 (by rw [Tryz.underlying28]; rfl) rfl _ T4 (by omega) ?_))
  refine (implMulComplex_c b1 b2 a1 a2 F.out.2.2.1 F.out.2.2.2.1 _).mono ?_
  rintro e w4 ⟨s1, s2, n2, rfl, hs1, hs2, rfl⟩
  have E3 : ford .f32 (cl .f32 s1) (cl .f32 p1) = some .eq := IsZ.eq (n := x1 * x2 - y1 * y2) (by rw [hs1, show x1 * x2 - y1 * y2 = x2 * x1 - y2 * y1 by grind]; exact Z3.out) P1
  have E4 : ford .f32 (cl .f32 s2) (cl .f32 p2) = some .eq := IsZ.eq (n := x1 * y2 + y1 * x2) (by rw [hs2, show x1 * y2 + y1 * x2 = x2 * y1 + y2 * x1 by grind]; exact Z4.out) P2
  clear hs1 hs2 Z3 Z4
  go_wp2_with fail
  refine (implPowerOf_c a1 a2 F.out.2.2.2.2 _).mono ?_
  rintro e w4 ⟨r1, n3, rfl, hr1, rfl⟩
  have E5 : ford .f32 (cl .f32 r1) (cl .f32 (floatOfInt .f32 (x1 * x1 + y1 * y1))) = some .eq := IsZ.eq (by rw [hr1]; exact Z5.out) (isZ_cl .f32 R3)
  clear hr1 Z5 E1 E2 E3 E4
  go_wp2_with fail
  refine (implConjugateOf_c a1 a2 _).mono ?_
  rintro e w4 ⟨n4, rfl, rfl⟩
  have A3 : IsZ .f32 (cl .f32 (Op.negFloat .f32 a2)) (-y1) := A2.neg_cl
  generalize Op.negFloat .f32 a2 = a3 at A3 ⊢
  obtain ⟨f1, f2, z1, z2⟩ := mulZ32 A1 A2 A1 A3 bx1 by1 bx1 (by omega)
  have F2 := Lib.hid (And.intro f1 f2)
  clear f1 f2
  have Z7 := Lib.hid z1
  have Z8 := Lib.hid z2
  clear z1 z2
  go_wp2_with fail
  refine (implMulComplex_c a1 a2 a1 a3 F2.out.1 F2.out.2 _).mono ?_
  rintro e w4 ⟨s3, s4, n5, rfl, hs3, hs4, rfl⟩
  have E6 : ford .f32 (cl .f32 s3) (cl .f32 (floatOfInt .f32 (x1 * x1 + y1 * y1))) = some .eq := IsZ.eq (by rw [hs3, show x1 * x1 + y1 * y1 = x1 * x1 - y1 * -y1 by grind]; exact Z7.out) (isZ_cl .f32 R3)
  have E7 : ford .f32 (cl .f32 s4) (cl .f32 0) = some .eq := IsZ.eq (n := 0) (by rw [hs4, show (0 : Int) = x1 * -y1 + y1 * x1 by grind]; exact Z8.out) (isZ_cl .f32 (n := 0) (roomy32 (by decide)))
  clear hs3 hs4 Z7 Z8 F2
  go_wp2_with fail
  refine (implLongOf_c a1 a2 (by rw [Z6.out]; exact fits_sqrt _) _).mono ?_
  rw [Z6.out]
  rintro e w4 ⟨r2, n6, rfl, hr2, rfl⟩
  go_wp2_with fail
  refine (specRootNumber_c _ _).mono ?_
  rintro e w4 ⟨r3, n7, rfl, hr3, rfl⟩
  have W2 : WfC .f32 (cl .f32 r2) := by rw [hr2]; exact wf_narrow _
  have W3 : WfC .f32 (cl .f32 r3) := by rw [hr3]; exact wf_narrow _
  have E8 : decide (cl .f32 r2 = cl .f32 r3) = true := by rw [hr2, hr3]; simp
  clear hr2 hr3 E5 E6 E7 Z6 A3
  go_wp2_with fail
  refine (specSameNumber_c _ _ W2 W3 _).mono ?_
  rw [E8]
  rintro e w4 ⟨n8, rfl, rfl⟩
  clear E8 W2 W3 T1 T2 T3 T4
  have g4 : Gro w (w3.drewN (n1 + n2 + n3 + n4 + n5 + n6 + n7 + n8)) := Gro.drewN g3 _
  go_upto_region 11 with fail
  generalize w3.drewN (n1 + n2 + n3 + n4 + n5 + n6 + n7 + n8) = w9 at g4 ⊢
  go_cut [136] (fun s136 wx => s136 = .bool false ∧ ∃ n, wx = w9.drewN n)
  case first =>
    have Z2' : IsZ .f32 (cl .f32 1073741824) 2 := isZ_cl .f32 (n := 2) (roomy32 (by decide))
    have S1 := A1.mul Z2' (roomy32 (by omega))
    have S2 := A2.mul Z2' (roomy32 (by omega))
    obtain ⟨re, im, hc, C1, C2⟩ := isZ_csum A1 A2 A1 A2 (roomy32 (by omega)) (roomy32 (by omega))
    have C1' : IsZ .f32 (cl .f32 re) (x1 * 2) := by rw [show x1 * 2 = x1 + x1 by omega]; exact C1
    have C2' : IsZ .f32 (cl .f32 im) (y1 * 2) := by rw [show y1 * 2 = y1 + y1 by omega]; exact C2
    have z0 : IsZ .f32 (cl .f32 0) 0 := isZ_cl .f32 (n := 0) (roomy32 (by decide))
    by_cases hb : x2 = 0 ∧ y2 = 0
    · obtain ⟨hb1, hb2⟩ := hb
      rw [hb1] at B1
      rw [hb2] at B2
      have E1 := B1.eq z0
      have E2 := B2.eq z0
      clear B1 B2 hb1 hb2 P1 P2 c2 R1 R2 R3
      go_wp2_with fail
      refine (implScaleComplex_c _ _ _ _).mono ?_
      rintro e w4 ⟨u1, u2, n9, rfl, hu1, hu2, rfl⟩
      have E3 := (show IsZ .f32 (cl .f32 u1) (x1 * 2) by rw [hu1]; exact S1).eq C1'
      have E4 := (show IsZ .f32 (cl .f32 u2) (y1 * 2) by rw [hu2]; exact S2).eq C2'
      clear hu1 hu2
      go_wp2_with (refine wpList_cadd _ _ _ _ _ rfl _ _ _ _ _ _ _ rfl rfl rfl hc ?_)
      go_meet
      exact ⟨rfl, _, rfl⟩
    · obtain ⟨f1, z1, f2, z2⟩ := quoZ P1 P2 B1 B2 bx1 by1 bx2 by2 (sq_ne hb)
      have F3 := Lib.hid (And.intro f1 f2)
      have Z1 := Lib.hid z1
      have Z2 := Lib.hid z2
      have hn := pair_ne B1 B2 hb
      clear f1 f2 z1 z2 hb
      rcases hn with hn | ⟨hn, hn2⟩
      all_goals
        clear B1 B2 P1 P2 c2 R1 R2 R3 z0
        go_wp2_with fail
        refine (implQuotientOf_c p1 p2 b1 b2 F3.out.1 F3.out.2 _).mono ?_
        rintro e w4 ⟨v1, v2, n8, rfl, hv1, hv2, rfl⟩
        have E1 := (show IsZ .f32 (cl .f32 v1) x1 by rw [hv1]; exact Z1.out).eq A1
        have E2 := (show IsZ .f32 (cl .f32 v2) y1 by rw [hv2]; exact Z2.out).eq A2
        clear hv1 hv2 Z1 Z2 F3
        go_wp2_with fail
        refine (implScaleComplex_c _ _ _ _).mono ?_
        rintro e w4 ⟨u1, u2, n9, rfl, hu1, hu2, rfl⟩
        have E3 := (show IsZ .f32 (cl .f32 u1) (x1 * 2) by rw [hu1]; exact S1).eq C1'
        have E4 := (show IsZ .f32 (cl .f32 u2) (y1 * 2) by rw [hu2]; exact S2).eq C2'
        clear hu1 hu2
        go_wp2_with (refine wpList_cadd _ _ _ _ _ rfl _ _ _ _ _ _ _ rfl rfl rfl hc ?_)
        go_meet
        exact ⟨rfl, _, rfl⟩
  case rest =>
    obtain ⟨rfl, n10, rfl⟩ := hcut
    have g5 : Gro w (w9.drewN n10) := Gro.drewN g4 _
    generalize w9.drewN n10 = w5 at g5 ⊢
    clear g4 A1 A2 B1 B2 P1 P2 c2 R1 R2 R3 F
    go_wp2_with (first | (go_at_call 16; refine (b10At_c _ _ _ Z _ (BC.1.keep g5) (fun j _ => BC.2 j) 0 9 (by decide) (by decide) (by decide)).mono ?_; rintro e w6 ⟨n, hn, n11, rfl, rfl⟩; refine Hid.out ?_))
    refine Lib.hid ?_
    have hn' : n < 9 := by omega
    have g6 : Gro w (w5.drewN n11) := Gro.drewN g5 _
    generalize w5.drewN n11 = w6 at g6 ⊢
    go_wp2_with (go_at_call 15; (with_reducible refine (B10Any_c _ _ _ Z' n (by omega) _ (BM.keep g6)).mono ?_); rintro e w7 ⟨v, L, rfl, hL, hW, hne, ho, g7⟩; have g7 := Gro.trans g6 g7; refine Hid.out ?_)
    refine Lib.hid ?_
    have hLm : (L.map fun z => Value.complex .f32 z.1 z.2).length = n := by rw [List.length_map, hL]
    obtain ⟨gl, cl_, Y, rfl, bl, le, mx2, row, val⟩ := own_rowV (by rw [hLm]; exact ho) hne
    rw [hLm] at le ⊢
    obtain ⟨R, hR⟩ : ∃ R : Nat → Nat, R = fun j => (L.getD j (0, 0)).1 := ⟨_, rfl⟩
    obtain ⟨I, hI⟩ : ∃ I : Nat → Nat, I = fun j => (L.getD j (0, 0)).2 := ⟨_, rfl⟩
    have SL : SlAt w7 (some ⟨gl, 0, none⟩) n fun j => .complex .f32 (R j) (I j) := row_SlAt row le mx2 (fun j hj => val j _ (by rw [List.getElem?_map, List.getElem?_eq_getElem (by omega), hR, hI]; simp [List.getD, List.getElem?_eq_getElem (show j < L.length by omega)]))
    have WL := Lib.hid (show ∀ j, WfC .f32 (cl .f32 (R j)) ∧ WfC .f32 (cl .f32 (I j)) from fun j => by
      rw [hR, hI]
      show WfC .f32 (cl .f32 (L.getD j (0, 0)).1) ∧ WfC .f32 (cl .f32 (L.getD j (0, 0)).2)
      rcases Nat.lt_or_ge j L.length with h1 | h1
      · rw [show L.getD j (0, 0) = L[j] by simp [List.getD, List.getElem?_eq_getElem h1]]
        exact hW _ (List.getElem_mem h1)
      · rw [show L.getD j (0, 0) = (0, 0) by simp [List.getD, List.getElem?_eq_none h1]]
        exact ⟨wf_cl (by decide), wf_cl (by decide)⟩)
    clear hLm row val ho hne hR hI hW hL bl
    obtain ⟨r1, r2, r3⟩ := read_textC R I (fun j => (WL.out j).1) (fun j => (WL.out j).2) (show n ≤ 256 by omega)
    have r4 : (textG (hexC R I) n).size ≤ 1048576 := Nat.le_trans (textG_size (hexC R I) 16 n (fun j => Nat.le_of_eq (hexC_len R I j))) (by omega)
    have TX : Hid (∀ w', Gro w w' → SlAt w' (some ⟨gl, 0, none⟩) n (fun j => .complex .f32 (R j) (I j)) → Calls Tryz.prog 17 #[.slice (some ⟨gl, 0, none⟩) n cl_] w' fun e w'' => e = .returned (.tuple #[.string (textG (hexC R I) n), .bool true]) ∧ Gro w' w'') := Lib.hid fun w' hg hs => by
      have := implComplexText_c (some ⟨gl, 0, none⟩) n cl_ R I w' hs WL.out (Gro.cell hg HD.out)
      rw [if_pos (by omega), decide_eq_true (by omega)] at this
      exact this
    generalize textG (hexC R I) n = X at r1 r2 r3 r4 TX
    have r5 := Lib.hid r3
    clear r3
    go_wp2_with (go_at_call 17; (with_reducible refine (TX.out _ g7 SL).mono ?_); rintro e w8 ⟨rfl, g8⟩; have S8 := SL.keep g8; have g8 := Gro.trans g7 g8; refine Hid.out ?_)
    refine Lib.hid ?_
    clear SL g7 TX
    go_wp2_with (go_at_call 18; (with_reducible refine (implReadComplex_c X w8 r4 (V1.out _ g8) (V2.out _ g8) (Gro.cell (a := w) g8 HD.out) (Gro.cell (a := w) g8 HM.out)).mono ?_); rw [r1]; rintro e w9 ⟨v8, rfl, g9, hR⟩; have HR := Lib.hid hR; clear hR; refine Hid.out ?_)
    obtain ⟨-, n8, o8⟩ := HR.out.resolve_right (fun x => absurd x.1 (by rw [r1]; decide))
    obtain ⟨gr, cap9, Y9, rfl, b9, le9, mx9, row9, val9⟩ := own_rowV o8 n8
    have S9 : SlAt w9 (some ⟨gr, 0, none⟩) n fun j => .complex .f32 (nb (R j)) (nb (I j)) := row_SlAt row9 (by omega) mx9 (fun j hj => by
      have := val9 j _ (gV_cH X j (by omega))
      rw [(r5.out j hj).1, (r5.out j hj).2] at this
      exact this)
    have S8' := S8.keep g9
    rw [r2] at le9 ⊢
    have g9 := Gro.trans g8 g9
    clear n8 o8 val9 row9 HR S8 r1 r2 r5 r4 V1 V2 HM b9 g8
    clear m1 m2 m3 m4 m5 m6 q1 q2 q3 q4 g1 g2 g3 g5 g6
    refine Lib.hid ?_
    go_wp2_with (go_at_call 19; (with_reducible refine (B10Number_c _ _ _ Z _ (BC.keep g9)).mono ?_); rintro e w10 ⟨x, rfl, hx, g10⟩; have T9 := S9.keep g10; have T8 := S8'.keep g10; have g10 := Gro.trans g9 g10; refine Hid.out ?_)
    clear S9 S8' g9
    have hnx := nb_le' hx
    have FB : Hid (∀ w, Calls Tryz.prog 20 #[.int .i64 (nb x : Int)] w (RetV (.tuple #[.float .f32 (nb x), .bool true]) w)) := Lib.hid fun w => implFromBits_in (nb x : Int) (by omega) (by omega) w
    refine Lib.hid ?_
    go_wp2_with (first | (go_at_call 21; (with_reducible refine (implBitsNb_c _ hx _).mono ?_); rintro e w1 ⟨k1, rfl, rfl⟩) | (go_at_call 20; (with_reducible refine (FB.out _).mono ?_); rintro e w1 ⟨k2, rfl, rfl⟩; refine Hid.out ?_))
    have g11 : Gro w (w10.drewN (k1 + k2)) := Gro.drewN g10 _
    replace T9 := T9.keep (Gro.drewN (Gro.refl w10) (k1 + k2))
    replace T8 := T8.keep (Gro.drewN (Gro.refl w10) (k1 + k2))
    generalize w10.drewN (k1 + k2) = w11 at g11 T9 T8 ⊢
    clear g10 FB
    refine Lib.hid ?_
    go_wp2_with (go_at_call 22; (with_reducible refine (B10Complex_c _ _ _ Z _ (BC.keep g11)).mono ?_); rintro e w12 ⟨u, v, rfl, hu, hv, g12⟩; have T9 := T9.keep g12; have T8 := T8.keep g12; have g12 := Gro.trans g11 g12; refine Hid.out ?_)
    clear g11
    obtain ⟨nu1, nu2⟩ := narrow_widen_cl hu
    obtain ⟨nv1, nv2⟩ := narrow_widen_cl hv
    have wn : WfC .f32 (cl .f32 (nb x)) := by rw [cl_nb]; exact hx
    have hnb : decide (cl .f32 (nb x) = cl .f32 x) = true := by rw [cl_nb]; simp
    refine Lib.hid ?_
    go_wp2_with (first | (refine wpList_widen _ _ _ _ rfl u rfl Tryz.underlying46 (by rw [Tryz.underlying28]; rfl) rfl ?_; intro d0 i0 hd0) | (refine wpList_widen _ _ _ _ rfl v rfl Tryz.underlying46 (by rw [Tryz.underlying28]; rfl) rfl ?_; intro d1 i1 hd1))
    refine (b10Same_c _ _ n _ _ (fun j => nb (R j)) (fun j => nb (I j)) R I _ (T9.keep (Gro.drewN (Gro.refl w12) _)) (T8.keep (Gro.drewN (Gro.refl w12) _)) WL.out (fun j => ⟨cl_nb, cl_nb⟩)).mono ?_
    rintro e w13 ⟨i2, rfl, rfl⟩
    clear T9 T8
    go_wp2_with (go_at_call 10; (with_reducible refine (specSameNumber_c _ _ wn hx _).mono ?_); rw [hnb]; rintro e w1 ⟨i3, rfl, rfl⟩)
    refine (implNarrowComplex_c d0 d1 (by rw [hd0]; exact nu1) (by rw [hd1]; exact nv1) _).mono ?_
    rw [hd0, hd1, nu2, nv2]
    rintro e w13 ⟨e0, e1, i4, rfl, he0, he1, rfl⟩
    have we0 : WfC .f32 (cl .f32 e0) := by rw [he0]; exact hu
    have we1 : WfC .f32 (cl .f32 e1) := by rw [he1]; exact hv
    have hee : (decide (cl .f32 e0 = cl .f32 u) && decide (cl .f32 e1 = cl .f32 v)) = true := by rw [he0, he1]; simp
    clear hd0 hd1 he0 he1 nu1 nu2 nv1 nv2
    go_wp2_with fail
    refine (implSameComplex_c e0 e1 u v we0 we1 hu hv _).mono ?_
    rw [hee]
    rintro e w13 ⟨i5, rfl, rfl⟩
    go_wp2_with fail
    refine (implConjugateOf_c u v _).mono ?_
    rintro e w13 ⟨i6, rfl, rfl⟩
    go_wp2_with fail
    refine (implConjugateOf_c u (Op.negFloat .f32 v) _).mono ?_
    rw [Go.Fl.flip_flip]
    rintro e w13 ⟨i7, rfl, rfl⟩
    go_wp2_with fail
    have huu : (decide (cl .f32 u = cl .f32 u) && decide (cl .f32 v = cl .f32 v)) = true := by simp
    refine (implSameComplex_c u v u v hu hv hu hv _).mono ?_
    rw [huu]
    rintro e w13 ⟨i8, rfl, rfl⟩
    clear hee huu we0 we1
    go_wp2_with fail
    refine (implIsFiniteComplex_c u v _).mono ?_
    rintro e w13 ⟨i9, rfl, rfl⟩
    have HU := specIsFinite_c u
    cases hfu : isFin .f32 (cl .f32 u)
    all_goals
      rw [hfu] at HU
      go_wp2_with (first | (go_at_call 27; refine (HU _).mono ?_; rintro e w1 ⟨i10, rfl, rfl⟩) | (go_at_call 27; refine (specIsFinite_c v _).mono ?_; rintro e w1 ⟨i11, rfl, rfl⟩))
      go_ret
      exact ⟨by simp, below_drewN g12 _⟩

end Go.Proofs.YthcgbpidnaimmaaGreatDoor
