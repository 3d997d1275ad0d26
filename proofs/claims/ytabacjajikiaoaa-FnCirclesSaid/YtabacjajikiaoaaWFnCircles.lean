/- Contracts of Go functions: what each returns, as a class of words, whatever the world. -/
import Derived.Test.YtabacjajikiaoaaCil
import Derived.Test.YtabacjajikiaoaaCirA
import Derived.Test.YtabacjajikiaoaaProg
import Derived.BigQuiet
import Derived.Deep.QuietTactic
import Derived.Deep.RegionHeld3
import Derived.Deep.DeepFit
import Derived.WalkSpells
import Derived.Lib.Hide
import Derived.WalkSmall
import Derived.Deep.DeepCutAuto
namespace Go.Proofs.Ytabacjajikiaoaa
open Go.RowKit Go.Fl
set_option maxRecDepth 20000

-- @has b10Near
set_option maxHeartbeats 1000000 in
theorem b10Near_c (a b c d m : Nat) (h1 : fle .f64 (gapC (widen (cl .f32 a)) (widen (cl .f32 c))) (cl .f64 m) = true) (h2 : fle .f64 (gapC (widen (cl .f32 b)) (widen (cl .f32 d))) (cl .f64 m) = true) (w : World) :
    Calls Try.prog 30 #[.complex .f32 a b, .complex .f32 c d, .float .f64 m] w (RetV (.bool true) w) := by
  have tl := tst_lt .f64
  have te := tst_eq .f64
  unfold fle at h1 h2
  rw [Bool.or_eq_true] at h1 h2
  rcases h1 with h1 | h1 <;> rcases h2 with h2 | h2
  all_goals
    go_enter Try.func30, Try.ntmps30
    go_wp2_with (first | (refine wpList_widen _ _ _ _ rfl _ rfl Try.underlying25 (by rw [Try.underlying22]; rfl) rfl ?_; intro b1 n1 k1) | (go_at_call 27; refine (b10Gap_c _ _ _).mono ?_; rintro e w1 ⟨g, n, rfl, hg, rfl⟩))
    go_ret
    exact ⟨_, by simp, rfl⟩

-- @has FnCircles
theorem phw_word {n x : Nat} {v : Int} (hv : v = (n : Int) - 256) (h : cl .f64 x = fop .quo .f64 (cl .f64 (floatOfInt .f64 v)) (cl .f64 4634204016564240384)) {b : Nat} (hb : phw n = some b) : x = b := by
  have e : cl .f64 x = some b := by rw [← hb, h, hv]; rfl
  exact (cl_some e).1
set_option maxHeartbeats 4000000 in
theorem walk_FnCircles (w : World) (a : Option Addr) (len cap : Nat) (zs : List Int) (h : IsInts .u8 w a len cap zs) (a' : Option Addr) (len' cap' : Nat) (zs' : List Int) (h' : IsInts .u8 w a' len' cap' zs') :
    Calls Try.prog 10 #[.slice a len cap, .slice a' len' cap'] w fun e w' => e = .returned (.bool true) ∧ Below w.heap.size w w' := by
  have hC := SlI.of h
  have hM := SlI.of h'
  have zC := Lib.hid fun j hj => wf_u8 (h.wf j hj)
  have zM := Lib.hid fun j hj => wf_u8 (h'.wf j hj)
  have l1 := hC.1
  have l2 := hM.1
  clear h h'
  cases hlong : (decide (1048576 < len) || decide (1048576 < len'))
  case true =>
    have HL := Lib.hid hlong
    go_enter Try.func10, Try.ntmps10
    go_wp2_with (go_at_call 25; refine (b10Long_c _ _ _ _ _ _ l1 l2 _).mono ?_; rw [HL.out]; rintro e w1 ⟨n0, rfl, rfl⟩)
    all_goals
      go_ret
      exact ⟨rfl, below_drewN (Below.refl _ _) _⟩
  have HL := Lib.hid hlong
  clear hlong
  go_enter Try.func10, Try.ntmps10
  go_wp2_with (first | (go_at_call 25; refine (b10Long_c _ _ _ _ _ _ l1 l2 _).mono ?_; rw [HL.out]; rintro e w1 ⟨n0, rfl, rfl⟩) | (go_at_call 26; refine (b10At_c _ _ _ _ _ (SlI.keep hC (by repeat (first | with_reducible exact Gro.refl _ | with_reducible apply Gro.drewN | with_reducible apply Gro.drew | with_reducible apply Gro.alloc | with_reducible refine Gro.setCell ?_ (by dsimp only; omega) _ | refine Gro.trans ?_ (by assumption)))) zC.out 0 256 (by decide) (by decide) (by decide)).mono ?_; rintro e w1 ⟨n, hn, m1, rfl, rfl⟩; refine Hid.out ?_))
  refine Lib.hid ?_
  go_wp2_with (go_at_call 26; refine (b10At_c _ _ _ _ _ (SlI.keep hC (by repeat (first | with_reducible exact Gro.refl _ | with_reducible apply Gro.drewN | with_reducible apply Gro.drew | with_reducible apply Gro.alloc | with_reducible refine Gro.setCell ?_ (by dsimp only; omega) _ | refine Gro.trans ?_ (by assumption)))) zC.out 1 256 (by decide) (by decide) (by decide)).mono ?_; rintro e w1 ⟨m, hm, m2, rfl, rfl⟩; refine Hid.out ?_)
  refine Lib.hid ?_
  have hn' : n < 256 := by omega
  have hm' : m < 256 := by omega
  obtain ⟨b1, p1, t1, f1, r1, i1⟩ := pha (n := n + 128) (by omega)
  obtain ⟨b2, p2, t2, f2, r2, i2⟩ := pha (n := m + 128) (by omega)
  obtain ⟨b3, p3, t3, f3, r3, i3⟩ := pha (n := n + m) (by omega)
  rw [show (n + 128) % 64 = n % 64 by omega] at r1 i1 f1
  rw [show (m + 128) % 64 = m % 64 by omega] at r2 i2 f2
  have P1 := Lib.hid p1
  have P2 := Lib.hid p2
  have P3 := Lib.hid p3
  have Q1 := Lib.hid (And.intro t1 (And.intro f1 (And.intro r1 i1)))
  have Q2 := Lib.hid (And.intro t2 (And.intro f2 (And.intro r2 i2)))
  have Q3 := Lib.hid (And.intro t3 (And.intro f3 (And.intro r3 i3)))
  clear p1 p2 p3 t1 t2 t3 f1 f2 f3 r1 r2 r3 i1 i2 i3
  go_wp2_with (refine wpList_farith _ .quo _ _ _ _ rfl rfl _ _ _ rfl rfl rfl ?_; intro x nx gx)
  obtain rfl := phw_word (by omega) gx P1.out
  clear gx P1
  refine (implPhasor_c x _ Q1.out.1 Q1.out.2.1 _).mono ?_
  rintro e w1 ⟨u1, v1, m3, rfl, hu1, hv1, rfl⟩
  have U1 := Lib.hid (hu1.trans Q1.out.2.2.1)
  have V1 := Lib.hid (hv1.trans Q1.out.2.2.2)
  clear hu1 hv1 Q1
  go_wp2_with (refine wpList_farith _ .quo _ _ _ _ rfl rfl _ _ _ rfl rfl rfl ?_; intro y ny gy)
  obtain rfl := phw_word (by omega) gy P2.out
  clear gy P2
  refine (implPhasor_c y _ Q2.out.1 Q2.out.2.1 _).mono ?_
  rintro e w1 ⟨u2, v2, m4, rfl, hu2, hv2, rfl⟩
  have U2 := Lib.hid (hu2.trans Q2.out.2.2.1)
  have V2 := Lib.hid (hv2.trans Q2.out.2.2.2)
  clear hu2 hv2 Q2
  go_wp2_with (refine wpList_farith _ .quo _ _ _ _ rfl rfl _ _ _ rfl rfl rfl ?_; intro z nz gz)
  obtain rfl := phw_word (by omega) gz P3.out
  clear gz P3
  refine (implPhasor_c z _ Q3.out.1 Q3.out.2.1 _).mono ?_
  rintro e w1 ⟨u3, v3, m5, rfl, hu3, hv3, rfl⟩
  have U3 := Lib.hid (hu3.trans Q3.out.2.2.1)
  have V3 := Lib.hid (hv3.trans Q3.out.2.2.2)
  clear hu3 hv3 Q3
  have kn : n % 64 < 64 := Nat.mod_lt _ (by decide)
  have km : m % 64 < 64 := Nat.mod_lt _ (by decide)
  have KN := Lib.hid kn
  have KM := Lib.hid km
  clear kn km
  go_wp2_with fail
  refine (implAngleOf_c u1 v1 _).mono ?_
  rintro e w1 ⟨an, m6, rfl, han, rfl⟩
  rw [U1.out, V1.out, ang KN.out] at han
  have HA := Lib.hid han
  clear han
  go_wp2_with (first | (refine wpList_widen _ _ _ _ rfl an rfl Try.underlying25 (by rw [Try.underlying22]; rfl) rfl ?_; intro d1 nd1 g1) | (refine wpList_farith _ .mul _ _ _ _ rfl rfl _ d1 _ rfl rfl rfl ?_; intro d2 nd2 g2) | (refine wpList_farith _ .sub _ _ _ _ rfl rfl _ d2 _ rfl rfl rfl ?_; intro d3 nd3 g3; (have ht : cl .f64 d3 = turnC n := by (rw [g3, g2, g1, HA.out]; rfl)); clear g1 g2 g3) | (refine wpList_farith _ .add _ _ _ _ rfl rfl _ d3 _ rfl rfl rfl ?_; intro d4 nd4 g4; rw [ht] at g4; obtain ⟨w1, w2, w3, w4, w5⟩ := turn hn' g4; clear g4) | (refine wpList_f2i _ _ _ _ rfl d4 rfl Try.underlying2 (by rw [Try.underlying25]; rfl) rfl _ w1 (by omega) ?_))
  have w4' : fgt .f64 (gapC (cl .f64 d3) (cl .f64 (floatOfInt .f64 (wholeI n - 10000)))) (cl .f64 4562254508917369340) = false := by rw [ht]; exact w4
  clear w1 w4 ht HA
  generalize wholeI n = W at w2 w3 w5 w4' ⊢
  have W4 := Lib.hid w4'
  have W5 := Lib.hid w5
  clear w4' w5
  have hp := pow_near KN.out
  refine (implPowerOf_c u1 v1 (by rw [U1.out, V1.out]; exact hp.1) _).mono ?_
  rw [U1.out, V1.out]
  have G1 := hp.2
  clear hp
  generalize narrow (powC (widen (some (RW.getD (n % 64) 0))) (widen (some (IW.getD (n % 64) 0)))) = pc at G1 ⊢
  rintro e w1 ⟨r, m7, rfl, hr, rfl⟩
  have tg := tst_gt .f64
  go_wp2_with (first | (refine wpList_widen _ _ _ _ rfl r rfl Try.underlying25 (by rw [Try.underlying22]; rfl) rfl ?_; intro d5 nd5 g5) | (go_at_call 27; refine (b10Gap_c _ _ _).mono ?_; rintro e w1 ⟨g6, m8, rfl, hg6, rfl⟩))
  clear G1 hr g5 hg6
  obtain ⟨⟨f1, q1⟩, f2, q2⟩ := phasors KN.out KM.out
  rw [show (n % 64 + m % 64) % 64 = (n + m) % 64 by omega] at q1 q2
  refine (implMulComplex_c u1 v1 u2 v2 (by rw [U1.out, V1.out, U2.out, V2.out]; exact f1) (by rw [U1.out, V1.out, U2.out, V2.out]; exact f2) _).mono ?_
  rw [U1.out, V1.out, U2.out, V2.out]
  generalize narrow (mulRe (widen (some (RW.getD (n % 64) 0))) (widen (some (IW.getD (n % 64) 0))) (widen (some (RW.getD (m % 64) 0))) (widen (some (IW.getD (m % 64) 0)))) = cr at q1 ⊢
  generalize narrow (mulIm (widen (some (RW.getD (n % 64) 0))) (widen (some (IW.getD (n % 64) 0))) (widen (some (RW.getD (m % 64) 0))) (widen (some (IW.getD (m % 64) 0)))) = ci at q2 ⊢
  rintro e w1 ⟨s1, s2, m9, rfl, hs1, hs2, rfl⟩
  have N1 : fle .f64 (gapC (widen (cl .f32 s1)) (widen (cl .f32 u3))) (cl .f64 4547007122018943789) = true := by rw [hs1, U3.out]; exact q1
  have N2 : fle .f64 (gapC (widen (cl .f32 s2)) (widen (cl .f32 v3))) (cl .f64 4547007122018943789) = true := by rw [hs2, V3.out]; exact q2
  have NN := Lib.hid (And.intro N1 N2)
  clear N1 N2 q1 q2 f1 f2 hs1 hs2
  go_wp2_with fail
  refine (b10Near_c s1 s2 u3 v3 _ NN.out.1 NN.out.2 _).mono ?_
  rintro e w1 ⟨m10, rfl, rfl⟩
  clear NN U2 V2 U3 V3
  go_wp2_with fail
  refine (b10Gap_c _ _ _).mono ?_
  rintro e w1 ⟨g7, m11, rfl, hg7, rfl⟩
  have T7 : fgt .f64 (cl .f64 g7) (cl .f64 4562254508917369340) = false := by rw [hg7]; exact W4.out
  clear hg7 W4
  have w5 := W5.out
  go_upto_region 13 with fail
  clear T7 w5 W5
  go_cut [100] (fun s100 wx => s100 = .bool false ∧ ∃ q, wx = w.drewN q)
  case first =>
    by_cases hk : n % 16 = 0
    · have tm : ((n : Int) - 128).tmod 16 = 0 := Int.tmod_eq_zero_of_dvd (by omega)
      have hs := six_re KN.out (by omega)
      rw [← U1.out] at hs
      cases hz : feq .f64 (gapC (widen (cl .f32 u1)) (cl .f64 0)) (cl .f64 0)
      · have hs1 : ford .f64 (gapC (widen (cl .f32 u1)) (cl .f64 0)) (cl .f64 4607182418800017408) = some .eq := by simpa [feq] using hs.resolve_left (by rw [hz]; decide)
        have hz1 : ¬ ford .f64 (gapC (widen (cl .f32 u1)) (cl .f64 0)) (cl .f64 0) = some .eq := by simpa [feq] using hz
        clear hs hz
        go_wp2_with (first | (refine wpList_widen _ _ _ _ rfl u1 rfl Try.underlying25 (by rw [Try.underlying22]; rfl) rfl ?_; intro d5 nd5 g5) | (go_at_call 27; refine (b10Gap_c _ _ _).mono ?_; rintro e w1 ⟨g6, m8, rfl, hg6, rfl⟩))
        refine upon_widen _ _ _ _ Try.underlying25 (by rw [Try.underlying22]; rfl) ?_
        intro d6 nd6 g8
        go_wp2_with (go_at_call 27; refine (b10Gap_c _ _ _).mono ?_; rintro e w1 ⟨g9, m13, rfl, hg9, rfl⟩)
        go_meet
        exact ⟨rfl, _, rfl⟩
      · have hz1 : ford .f64 (gapC (widen (cl .f32 u1)) (cl .f64 0)) (cl .f64 0) = some .eq := by simpa [feq] using hz
        clear hs hz
        go_wp2_with (first | (refine wpList_widen _ _ _ _ rfl u1 rfl Try.underlying25 (by rw [Try.underlying22]; rfl) rfl ?_; intro d5 nd5 g5) | (go_at_call 27; refine (b10Gap_c _ _ _).mono ?_; rintro e w1 ⟨g6, m8, rfl, hg6, rfl⟩))
        go_meet
        exact ⟨rfl, _, rfl⟩
    · have tm : ¬ ((n : Int) - 128).tmod 16 = 0 := fun h => hk (by have := Int.dvd_of_tmod_eq_zero h; omega)
      go_wp2_with fail
      go_meet
      exact ⟨rfl, _, rfl⟩
  case rest =>
    obtain ⟨rfl, m12, rfl⟩ := hcut
    clear U1 V1 KN KM w2 w3 tg
    go_wp2_with (go_at_call 26; refine (b10At_c _ _ _ _ _ (SlI.keep hM (by repeat (first | with_reducible exact Gro.refl _ | with_reducible apply Gro.drewN | with_reducible apply Gro.drew | with_reducible apply Gro.alloc | with_reducible refine Gro.setCell ?_ (by dsimp only; omega) _ | refine Gro.trans ?_ (by assumption)))) zM.out 0 200 (by decide) (by decide) (by decide)).mono ?_; rintro e w1 ⟨i, hi, m13, rfl, rfl⟩; refine Hid.out ?_)
    refine Lib.hid ?_
    have hi' : i < 200 := by omega
    go_wp2_with (first | (refine wpList_farith _ .quo _ _ _ _ rfl rfl _ _ _ rfl rfl rfl ?_; intro xx nxx gx; (have hx : cl .f32 xx = xq i := gx); clear gx) | (go_at_call 26; refine (b10At_c _ _ _ _ _ (SlI.keep hM (by repeat (first | with_reducible exact Gro.refl _ | with_reducible apply Gro.drewN | with_reducible apply Gro.drew | with_reducible apply Gro.alloc | with_reducible refine Gro.setCell ?_ (by dsimp only; omega) _ | refine Gro.trans ?_ (by assumption)))) zM.out 1 200 (by decide) (by decide) (by decide)).mono ?_; rintro e w1 ⟨j, hj, m14, rfl, rfl⟩; refine Hid.out ?_))
    refine Lib.hid ?_
    have hj' : j < 200 := by omega
    have HX := Lib.hid hx
    clear hx hC hM zC zM
    go_wp2_with (refine wpList_farith _ .quo _ _ _ _ rfl rfl _ _ _ rfl rfl rfl ?_; intro yy nyy gy; (have hy : cl .f32 yy = xq j := gy); clear gy)
    have HY := Lib.hid hy
    clear hy
    refine (implTenthsOf_c xx _).mono ?_
    rw [HX.out, tenR_x hi']
    rintro e w1 ⟨m15, rfl, rfl⟩
    go_wp2_with fail
    refine (implTenthsOf_c yy _).mono ?_
    rw [HY.out, tenR_x hj']
    rintro e w1 ⟨m16, rfl, rfl⟩
    have hT := tens hi' hj'
    have hB1 := TT_bound hi'
    have hB2 := TT_bound hj'
    have hP := tenR_xp hi' hj'
    generalize tenI (Dn (8 * (1 + i))) = A at hT hB1 ⊢
    generalize tenI (Dn (8 * (1 + j))) = B at hT hB2 ⊢
    generalize tenI (Dn ((1 + i) * (1 + j))) = C at hT hP
    have HP := Lib.hid hP
    clear hP
    go_wp2_with (refine wpList_farith _ .mul _ _ _ _ rfl rfl _ xx yy rfl rfl rfl ?_; intro pp npp gp)
    have hpp : cl .f32 pp = fop .mul .f32 (xq i) (xq j) := by rw [gp, HX.out, HY.out]
    clear gp
    refine (implTenthsOf_c pp _).mono ?_
    rw [hpp, HP.out]
    rintro e w1 ⟨m17, rfl, rfl⟩
    clear hpp HP HX HY
    go_wp2_with fail
    refine (implTenthsOf_c _ _).mono ?_
    rw [tenR_one]
    rintro e w1 ⟨m18, rfl, rfl⟩
    go_wp2_with fail
    refine (implAngleOf_c 0 1065353216 _).mono ?_
    rw [east]
    rintro e w1 ⟨ea, m19, rfl, hea, rfl⟩
    have hsame : decide (cl .f32 ea = cl .f32 0) = false := by rw [hea]; decide +kernel
    have wea : WfC .f32 (cl .f32 ea) := by
      rw [hea]
      intro b hb
      injection hb with hb
      rw [← hb]; decide
    clear hea
    go_wp2_with fail
    refine (specSameNumber_c ea 0 wea (wf_cl (by decide)) _).mono ?_
    rw [hsame]
    rintro e w1 ⟨m20, rfl, rfl⟩
    clear hsame wea
    go_wp2_with fail
    go_ret
    exact ⟨rfl, below_drewN (Below.refl _ _) _⟩

end Go.Proofs.Ytabacjajikiaoaa
