/- Contracts of Go functions: what each returns, as a class of words, whatever the world. -/
import Derived.Test.YthcgbpidnaimmaaGreatDoorNumA
import Derived.Test.YthcgbpidnaimmaaGreatDoorProg
import Derived.BigQuiet
import Derived.Deep.QuietTactic
import Derived.Deep.RegionHeld3
import Derived.Deep.DeepFit
import Derived.WalkSpells
import Derived.Lib.Hide
import Derived.WalkSmall
import Derived.Deep.DeepCutAuto
namespace Go.Proofs.YthcgbpidnaimmaaGreatDoor
open Go.RowKit Go.Fl
set_option maxRecDepth 20000

-- @has FnNumbers
set_option maxHeartbeats 4000000 in
theorem walk_FnNumbers (w : World) (a : Option Addr) (len cap : Nat) (zs : List Int) (h : IsInts .u8 w a len cap zs) (a' : Option Addr) (len' cap' : Nat) (zs' : List Int) (h' : IsInts .u8 w a' len' cap' zs') (hd : w.cell? ⟨6, 15, none⟩ = some (.int .u8 4)) {t1 t2 : TypeId} {p1 p2 : Value}
    (hv1 : w.var? Tryz.prog "strconv.ErrSyntax" = some #[.iface t1 p1]) (hv2 : w.var? Tryz.prog "strconv.ErrRange" = some #[.iface t2 p2]) (hmx : ∃ m, w.cell? ⟨4, 0, none⟩ = some (.int .i64 m)) :
    Calls Tryz.prog 4 #[.slice a len cap, .slice a' len' cap'] w fun e w' => e = .returned (.bool true) ∧ Below w.heap.size w w' := by
  obtain ⟨mx, hm⟩ := hmx
  have BC := bytes_in h
  have BM := bytes_in h'
  generalize (fun j => zs.getD j 0) = Z at BC
  generalize (fun j => zs'.getD j 0) = Z' at BM
  have l1 := BC.1.1
  have l2 := BM.1.1
  have V1 := Lib.hid (var_below hv1)
  have V2 := Lib.hid (var_below hv2)
  have HD := Lib.hid hd
  have HM := Lib.hid hm
  clear h h' hv1 hv2 hd hm
  cases hlong : (decide (1048576 < len) || decide (1048576 < len'))
  case true =>
    have HL := Lib.hid hlong
    go_enter Tryz.func4, Tryz.ntmps4
    go_wp2_with (go_at_call 5; refine (b10Long_c _ _ _ _ _ _ l1 l2 _).mono ?_; rw [HL.out]; rintro e w1 ⟨n0, rfl, rfl⟩)
    all_goals
      go_ret
      exact ⟨rfl, below_drewN (Below.refl _ _) _⟩
  have HL := Lib.hid hlong
  clear hlong
  go_enter Tryz.func4, Tryz.ntmps4
  go_wp2_with (first | (go_at_call 5; refine (b10Long_c _ _ _ _ _ _ l1 l2 _).mono ?_; rw [HL.out]; rintro e w1 ⟨n0, rfl, rfl⟩; have g1 : Gro w (w.drewN n0) := Gro.drewN (Gro.refl w) _) | (go_at_call 19; (with_reducible refine (B10Number_c _ _ _ Z _ (BC.keep g1)).mono ?_); rintro e w2 ⟨x, rfl, hx, g2⟩; have g2 := Gro.trans g1 g2) | (go_at_call 19; (with_reducible refine (B10Number_c _ _ _ Z' _ (BM.keep g2)).mono ?_); rintro e w3 ⟨y, rfl, hy, g3⟩; have g3 := Gro.trans g2 g3; refine Hid.out ?_))
  refine Lib.hid ?_
  have hnx := nb_le' hx
  have FB : Hid (∀ w, Calls Tryz.prog 20 #[.int .i64 (nb x : Int)] w (RetV (.tuple #[.float .f32 (nb x), .bool true]) w)) := Lib.hid fun w => implFromBits_in (nb x : Int) (by omega) (by omega) w
  have zM := Lib.hid (fun j (_ : j < len') => BM.2 j)
  go_wp2_with (first | (go_at_call 21; (with_reducible refine (implBitsNb_c _ hx _).mono ?_); rintro e w1 ⟨n1, rfl, rfl⟩) | (go_at_call 20; (with_reducible refine (FB.out _).mono ?_); rintro e w1 ⟨n2, rfl, rfl⟩) | (go_at_call 28; (with_reducible refine (implFlushNumber_c _ hx _).mono ?_); rintro e w1 ⟨z, n3, rfl, hz, rfl⟩) | (go_at_call 16; refine (b10At_c _ _ _ Z _ (BC.1.keep (Gro.drewN g3 _)) (fun j _ => BC.2 j) 0 12 (by decide) (by decide) (by decide)).mono ?_; rintro e w1 ⟨n, hn, n4, rfl, rfl⟩; refine Hid.out ?_))
  refine Lib.hid ?_
  have hn' : n < 12 := by omega
  have g4 : Gro w (w3.drewN (n1 + n2 + n3 + n4)) := Gro.drewN g3 _
  generalize w3.drewN (n1 + n2 + n3 + n4) = w4 at g4 ⊢
  go_wp2_with (go_at_call 29; (with_reducible refine (B10Numbers_c _ _ _ Z' n (by omega) _ (BM.keep g4)).mono ?_); rintro e w5 ⟨v, L, rfl, hL, hW, hne, ho, g5⟩; have g5 := Gro.trans g4 g5; refine Hid.out ?_)
  refine Lib.hid ?_
  have hLm : (L.map fun z => Value.float .f32 z).length = n := by rw [List.length_map, hL]
  obtain ⟨gl, cl_, Y, rfl, bl, le, mx2, row, val⟩ := own_rowV (by rw [hLm]; exact ho) hne
  rw [hLm] at le ⊢
  obtain ⟨ZL, hZL⟩ : ∃ ZL : Nat → Nat, ZL = fun j => L.getD j 0 := ⟨_, rfl⟩
  have SL : SlF w5 (some ⟨gl, 0, none⟩) n ZL := row_SlAt row le mx2 (fun j hj => val j _ (by rw [List.getElem?_map, List.getElem?_eq_getElem (by omega), hZL]; simp [List.getD, List.getElem?_eq_getElem (show j < L.length by omega)]))
  have WL := Lib.hid (show ∀ j, WfC .f32 (cl .f32 (ZL j)) from fun j => by
    rw [hZL]
    show WfC .f32 (cl .f32 (L.getD j 0))
    rcases Nat.lt_or_ge j L.length with h1 | h1
    · rw [show L.getD j 0 = L[j] by simp [List.getD, List.getElem?_eq_getElem h1]]
      exact hW _ (List.getElem_mem h1)
    · rw [show L.getD j 0 = 0 by simp [List.getD, List.getElem?_eq_none h1]]
      exact wf_cl (by decide))
  clear hLm row val ho hne hZL hW hL bl
  go_wp2
  go_loopw [11, 41] (fun sv i wr => ∃ (k q s : Nat), k ≤ n ∧ i = .int .i64 (k : Int) ∧ sv = .float .f32 s ∧ cl .f32 s = sumF (fun j => cl .f32 (ZL j)) k ∧ WfC .f32 (cl .f32 s) ∧ wr = w5.drewN q) (fun _ i _ => n - (intOf i).toNat)
  case atStart => exact ⟨0, 0, 0, Nat.zero_le _, rfl, rfl, rfl, wf_cl (by decide), rfl⟩
  case round =>
    obtain ⟨k, q, s, hk, rfl, rfl, hs, hsw, rfl⟩ := hrel
    by_cases hlt : k < n
    · obtain ⟨b1, o1, hbo, hc1⟩ := SL.2 (by omega)
      injection hbo with hbo
      injection hbo with hb1 hb2 _
      subst hb1
      subst hb2
      have c0 : w5.cell? ⟨gl, k, none⟩ = some (.float .f32 (ZL k)) := by have := hc1 k hlt; rw [Nat.zero_add] at this; exact this
      have HS := Lib.hid hs
      clear hc1 hs
      go_wp2_with (refine wpList_farith _ _ _ _ _ _ rfl rfl _ _ _ rfl rfl rfl ?_; intro b1 n1 h1)
      go_roundw
      case rel => exact ⟨k + 1, _, _, by omega, by go_num, rfl, by rw [h1, HS.out]; rfl, by rw [h1]; exact wf_fop _ _ _ _, rfl⟩
      case measure => simp [intOf]; omega
    · obtain rfl : k = n := by omega
      have HS := Lib.hid hs
      have g6 : Gro w (w5.drewN q) := Gro.drewN g5 _
      have S6 : SlF (w5.drewN q) (some ⟨gl, 0, none⟩) k ZL := SL.keep (Gro.drewN (Gro.refl w5) _)
      generalize w5.drewN q = w6 at g6 S6 ⊢
      clear hs SL g5 g4
      obtain ⟨r1, r2, r3⟩ := read_text ZL WL.out (show k ≤ 256 by omega)
      have r4 : (textG (hexZ ZL) k).size ≤ 1048576 := Nat.le_trans (textG_size (hexZ ZL) 8 k (fun j => Nat.le_of_eq (hexW_len 8 _))) (by omega)
      have TX : Hid (∀ w', Gro w w' → SlF w' (some ⟨gl, 0, none⟩) k ZL → Calls Tryz.prog 31 #[.slice (some ⟨gl, 0, none⟩) k cl_] w' fun e w'' => e = .returned (.tuple #[.string (textG (hexZ ZL) k), .bool true]) ∧ Gro w' w'') := Lib.hid fun w' hg hs => implTextSmall_c _ _ _ ZL (by omega) w' hs WL.out (Gro.cell hg HD.out)
      generalize textG (hexZ ZL) k = X at r1 r2 r3 r4 TX
      go_wp2_with (first | (go_at_call 30; (with_reducible refine (implSumSmall_c _ _ _ ZL (by omega) _ S6).mono ?_); rintro e w1 ⟨gt, m1, rfl, hgt, rfl⟩) | (go_at_call 31; (with_reducible refine (TX.out _ (Gro.drewN g6 _) (S6.keep (Gro.drewN (Gro.refl w6) _))).mono ?_); rintro e w7 ⟨rfl, g7⟩; have S7 := S6.keep (Gro.trans (Gro.drewN (Gro.refl w6) _) g7); have g7 := Gro.trans (Gro.drewN g6 _) g7; refine Hid.out ?_))
      refine Lib.hid ?_
      clear S6 g6 TX
      go_wp2_with (go_at_call 32; (with_reducible refine (implReadNumbers_c X w7 r4 (V1.out _ g7) (V2.out _ g7) (Gro.cell (a := w) g7 HD.out) (Gro.cell (a := w) g7 HM.out)).mono ?_); rw [r1]; rintro e w8 ⟨v8, rfl, g8, hR⟩; have HR := Lib.hid hR; clear hR; refine Hid.out ?_)
      obtain ⟨-, n8, o8⟩ := HR.out.resolve_right (fun x => absurd x.1 (by rw [r1]; decide))
      obtain ⟨g9, cap9, Y9, rfl, b9, le9, mx9, row9, val9⟩ := own_rowV o8 n8
      have S9 : SlF w8 (some ⟨g9, 0, none⟩) k (fun j => nb (ZL j)) := row_SlAt row9 (by omega) mx9 (fun j hj => by show Y9 j = .float .f32 (nb (ZL j)); rw [← r3 j hj]; exact val9 j _ (gV_zH X j (by omega)))
      have S8 : SlF w8 (some ⟨gl, 0, none⟩) k ZL := S7.keep g8
      rw [r2] at le9 ⊢
      have g8 := Gro.trans g7 g8
      clear n8 o8 val9 row9 HR S7 r1 r2 r3 r4 V1 V2 HD HM b9 g7
      have hnb : decide (cl .f32 (nb x) = cl .f32 x) = true := by rw [cl_nb]; simp
      have hsb : subC (cl .f32 z) = false := by rw [hz]; exact flush_sub _ (fun _ h => cl_idem h)
      have hsm : decide (cl .f32 x = cl .f32 z) = !subC (cl .f32 x) := by rw [hz]; exact flush_same _ hx
      have hgs : decide (cl .f32 gt = cl .f32 s) = true := by rw [hgt, HS.out]; simp
      have wz : WfC .f32 (cl .f32 z) := by rw [hz]; exact flush_wf hx
      have wg : WfC .f32 (cl .f32 gt) := by rw [hgt, ← HS.out]; exact hsw
      have wn : WfC .f32 (cl .f32 (nb x)) := by rw [cl_nb]; exact hx
      have hcx : subC (cl .f32 x) = true ∨ subC (cl .f32 x) = false := by cases subC (cl .f32 x) <;> simp
      clear hz hgt HS FB
      rcases hcx with hcx | hcx
      all_goals
        rw [hcx] at hsm
        refine Lib.hid ?_
        go_wp2_with (first | (go_at_call 10; (with_reducible refine (specSameNumber_c _ _ wn hx _).mono ?_); rw [hnb]; rintro e w1 ⟨m2, rfl, rfl⟩) | (go_at_call 33; (with_reducible refine (implIsSubnormal_c z _).mono ?_); rw [hsb]; rintro e w1 ⟨m3, rfl, rfl⟩) | (go_at_call 33; (with_reducible refine (implIsSubnormal_c x _).mono ?_); rw [hcx]; rintro e w1 ⟨m4, rfl, rfl⟩) | (go_at_call 10; (with_reducible refine (specSameNumber_c _ _ hx wz _).mono ?_); rw [hsm]; rintro e w1 ⟨m5, rfl, rfl⟩) | (go_at_call 10; (with_reducible refine (specSameNumber_c _ _ wg hsw _).mono ?_); rw [hgs]; rintro e w1 ⟨m6, rfl, rfl⟩))
        have H9 : Gro w (w8.drewN (m2 + m3 + m4 + m5 + m6)) := Gro.drewN g8 _
        have T9 := S9.keep (Gro.drewN (Gro.refl w8) (m2 + m3 + m4 + m5 + m6))
        have T8 := S8.keep (Gro.drewN (Gro.refl w8) (m2 + m3 + m4 + m5 + m6))
        generalize w8.drewN (m2 + m3 + m4 + m5 + m6) = w9 at H9 T9 T8 ⊢
        clear S9 S8 g8
        go_loopw [113] (fun i wr => ∃ (j q : Nat), j ≤ k ∧ i = .int .i64 (j : Int) ∧ wr = w9.drewN q) (fun i _ => k - (intOf i).toNat)
        case atStart => exact ⟨0, 0, Nat.zero_le _, rfl, rfl⟩
        case round =>
          obtain ⟨j, q, hj, rfl, rfl⟩ := hrel
          by_cases hlt : j < k
          · obtain ⟨b1, o1, hbo, hc1⟩ := T9.2 (by omega)
            injection hbo with hbo
            injection hbo with hb1 hb2 _
            subst hb1
            subst hb2
            obtain ⟨b1, o1, hbo, hc2⟩ := T8.2 (by omega)
            injection hbo with hbo
            injection hbo with hb1 hb2 _
            subst hb1
            subst hb2
            have c9 : w9.cell? ⟨g9, j, none⟩ = some (.float .f32 (nb (ZL j))) := by have := hc1 j hlt; rw [Nat.zero_add] at this; exact this
            have c8 : w9.cell? ⟨gl, j, none⟩ = some (.float .f32 (ZL j)) := by have := hc2 j hlt; rw [Nat.zero_add] at this; exact this
            have wj : WfC .f32 (cl .f32 (nb (ZL j))) := by rw [cl_nb]; exact WL.out j
            have hnj : decide (cl .f32 (nb (ZL j)) = cl .f32 (ZL j)) = true := by rw [cl_nb]; simp
            clear hc1 hc2
            go_upto_region 22 with fail
            go_cut [125] (fun s125 wx => s125 = .bool false ∧ ∃ n, wx = w9.drewN n)
            case first =>
              go_region_held3 (fun w' => w'.cell? ⟨g9, j, none⟩ = some (.float .f32 (nb (ZL j))) ∧ w'.cell? ⟨gl, j, none⟩ = some (.float .f32 (ZL j))) (first | (simp [*]; done)) (first | (go_at_call 10; refine (specSameNumber_c _ _ wj (WL.out j) _).mono ?_; rw [hnj]; rintro e w1 ⟨m7, rfl, rfl⟩))
              all_goals
                go_wp2_with fail
                go_meet
                exact ⟨rfl, _, rfl⟩
            case rest =>
              obtain ⟨rfl, q2, rfl⟩ := hcut
              go_wp2
              go_roundw
              case rel => exact ⟨j + 1, _, by omega, by go_num, rfl⟩
              case measure => simp [intOf]; omega
          · obtain rfl : j = k := by omega
            obtain ⟨hn1, hn2⟩ := narrow_widen_cl hx
            go_wp2_with (go_at_call 34; (with_reducible refine (implAngleTurns_c y x _).mono ?_); rintro e w1 ⟨a1, p1, rfl, ha1, rfl⟩)
            refine (implAngleOf_c x y _).mono ?_
            rintro e w1 ⟨a2, p2, rfl, ha2, rfl⟩
            have wa1 : WfC .f32 (cl .f32 a1) := by rw [ha1]; exact wf_angR _ _
            have wa2 : WfC .f32 (cl .f32 a2) := by rw [ha2]; exact wf_angR _ _
            have haa : decide (cl .f32 a1 = cl .f32 a2) = true := by rw [ha1, ha2]; simp
            go_wp2_with (first | (go_at_call 10; (with_reducible refine (specSameNumber_c _ _ wa1 wa2 _).mono ?_); rw [haa]; rintro e w1 ⟨p3, rfl, rfl⟩) | (refine wpList_widen _ _ _ _ rfl _ rfl Tryz.underlying46 (by rw [Tryz.underlying28]; rfl) rfl ?_; intro b1 n1 h1))
            refine (implNarrowNumber_c b1 (by rw [h1]; exact hn1) _).mono ?_
            rintro e w1 ⟨b2, p4, rfl, hb2, rfl⟩
            rw [h1, hn2] at hb2
            have wb2 : WfC .f32 (cl .f32 b2) := by rw [hb2]; exact hx
            have hbb : decide (cl .f32 b2 = cl .f32 x) = true := by rw [hb2]; simp
            go_wp2_with (go_at_call 10; (with_reducible refine (specSameNumber_c _ _ wb2 hx _).mono ?_); rw [hbb]; rintro e w1 ⟨p5, rfl, rfl⟩)
            refine (implSineTurns_c _ _).mono ?_
            rw [quarter]
            rintro e w1 ⟨b3, p6, rfl, hb3, rfl⟩
            go_wp2
            go_ret
            exact ⟨by simp; decide +kernel, below_drewN H9 _⟩

end Go.Proofs.YthcgbpidnaimmaaGreatDoor
