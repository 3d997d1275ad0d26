/- Contracts of Go functions: what each returns, as a class of words, whatever the world. -/
import Derived.Test.YtaakellldlamaaaDoorCpx
import Derived.Test.YtaakellldlamaaaDoorShs
import Derived.Test.YtaakellldlamaaaDoorProg
import Derived.BigQuiet
import Derived.Deep.QuietTactic
import Derived.Deep.RegionHeld3
import Derived.Deep.DeepFit
import Derived.WalkSpells
import Derived.Lib.Hide
import Derived.WalkSmall
import Derived.Deep.DeepCutAuto
namespace Go.Proofs.YtaakellldlamaaaDoor
open Go.RowKit Go.Fl

-- @has l01Cut
theorem info_str2 : (Tryd.prog.info? 9).map (fun i => (i.zero, i.size, i.bytes)) = some (some (.string ByteArray.empty), 1, 16) := by kernel_rfl
set_option maxRecDepth 100000 in
set_option maxHeartbeats 2000000 in
theorem l01Cut_c (s : ByteArray) (w : World) (hs : s.size ≤ 1048576) :
    Calls Tryd.prog 39 #[.string s, .int .u8 44] w fun e w' => ∃ g cap, e = .returned (.slice (some ⟨g, 0, none⟩) (pieces s).length cap) ∧ (∀ (j : Nat) x, (pieces s)[j]? = some x → w'.cell? ⟨g, j, none⟩ = some (.string x)) ∧ (∃ cur, w'.heap[g]? = some (.cells cur 9 (0, 0))) ∧ Gro w w' := by
  obtain ⟨i0, hi, hz0, hz1, hz2⟩ := info_parts info_str2
  go_enter Tryd.func39, Tryd.ntmps39
  go_wp2
  go_loopw [5, 6, 7] (fun v fr i wr => (∃ (f k : Nat) (done : List ByteArray), fr = .int .i64 (f : Int) ∧ i = .int .i64 (k : Int) ∧ CutInv s done f k ∧ done.length ≤ k ∧ wr.ownsRow w.heap.size 9 1 v done.length (done.map Value.string) ∧ v ≠ .slice none 0 0 ∧ Gro w wr) ∨ (∃ (f : Nat), fr = .int .i64 (f : Int) ∧ i = .int .i64 (s.size + 1 : Nat) ∧ wr.ownsRow w.heap.size 9 1 v (pieces s).length ((pieces s).map Value.string) ∧ v ≠ .slice none 0 0 ∧ Gro w wr)) (fun _ _ i _ => s.size + 1 - (intOf i).toNat)
  case atStart => exact .inl ⟨0, 0, [], rfl, rfl, CutInv.start s, Nat.le_refl _, ownsRow_empty (Nat.le_refl _), by simp, (Gro.refl _).alloc _⟩
  case round =>
    rcases hrel with ⟨f, k, done, rfl, rfl, hinv, hdl, hown, hne, hg⟩ | ⟨f, rfl, rfl, hown, hne, hg⟩
    · have hfk := hinv.1
      have hks := hinv.2.1
      have hsz := hg.size
      have HI := Lib.hid hinv
      clear hinv
      by_cases hend : k = s.size
      · subst hend
        have HL := Lib.hid (CutInv.last HI.out)
        go_wp2_with (at_builtin; refine wpList_append_own _ rfl _ _ 44 rfl w.heap.size 9 i0 (.string ByteArray.empty) 1 16 Tryd.underlying44 hi hz0 hz1 hz2 rfl (by decide) _ _ _ rfl (hown.alloc _) ⟨wr.heap.size, 0, none⟩ 1 1 [.string (s.extract f s.size)] rfl rfl (cell_new1 _ _ _) (fun x hx => by simp at hx; subst hx; rfl) (by unfold maxLen; omega) (by omega) (by simp; omega) ?_)
        intro v' w' hown' hgrow hnn
        have hne' : v' ≠ .slice none 0 0 := fun e => by simp [e] at hnn
        have hg' : Gro w w' := RowKit.Below.grown (Gro.alloc hg _) hgrow (by simp; omega) (fun j hj => (World.ownsRow.lt hown j hj).1)
        have e1 : done.map Value.string ++ [.string (s.extract f s.size)] = (done ++ [s.extract f s.size]).map Value.string := by rw [List.map_append]; rfl
        have e2 : done.length + 1 = (done ++ [s.extract f s.size]).length := by simp
        rw [e1, e2] at hown'
        rw [HL.out] at hown'
        have HO := Lib.hid hown'
        have HN := Lib.hid hne'
        have HG := Lib.hid hg'
        clear hown' hgrow hnn hne' hg' e1 e2 hown hne
        go_wp2
        go_roundw
        case rel => exact .inr ⟨s.size + 1, by go_num, by go_num, HO.out, HN.out, HG.out⟩
        case measure => simp [intOf]
      · have hlt : k < s.size := by omega
        have hend' : ((k : Int) == s.size) = false := beq_eq_false_iff_ne.2 (by omega)
        by_cases hc : (s[k].toNat : Int) = 44
        · have HL := Lib.hid (CutInv.cut HI.out hlt (UInt8.toNat_inj.1 (by show s[k].toNat = 44; omega)))
          have hc' : ((s[k].toNat : Int) == 44) = true := by simpa using hc
          go_wp2_with (at_builtin; refine wpList_append_own _ rfl _ _ 44 rfl w.heap.size 9 i0 (.string ByteArray.empty) 1 16 Tryd.underlying44 hi hz0 hz1 hz2 rfl (by decide) _ _ _ rfl (hown.alloc _) ⟨wr.heap.size, 0, none⟩ 1 1 [.string (s.extract f k)] rfl rfl (cell_new1 _ _ _) (fun x hx => by simp at hx; subst hx; rfl) (by unfold maxLen; omega) (by omega) (by simp; omega) ?_)
          intro v' w' hown' hgrow hnn
          have hne' : v' ≠ .slice none 0 0 := fun e => by simp [e] at hnn
          have hg' : Gro w w' := RowKit.Below.grown (Gro.alloc hg _) hgrow (by simp; omega) (fun j hj => (World.ownsRow.lt hown j hj).1)
          have e1 : done.map Value.string ++ [.string (s.extract f k)] = (done ++ [s.extract f k]).map Value.string := by rw [List.map_append]; rfl
          have e2 : done.length + 1 = (done ++ [s.extract f k]).length := by simp
          rw [e1, e2] at hown'
          have HO := Lib.hid hown'
          have HN := Lib.hid hne'
          have HG := Lib.hid hg'
          clear hown' hgrow hnn hne' hg' e1 e2 hown hne
          go_wp2
          go_roundw
          case rel => exact .inl ⟨k + 1, k + 1, _, by go_num, by go_num, HL.out, by simp; omega, HO.out, HN.out, HG.out⟩
          case measure => simp [intOf]; omega
        · have hc' : ((s[k].toNat : Int) == 44) = false := by simpa using hc
          have HL := Lib.hid (CutInv.skip HI.out hlt (fun e => hc (by rw [e]; rfl)))
          have HO := Lib.hid hown
          have HN := Lib.hid hne
          clear hown hne
          go_wp2
          go_roundw
          case rel => exact .inl ⟨f, k + 1, done, rfl, by go_num, HL.out, by omega, HO.out, HN.out, hg⟩
          case measure => simp [intOf]; omega
    · rcases hown.2 with ⟨e, -⟩ | ⟨g, cap, cur, rfl, hbg, hcur, hkc, -⟩
      · exact absurd e hne
      have hcells : ∀ (j : Nat) x, (pieces s)[j]? = some x → wr.cell? ⟨g, j, none⟩ = some (.string x) := fun j x hj => by
        have := hown.cells (g := g) rfl j (.string x) (by rw [List.getElem?_map, hj]; rfl)
        rw [Go.WideShapes.add_plain, Nat.zero_add] at this
        exact this
      have HC := Lib.hid hcells
      have HU := Lib.hid hcur
      clear hcells hown hne hcur
      go_wp2
      go_ret
      exact ⟨g, cap, rfl, HC.out, ⟨_, HU.out⟩, hg⟩

-- @has Float32frombits
theorem f32from_run (n : Int) (w : World) : (callFunc 44 #[.int .u32 n]).run Tryd.prog w = .ok (.value (.float .f32 n.toNat)) w := by
  rw [run_callFunc_extern Tryd.func44 (e := Extern.MathFloatBits.float32frombits) (by kernel_rfl) (by kernel_rfl) (by kernel_rfl) (by kernel_rfl)]; rfl

-- @has l01From
theorem l01From_c (n : Int) (h1 : 0 ≤ n) (h2 : n ≤ 4294967295) (w : World) : Calls Tryd.prog 40 #[.int .i64 n] w (RetV (.float .f32 n.toNat) w) := by
  have hx := f32from_run
  go_enter Tryd.func40, Tryd.ntmps40
  go_wp2
  go_ret
  exact ⟨0, rfl, rfl⟩

-- @has Float32bits
theorem f32bits_run (x : Nat) (w : World) : (callFunc 47 #[.float .f32 x]).run Tryd.prog w = .ok (.value (.int .u32 x)) w := by
  rw [run_callFunc_extern Tryd.func47 (e := Extern.MathFloatBits.float32bits) (by kernel_rfl) (by kernel_rfl) (by kernel_rfl) (by kernel_rfl)]; rfl

-- @has l01Bits
theorem l01Bits_c (b : Nat) (hb : WfC .f32 (cl .f32 b)) (w : World) :
    Calls Tryd.prog 41 #[.float .f32 b] w (RetV (.int .i64 (bitsC (cl .f32 b))) w) := by
  have hx := f32bits_run
  rcases h : cl .f32 b with _ | c
  · go_enter Tryd.func41, Tryd.ntmps41
    go_wp2
    go_ret
    exact ⟨0, rfl, rfl⟩
  · have hs := ford_self h
    obtain ⟨rfl, -⟩ := cl_some h
    have hb' : b < 2 ^ 32 := hb _ h
    clear hb
    go_enter Tryd.func41, Tryd.ntmps41
    go_wp2
    go_ret
    exact ⟨0, rfl, rfl⟩

-- @has l01Digits
set_option maxRecDepth 100000 in
set_option maxHeartbeats 4000000 in
theorem l01Digits_c (p : ByteArray) (w : World) (h8 : p.size = 8) :
    Calls Tryd.prog 45 #[.string p] w fun e w' => ∃ u, e = .returned (.tuple #[.float .f32 u, .bool (okH p)]) ∧ (okH p = true → u = valH p) ∧ ∃ n, w' = w.drewN n := by
  go_enter Tryd.func45, Tryd.ntmps45
  go_wp2
  go_loopw [4, 5] (fun nv kv wx => ∃ (q acc : Nat), q ≤ 8 ∧ nv = .int .i64 (acc : Int) ∧ kv = .int .i64 (q : Int) ∧ Hid (hexT8 p q acc) ∧ acc < 16 ^ q ∧ ∃ nd, wx = w.drewN nd) (fun _ kv _ => 8 - (intOf kv).toNat)
  case atStart => exact ⟨0, 0, by omega, rfl, rfl, Lib.hid rfl, by decide, 0, rfl⟩
  case round =>
    obtain ⟨q, acc, hq, rfl, rfl, HQ, hacc, nd, rfl⟩ := hrel
    have h16 : (16 : Nat) ^ q ≤ 16 ^ 8 := Nat.pow_le_pow_right (by decide) hq
    have e16 : (16 : Nat) ^ 8 = 4294967296 := by decide
    have hacc32 : acc < 4294967296 := by omega
    clear h16 e16
    by_cases hq8 : q < 8
    · have hqp : q < p.size := by omega
      have hc256 := byte_lt2 p[q]
      by_cases hdig : 48 ≤ p[q].toNat ∧ p[q].toNat ≤ 57
      · have HS := Lib.hid (hexT8.step HQ.out hqp (hexD_dig hdig))
        have hb : 16 * acc + (p[q].toNat - 48) < 16 ^ (q + 1) := by rw [Nat.pow_succ]; omega
        have HB := Lib.hid hb
        obtain ⟨d1, d2⟩ := hdig
        have d1' : (48 : Int) ≤ p[q].toNat := by omega
        have d2' : (p[q].toNat : Int) ≤ 57 := by omega
        have d3' : ¬ (97 : Int) ≤ p[q].toNat := by omega
        clear hb hacc
        go_wp2
        go_roundw
        case rel => exact ⟨q + 1, 16 * acc + (p[q].toNat - 48), by omega, by go_num, by go_num, HS, HB.out, _, rfl⟩
        case measure => simp [intOf]; omega
      · by_cases hlow : 97 ≤ p[q].toNat ∧ p[q].toNat ≤ 102
        · have HS := Lib.hid (hexT8.step HQ.out hqp (hexD_low hlow))
          have hb : 16 * acc + (p[q].toNat - 87) < 16 ^ (q + 1) := by rw [Nat.pow_succ]; omega
          have HB := Lib.hid hb
          obtain ⟨d1, d2⟩ := hlow
          have d1' : (97 : Int) ≤ p[q].toNat := by omega
          have d2' : (p[q].toNat : Int) ≤ 102 := by omega
          have d3' : ¬ (p[q].toNat : Int) ≤ 57 := by omega
          clear hb hacc hdig
          go_wp2
          go_roundw
          case rel => exact ⟨q + 1, 16 * acc + (p[q].toNat - 87), by omega, by go_num, by go_num, HS, HB.out, _, rfl⟩
          case measure => simp [intOf]; omega
        · have HO := Lib.hid (hexT8.bad HQ.out hqp (hexD_not hdig hlow))
          have d1 : ((p[q].toNat : Int) < 48 ∨ 57 < (p[q].toNat : Int) ∧ (p[q].toNat : Int) < 97) ∨ 102 < (p[q].toNat : Int) := by omega
          clear hdig hlow hacc
          rcases d1 with (d1 | ⟨d1, d2⟩) | d1
          all_goals
            go_wp2
            all_goals
              go_ret2
              exact ⟨0, by rw [HO.out]; rfl, fun h => (by rw [HO.out] at h; cases h), _, rfl⟩
    · obtain rfl : q = 8 := by omega
      have HF := okH_full (hexT8.full (p := p) (acc := acc) (by rw [h8]; exact HQ.out) h8)
      have hbits := l01Bits_c acc (wf_cl (show acc < 2 ^ 32 by omega))
      rw [nb_int] at hbits
      have hfrom : ∀ w, Calls Tryd.prog 40 #[.int .i64 (acc : Int)] w (RetV (.float .f32 acc) w) := fun w => l01From_c (acc : Int) (by omega) (by omega) w
      obtain ⟨HF1, HF2⟩ := HF
      by_cases hnb : nb acc = acc
      · rw [hnb] at hbits HF1
        have HOK : Hid (okH p = true) := Lib.hid (HF1.trans (by simp))
        have HV := Lib.hid HF2
        clear hacc HF1 HF2 hnb
        go_wp2_with (first | (go_at_call 40; refine (hfrom _).mono ?_; rintro e w2 ⟨n1, rfl, rfl⟩) | (go_at_call 41; refine (hbits _).mono ?_; rintro e w2 ⟨n2, rfl, rfl⟩))
        all_goals
          go_ret2
          exact ⟨acc, by rw [HOK.out]; rfl, fun _ => HV.out.symm, _, rfl⟩
      · have hn1 : ((nb acc : Int) == (acc : Int)) = false := beq_eq_false_iff_ne.2 (by omega)
        have HO : Hid (okH p = false) := Lib.hid (HF1.trans (beq_eq_false_iff_ne.2 hnb))
        clear hacc HF1 HF2 hnb
        go_wp2_with (first | (go_at_call 40; refine (hfrom _).mono ?_; rintro e w2 ⟨n1, rfl, rfl⟩) | (go_at_call 41; refine (hbits _).mono ?_; rintro e w2 ⟨n2, rfl, rfl⟩))
        all_goals
          go_ret2
          exact ⟨0, by rw [HO.out]; rfl, fun h => (by rw [HO.out] at h; cases h), _, rfl⟩

-- @has l01CRead
theorem info_c64r : (Tryd.prog.info? 53).map (fun i => (i.zero, i.size, i.bytes)) = some (some (.complex .f32 0 0), 1, 8) := by kernel_rfl
theorem ext_size {p : ByteArray} (h : p.size = 16) : (p.extract 0 8).size = 8 ∧ (p.extract 8 p.size).size = 8 := by
  constructor
  · rw [ByteArray.size_extract]; omega
  · rw [ByteArray.size_extract]; omega
set_option maxRecDepth 100000 in
set_option maxHeartbeats 4000000 in
theorem l01CRead_c (s : ByteArray) (w : World) (hs : s.size ≤ 1048576) :
    Calls Tryd.prog 32 #[.string s] w fun e w' => ∃ v, e = .returned (.tuple #[v, .bool (gOk okC s)]) ∧ Gro w w' ∧ RG 53 okC cH s w w' v := by
  obtain ⟨i0, hi, hz0, hz1, hz2⟩ := info_parts info_c64r
  cases hn : isNone s
  case true =>
    have hse : (s.toList == [110, 111, 110, 101]) = true := by rw [Lib.toList_data]; exact hn
    have HO := Lib.hid (gOk_none (ok := okC) hn)
    have HV := Lib.hid (gV_none (f := cH) hn)
    clear hn
    go_enter Tryd.func32, Tryd.ntmps32
    go_wp2
    go_ret2
    exact ⟨.slice (some ⟨w.heap.size, 0, none⟩) 0 0, by rw [HO.out]; rfl, (Gro.refl _).alloc _, .inl ⟨HO.out, by simp, by rw [HV.out]; exact ownsRow_empty (Nat.le_refl _)⟩⟩
  have hse : (s.toList == [110, 111, 110, 101]) = false := by rw [Lib.toList_data]; exact hn
  have HN := Lib.hid hn
  have hps := Lib.hid (pieces_size s)
  clear hn
  by_cases h64 : 256 < (pieces s).length
  · have h64' : (256 : Int) < (pieces s).length := by omega
    have HO := Lib.hid (gOk_long (ok := okC) HN.out h64)
    go_enter Tryd.func32, Tryd.ntmps32
    go_wp2_with (go_at_call 39; refine (l01Cut_c _ _ hs).mono ?_; rintro e w1 ⟨g, cap, rfl, hc, ⟨cur, hcur⟩, hg⟩)
    all_goals
      go_ret2
      exact ⟨.slice none 0 0, by rw [HO.out]; rfl, Gro.trans ((Gro.refl _).alloc _) hg, .inr ⟨HO.out, rfl⟩⟩
  have h64' : ¬ (256 : Int) < (pieces s).length := by omega
  go_enter Tryd.func32, Tryd.ntmps32
  go_wp2_with (go_at_call 39; refine (l01Cut_c _ _ hs).mono ?_; rintro e w1 ⟨g, cap, rfl, hc, ⟨cur, hcur⟩, hg⟩)
  have HC := Lib.hid hc
  clear hc
  have hgw : Gro w w1 := Gro.trans ((Gro.refl _).alloc _) hg
  go_loopw [4, 6] (fun v i wr => ∃ k : Nat, k ≤ (pieces s).length ∧ i = .int .i64 (k : Int) ∧ (∀ (j : Nat) p, j < k → (pieces s)[j]? = some p → okC p = true) ∧ wr.ownsRow w.heap.size 53 1 v k (gC cH (pieces s) k) ∧ v ≠ .slice none 0 0 ∧ Gro w wr ∧ wr.heap[g]? = some (.cells cur 9 (0, 0))) (fun _ i _ => (pieces s).length - (intOf i).toNat)
  case atStart => exact ⟨0, Nat.zero_le _, rfl, fun j p h => absurd h (Nat.not_lt_zero _), own_gro (ownsRow_empty (Nat.le_refl _)) hg, by simp, hgw, hcur⟩
  case round =>
    obtain ⟨k, hk, rfl, hall, hown, hne, hgr, hgc⟩ := hrel
    have HA := Lib.hid hall
    clear hall
    by_cases hlt : k < (pieces s).length
    · obtain ⟨p, hp⟩ : ∃ p, (pieces s)[k]? = some p := ⟨_, List.getElem?_eq_getElem hlt⟩
      have c0 : wr.cell? ⟨g, k, none⟩ = some (.string p) := (cell_block (hgc.trans hcur.symm)).trans (HC.out k p hp)
      have HP := Lib.hid hp
      have hpz : p.size ≤ 1048576 := Nat.le_trans (hps.out p (List.mem_of_getElem? hp)) hs
      have hsz := hgr.size
      clear hp
      by_cases h8 : p.size = 16
      case neg =>
        have h8' : ((p.size : Int) == 16) = false := beq_eq_false_iff_ne.2 (by omega)
        have HO := Lib.hid (gOk_bad (ok := okC) HN.out HP.out (okC_size h8))
        clear hown hne
        go_wp2
        all_goals
          go_ret2
          exact ⟨.slice none 0 0, by rw [HO.out]; rfl, hgr, .inr ⟨HO.out, rfl⟩⟩
      have h8' : ((p.size : Int) == 16) = true := by rw [h8]; rfl
      have hpc := Lib.hid (okC_eq h8)
      have hcv := Lib.hid (show cH p = .complex .f32 (valH (p.extract 0 8)) (valH (p.extract 8 p.size)) from rfl)
      have hz2 := ext_size h8
      obtain ⟨A, hA⟩ : ∃ A, p.extract 0 8 = A := ⟨_, rfl⟩
      obtain ⟨B, hB⟩ : ∃ B, p.extract 8 p.size = B := ⟨_, rfl⟩
      rw [hA, hB] at hpc hcv hz2
      have hB2 : p.extract 8 16 = B := by rw [← h8]; exact hB
      have D1 := Lib.hid (fun w => l01Digits_c A w hz2.1)
      have D2 := Lib.hid (fun w => l01Digits_c B w hz2.2)
      clear hz2
      go_wp2_with (first | (go_at_call 45; with_reducible refine (D1.out _).mono ?_; rintro e w2 ⟨u1, rfl, hu1, n1, rfl⟩; have HU1 := Lib.hid hu1; clear hu1) | (go_at_call 45; with_reducible refine (D2.out _).mono ?_; rintro e w3 ⟨u2, rfl, hu2, n2, rfl⟩; have HU2 := Lib.hid hu2; clear hu2; refine Hid.out ?_))
      have hgd : Gro w (wr.drewN (n1 + n2)) := Gro.drewN hgr _
      cases hoA : okH A
      case false =>
        have hbad : okC p = false := by rw [hpc.out, hoA]; rfl
        have HO := Lib.hid (gOk_bad (ok := okC) HN.out HP.out hbad)
        clear hown hne hoA hbad HU1 HU2
        cases okH B
        all_goals
          refine Lib.hid ?_
          go_wp2
          all_goals
            go_ret2
            exact ⟨.slice none 0 0, by rw [HO.out]; rfl, hgd, .inr ⟨HO.out, rfl⟩⟩
      cases hoB : okH B
      case false =>
        have hbad : okC p = false := by rw [hpc.out, hoA, hoB]; rfl
        have HO := Lib.hid (gOk_bad (ok := okC) HN.out HP.out hbad)
        clear hown hne hoA hoB hbad HU1 HU2
        refine Lib.hid ?_
        go_wp2
        all_goals
          go_ret2
          exact ⟨.slice none 0 0, by rw [HO.out]; rfl, hgd, .inr ⟨HO.out, rfl⟩⟩
      have hok : okC p = true := by rw [hpc.out, hoA, hoB]; rfl
      obtain rfl := HU1.out hoA
      obtain rfl := HU2.out hoB
      have HK := Lib.hid hok
      clear hok hoA hoB HU1 HU2 D1 D2 hA hB hB2
      generalize hW : wr.drewN (n1 + n2) = W3 at hgd
      have hown3 : W3.ownsRow w.heap.size 53 1 u4 k (gC cH (pieces s) k) := by rw [← hW]; exact own_gro hown (Gro.drewN (Gro.refl wr) _)
      have hgc3 : W3.heap[g]? = some (.cells cur 9 (0, 0)) := by rw [← hW]; exact hgc
      have hsz3 : w.heap.size ≤ W3.heap.size := hgd.size
      clear hW hown hgc c0
      refine Lib.hid ?_
      go_wp2_with (at_builtin; refine wpList_append_own _ rfl _ _ 38 rfl w.heap.size 53 i0 (.complex .f32 0 0) 1 8 Tryd.underlying38 hi hz0 hz1 hz2 rfl (by decide) _ _ _ rfl (hown3.alloc _) ⟨W3.heap.size, 0, none⟩ 1 1 [.complex .f32 (valH A) (valH B)] rfl rfl (cell_new1 _ _ _) (fun x hx => by simp at hx; subst hx; rfl) (by unfold maxLen; omega) (by omega) (by simp; omega) ?_)
      intro v' w' hown' hgrow hnn
      have hne' : v' ≠ .slice none 0 0 := fun e => by simp [e] at hnn
      have hg' : Gro w w' := RowKit.Below.grown (Gro.alloc hgd _) hgrow (by simp; omega) (fun j hj => (World.ownsRow.lt hown3 j hj).1)
      rw [← hcv.out, gC_snoc HP.out] at hown'
      have HB := Lib.hid (block_append (w2 := W3) hgc3 hown3 hgc3 (by decide) hgrow)
      have HW := Lib.hid hown'
      have HE := Lib.hid hne'
      have HG := Lib.hid hg'
      clear hown' hgrow hnn hne' hg' hown3 hne
      go_wp2
      go_roundw
      case rel =>
        refine ⟨k + 1, by omega, by go_num, fun j q hj hq => ?_, HW.out, HE.out, HG.out, HB.out⟩
        rcases Nat.lt_or_eq_of_le (Nat.le_of_lt_succ hj) with h | rfl
        · exact HA.out j q h hq
        · rw [HP.out] at hq
          cases hq
          exact HK.out
      case measure => simp [intOf]; omega
    · obtain rfl : k = (pieces s).length := by omega
      have HO := Lib.hid (gOk_yes (ok := okC) HN.out (by omega) HA.out)
      rw [gC_all cH s HN.out] at hown
      have HW := Lib.hid hown
      have HE := Lib.hid hne
      have HL := Lib.hid (gV_len cH s HN.out)
      clear hown hne
      go_wp2
      go_ret2
      exact ⟨_, by rw [HO.out]; rfl, hgr, .inl ⟨HO.out, HE.out, by rw [HL.out]; exact HW.out⟩⟩

-- @has parse16
set_option maxHeartbeats 4000000 in
set_option maxRecDepth 100000 in
theorem parse16_c (t : ByteArray) (hne : t.size ≠ 0) (hmax : t.size ≤ 1048576) (w : World) :
    Calls Tryd.prog 55 #[.string t, .int .i64 16, .int .i64 32] w fun e w' => (∃ (v : Nat) (er : Value), e = .returned (.tuple #[.int .u64 v, er]) ∧ v ≤ 4294967295 ∧ ((puF 0 t.data.toList = some v ∧ er = .nilIface) ∨ (puF 0 t.data.toList = none ∧ (er = .iface 99 (.int .i64 2) ∨ er = .iface 99 (.int .i64 1))))) ∧ w' = Lib.bytesWorld w 5 t := by
  have hemp : t.toList.isEmpty = false := by
    rw [← decide_eq_emptyBytes]
    exact decide_eq_false (fun h => hne (by rw [h]; rfl))
  have hcv := Lib.run_convert_string_bytes (P := Tryd.prog) w 9 70 5 t (u := .string) Tryd.underlying9 Tryd.underlying70 Tryd.underlying5
  have hB : ∀ j, j < t.size → (Lib.bytesWorld w 5 t).cell? ⟨w.heap.size, j, none⟩ = some (.int .u8 (t.data.toList.getD j 0).toNat) := fun j hj => Lib.bytesWorld_cell w 5 t j hj
  obtain ⟨W1, hW1⟩ : ∃ W1, W1 = Lib.bytesWorld w 5 t := ⟨_, rfl⟩
  rw [← hW1] at hcv hB ⊢
  clear hW1
  obtain ⟨bs, hL⟩ : ∃ bs, bs = t.data.toList := ⟨_, rfl⟩
  have hLn : bs.length = t.size := by rw [hL, Lib.size_eq]
  rw [← hL] at hB ⊢
  clear hL
  go_enter Tryd.func55, Tryd.ntmps55
  go_wp2
  go_loop [12, 13, 101] (fun vu vn vi => ∃ (k acc : Nat) (a : Int), vu = .bool false ∧ vn = .int .u64 a ∧ vi = .int .i64 k ∧ k ≤ t.size ∧ Hid (a = (acc : Int) ∧ acc ≤ 4294967295 ∧ puF 0 bs = puF acc (bs.drop k)))
    (fun _ _ vi => t.size - (intOf vi).toNat)
  case atStart => exact ⟨0, 0, 0, rfl, rfl, rfl, by omega, Lib.hid ⟨rfl, by omega, rfl⟩⟩
  case round =>
    obtain ⟨k, acc, a, rfl, rfl, rfl, hk, hh⟩ := hrel
    obtain ⟨ha, hacc, hdec⟩ := hh.out
    clear hh
    have a0 : 0 ≤ a := by omega
    have a1 : a ≤ 4294967295 := by omega
    by_cases hkn : k < t.size
    · have hc := hB k hkn
      have hdrop : bs.drop k = bs[k]'(by omega) :: bs.drop (k + 1) := List.drop_eq_getElem_cons (by omega)
      have hget : bs.getD k 0 = bs[k]'(by omega) := by simp [List.getD, List.getElem?_eq_getElem (show k < bs.length by omega)]
      rw [hdrop] at hdec
      rw [hget] at hc
      generalize bs[k]'(by omega) = c at hc hdec
      have hc256 : c.toNat < 256 := c.toNat_lt
      have icut : a < 1152921504606846976 := by omega
      clear hB hdrop hget
      by_cases hdig : 48 ≤ c.toNat ∧ c.toNat ≤ 57
      · have HD := Lib.hid (puD_dig hdig)
        obtain ⟨hd0, hd1⟩ := hdig
        by_cases hov : 4294967295 < 16 * acc + (c.toNat - 48)
        · have HF := Lib.hid (hdec.trans (puF_far HD.out hov))
          have iov : 4294967295 < a * 16 + ((c.toNat : Int) - 48) := by omega
          have iov2 : a * 16 + ((c.toNat : Int) - 48) < 18446744073709551616 := by omega
          clear hacc hov ha hdec HD
          go_wp2
          go_ret2
          exact ⟨⟨4294967295, _, rfl, by omega, .inr ⟨HF.out, .inr rfl⟩⟩, rfl⟩
        · have HN : Hid (a * 16 + ((c.toNat : Int) - 48) = ((16 * acc + (c.toNat - 48) : Nat) : Int) ∧ 16 * acc + (c.toNat - 48) ≤ 4294967295 ∧ puF 0 bs = puF (16 * acc + (c.toNat - 48)) (bs.drop (k + 1))) := Lib.hid ⟨by omega, by omega, hdec.trans (puF_one HD.out (by omega))⟩
          have iov : a * 16 + ((c.toNat : Int) - 48) ≤ 4294967295 := by omega
          clear hacc hov hdec ha HD
          go_wp2
          refine ⟨⟨k + 1, 16 * acc + (c.toNat - 48), a * 16 + ((c.toNat : Int) - 48), rfl, (by first | rfl | (congr 1; omega)), (by first | rfl | (congr 1; omega)), by omega, HN⟩, by simp [intOf]; omega⟩
      · have hv0 := bits_lo_u8 .or (c.toNat : Int) 32
        have hv1 := bits_hi_u8 .or (c.toNat : Int) 32
        have HE := Lib.hid (show bits .or .u8 (c.toNat : Int) 32 = lowC c from rfl)
        rw [HE.out] at hv0 hv1
        have hnd : (c.toNat : Int) < 48 ∨ 57 < (c.toNat : Int) := by omega
        by_cases h95 : c.toNat = 95
        · obtain rfl : c = 95 := UInt8.toNat_inj.1 h95
          have HF := Lib.hid (hdec.trans (puF_bad (by decide)))
          have HE5 : Hid (bits .or .u8 95 32 = 127) := Lib.hid (by decide)
          have e95 : ((95 : UInt8).toNat : Int) = 95 := rfl
          rw [e95] at hc
          clear hacc ha hdec hdig hv0 hv1 HE hnd h95 hc256 e95
          go_wp2_with (go_at_call 69; refine (Tryd.internal_strconv_lower _ _).mono ?_; rw [HE5.out]; rintro e w' ⟨rfl, rfl⟩)
          all_goals
            go_ret2
            exact ⟨⟨0, _, rfl, by omega, .inr ⟨HF.out, .inl rfl⟩⟩, rfl⟩
        have h95' : ((c.toNat : Int) == 95) = false := beq_eq_false_iff_ne.2 (by omega)
        by_cases hr : 97 ≤ lowC c ∧ lowC c ≤ 102
        · have HD := Lib.hid (puD_low hdig hr.1 hr.2)
          obtain ⟨hr0, hr1⟩ := hr
          by_cases hov : 4294967295 < 16 * acc + (lowC c - 87).toNat
          · have HF := Lib.hid (hdec.trans (puF_far HD.out hov))
            have iov : 4294967295 < a * 16 + (lowC c - 87) := by omega
            have iov2 : a * 16 + (lowC c - 87) < 18446744073709551616 := by omega
            clear hacc hov ha hdec HD hdig
            generalize lowC c = d at *
            go_wp2_with (go_at_call 69; refine (Tryd.internal_strconv_lower _ _).mono ?_; rw [HE.out]; rintro e w' ⟨rfl, rfl⟩)
            all_goals
              go_ret2
              exact ⟨⟨4294967295, _, rfl, by omega, .inr ⟨HF.out, .inr rfl⟩⟩, rfl⟩
          · have HN : Hid (a * 16 + (lowC c - 87) = ((16 * acc + (lowC c - 87).toNat : Nat) : Int) ∧ 16 * acc + (lowC c - 87).toNat ≤ 4294967295 ∧ puF 0 bs = puF (16 * acc + (lowC c - 87).toNat) (bs.drop (k + 1))) := Lib.hid ⟨by omega, by omega, hdec.trans (puF_one HD.out (by omega))⟩
            have iov : a * 16 + (lowC c - 87) ≤ 4294967295 := by omega
            clear hacc hov hdec ha HD hdig
            generalize lowC c = d at *
            go_wp2_with (go_at_call 69; refine (Tryd.internal_strconv_lower _ _).mono ?_; rw [HE.out]; rintro e w' ⟨rfl, rfl⟩)
            all_goals
              refine ⟨⟨k + 1, 16 * acc + (d - 87).toNat, a * 16 + (d - 87), rfl, (by first | rfl | (congr 1; omega)), (by first | rfl | (congr 1; omega)), by omega, HN⟩, by simp [intOf]; omega⟩
        · have HF := Lib.hid (hdec.trans (puF_bad (puD_not hdig hr)))
          have hr' : (lowC c < 97 ∨ 122 < lowC c) ∨ (102 < lowC c ∧ lowC c ≤ 122 ∧ 97 ≤ lowC c) := by omega
          clear hacc ha hdec hdig hr
          generalize lowC c = d at *
          rcases hr' with hr' | ⟨hr1, hr2, hr3⟩
          all_goals
            go_wp2_with (go_at_call 69; refine (Tryd.internal_strconv_lower _ _).mono ?_; rw [HE.out]; rintro e w' ⟨rfl, rfl⟩)
            all_goals
              go_ret2
              exact ⟨⟨0, _, rfl, by omega, .inr ⟨HF.out, .inl rfl⟩⟩, rfl⟩
    · have hkk : k = t.size := by omega
      subst hkk
      have hF : puF acc (bs.drop t.size) = some acc := by rw [List.drop_eq_nil_of_le (by omega)]; rfl
      have HF := Lib.hid (hdec.trans hF)
      subst ha
      clear hF hdec a0 a1
      go_wp2
      go_ret2
      exact ⟨⟨acc, _, rfl, hacc, .inl ⟨HF.out, rfl⟩⟩, rfl⟩

-- @has parseUint16
/-- A package-level variable reads so, whatever the call does at its own blocks. -/
theorem var_below {P : Program} {w : World} {name : String} {x : Array Value} (h : w.var? P name = some x) : ∀ w', Gro w w' → w'.var? P name = some x := fun w' hb => by
  unfold World.var? at *
  cases hg : P.globalNamed name with
  | none => simp [hg] at h
  | some g =>
    simp only [hg, Option.bind_some] at h ⊢
    have hlt : g < w.heap.size := by
      rcases Nat.lt_or_ge g w.heap.size with h' | h'
      · exact h'
      · rw [Array.getElem?_eq_none h'] at h; simp at h
    rw [Below.block hb g hlt]
    exact h
theorem size_nil {s : ByteArray} (h : s.size = 0) : s = ⟨#[]⟩ := by
  apply ByteArray.ext
  apply Array.eq_empty_of_size_eq_zero
  exact h
set_option maxHeartbeats 2000000 in
theorem parseUint16_c (s : ByteArray) (hs : s.size ≤ 1048576) (w : World) {t1 t2 : TypeId} {p1 p2 : Value} (hv1 : w.var? Tryd.prog "strconv.ErrSyntax" = some #[.iface t1 p1]) (hv2 : w.var? Tryd.prog "strconv.ErrRange" = some #[.iface t2 p2]) :
    Calls Tryd.prog 43 #[.string s, .int .i64 16, .int .i64 32] w fun e w' => ∃ (v : Nat) (er : Value), e = .returned (.tuple #[.int .u64 v, er]) ∧ v ≤ 4294967295 ∧ ((pu16 s.data.toList = some v ∧ er = .nilIface) ∨ (pu16 s.data.toList = none ∧ ∃ t p, er = .iface t p)) ∧ Gro w w' := by
  have V1 := Lib.hid (var_below hv1)
  have V2 := Lib.hid (var_below hv2)
  have C1 : ∀ w', Gro w w' → w'.cell? ⟨2, 0, none⟩ = some (.iface t1 p1) := fun w' h => (World.var?_cell (by kernel_rfl) (V1.out w' h) 0).trans rfl
  have C2 : ∀ w', Gro w w' → w'.cell? ⟨3, 0, none⟩ = some (.iface t2 p2) := fun w' h => (World.var?_cell (by kernel_rfl) (V2.out w' h) 0).trans rfl
  clear hv1 hv2
  by_cases h0 : s.size = 0
  · obtain rfl := size_nil h0
    have hp : pu16 (⟨#[]⟩ : ByteArray).data.toList = none := rfl
    go_enter Tryd.func43, Tryd.ntmps43
    go_wp2_with (first | (go_at_call 55; refine (Tryd.internal_strconv_ParseUint_empty _ _ _).mono ?_; rintro e w1 ⟨rfl, rfl⟩) | (go_at_call 56; refine (Tryd.strconv_toError_syntax _ _ _ _ _ _ (by decide) (C1 _ (Gro.refl _)) (.inr ⟨_, _, rfl⟩)).mono ?_; rintro e w2 ⟨N, rfl, -, -, hb⟩))
    all_goals
      go_ret2
      exact ⟨0, _, rfl, by omega, .inr ⟨hp, _, _, rfl⟩, hb⟩
  · have hne : pu16 s.data.toList = puF 0 s.data.toList := if_neg (fun e => h0 (by have := congrArg List.length e; simpa using this))
    rw [hne]
    have hpc := Lib.hid (parse16_c s h0 hs w)
    have hbw : Gro w (Lib.bytesWorld w 5 s) := Lib.bytesWorld_below _ _ _
    have c1 := Lib.hid (C1 _ hbw)
    have c2 := Lib.hid (C2 _ hbw)
    generalize Lib.bytesWorld w 5 s = W1 at hpc hbw c1 c2
    have hlim : s.size ≤ 281474976710656 := by omega
    clear C1 C2
    go_enter Tryd.func43, Tryd.ntmps43
    go_wp2_with (go_at_call 55; refine hpc.out.mono ?_; rintro e w1 ⟨⟨v, er, rfl, hv, hr⟩, rfl⟩; have HR := Lib.hid hr; clear hr; refine Hid.out ?_)
    rcases HR.out with ⟨hp, rfl⟩ | ⟨hp, rfl | rfl⟩
    all_goals
      have HP := Lib.hid hp
      clear hp HR
      refine Lib.hid ?_
    · go_wp2
      go_ret2
      exact ⟨v, _, rfl, hv, .inl ⟨HP.out, rfl⟩, hbw⟩
    · go_wp2_with (go_at_call 56; refine (Tryd.strconv_toError_syntax _ _ _ _ _ _ hlim c1.out (.inr ⟨_, _, rfl⟩)).mono ?_; rintro e w2 ⟨N, rfl, -, -, hb⟩)
      all_goals
        go_ret2
        exact ⟨v, _, rfl, hv, .inr ⟨HP.out, _, _, rfl⟩, Gro.trans hbw hb⟩
    · go_wp2_with (go_at_call 56; refine (Tryd.strconv_toError_range _ _ _ _ _ _ hlim c2.out (.inr ⟨_, _, rfl⟩)).mono ?_; rintro e w2 ⟨N, rfl, -, -, hb⟩)
      all_goals
        go_ret2
        exact ⟨v, _, rfl, hv, .inr ⟨HP.out, _, _, rfl⟩, Gro.trans hbw hb⟩

-- @has trail16
theorem trail16_c (w : World) (hd : w.cell? ⟨6, 15, none⟩ = some (.int .u8 4)) :
    Calls Tryd.prog 79 #[.int .u64 16] w (RetV (.int .i64 4) w) := by
  have h64 : Calls Tryd.prog 90 #[.int .u64 16] w (RetV (.int .i64 4) w) := by
    have e1 : IntKind.u64.wrap (-16) = 18446744073709551600 := by decide
    have e2 : bits .and .u64 16 18446744073709551600 = 16 := by decide
    go_enter Tryd.func90, Tryd.ntmps90
    go_wp2
    go_ret
    exact ⟨0, rfl, rfl⟩
  go_enter Tryd.func79, Tryd.ntmps79
  go_wp2_with (go_at_call 90; refine h64.mono ?_; rintro e w1 ⟨n, rfl, rfl⟩)
  go_ret
  exact ⟨_, rfl, rfl⟩
theorem pow2_16 (w : World) : Calls Tryd.prog 78 #[.int .i64 16] w (RetV (.bool true) w) := by
  go_enter Tryd.func78, Tryd.ntmps78
  go_wp2
  go_ret
  exact ⟨0, rfl, rfl⟩

-- @has fmtBits
set_option maxHeartbeats 4000000 in
set_option maxRecDepth 100000 in
theorem fmtBits_c (n : Nat) (hn : n < 4294967296) (w : World) (hd : w.cell? ⟨6, 15, none⟩ = some (.int .u8 4)) :
    Calls Tryd.prog 60 #[.slice none 0 0, .int .u64 n, .int .i64 16, .bool false, .bool false] w fun e w' => ∃ L, 1 ≤ L ∧ L ≤ 8 ∧ n < 16 ^ L ∧ e = .returned (.tuple #[.slice none 0 0, .string ⟨(hexW L n).toArray⟩]) ∧ Gro w w' := by
  go_enter Tryd.func60, Tryd.ntmps60
  go_wp2_with (first | (go_at_call 78; refine (pow2_16 _).mono ?_; rintro e w1 ⟨n1, rfl, rfl⟩) | (go_at_call 79; refine (trail16_c _ (by first | exact hd | exact Gro.cell (by repeat (first | with_reducible exact Gro.refl _ | with_reducible apply Gro.drewN | with_reducible apply Gro.drew | with_reducible apply Gro.alloc | with_reducible refine Gro.setCell ?_ (by dsimp only; omega) _ | refine Gro.trans ?_ (by assumption))) hd)).mono ?_; rintro e w1 ⟨n2, rfl, rfl⟩))
  have hz : Tryd.zeroCells107 = Array.replicate 65 (.int .u8 0) := by kernel_rfl
  have hr0 : (((w.alloc (Obj.cells Tryd.zeroCells107 107)).drewN (n1 + n2))).rowIs w.heap.size 107 65 (hxV n 65) := by
    rw [hz]
    refine rowIs_drewN ⟨_, heap_alloc_new w _, by simp, fun i hi => ?_⟩ _
    simp [hxV, hi]
  have hg0 : Gro w ((w.alloc (Obj.cells Tryd.zeroCells107 107)).drewN (n1 + n2)) := Gro.drewN ((Gro.refl w).alloc _) _
  generalize (w.alloc (Obj.cells Tryd.zeroCells107 107)).drewN (n1 + n2) = w2 at hr0 hg0
  go_loopw [1, 13] (fun u i wr => ∃ k i0 U : Nat, k + i0 = 65 ∧ k ≤ 7 ∧ u = .int .u64 (U : Int) ∧ i = .int .i64 (i0 : Int) ∧ Hid (U = n / 16 ^ k) ∧ wr.rowIs w.heap.size 107 65 (hxV n i0) ∧ Gro w wr) (fun u _ _ => (intOf u).toNat)
  case atStart => exact ⟨0, 65, n, rfl, by omega, rfl, rfl, Lib.hid (by simp), hr0, hg0⟩
  case round =>
    obtain ⟨k, i0, U, hk, hk7, rfl, rfl, HU, hrow, hg⟩ := hrel
    have hUn : U < 4294967296 := by rw [HU.out]; exact Nat.lt_of_le_of_lt (Nat.div_le_self _ _) hn
    obtain ⟨i1, rfl⟩ : ∃ i1, i0 = i1 + 1 := ⟨i0 - 1, by omega⟩
    have hI : ((i1 + 1 : Nat) : Int) - 1 = (i1 : Int) := by omega
    have c1 := hrow.cell (i := i1) (by omega)
    have c2 := hrow.frozen i1
    have hsz := hg.size
    by_cases h16 : 16 ≤ U
    · have hm := and15_u64 U (by omega)
      have hD : U % 16 < 16 := Nat.mod_lt _ (by decide)
      generalize hDD : U % 16 = D at *
      go_wp2
      go_roundw
      case rel =>
        rw [dig36 D hD]
        refine ⟨k + 1, i1, U / 16, by omega, ?_, by go_num, rfl, Lib.hid (by rw [HU.out, Nat.div_div_eq_div_mul, ← Nat.pow_succ]), (hrow.set i1 _).congr fun j _ => hxV_set n i1 j D ?_, hg.setCell (Nat.le_refl _) _⟩
        · rcases Nat.lt_or_ge k 7 with h | h
          · omega
          · have e7 : k = 7 := by omega
            subst e7
            have h7 := HU.out
            have : (16 : Nat) ^ 7 = 268435456 := by decide
            rw [this] at h7
            omega
        · rw [← hDD, HU.out, show 64 - i1 = k by omega]
      case measure => simp [intOf]; omega
    · have hD : U < 16 := by omega
      have hal : Tryd.prog.arrayLen 107 = 65 := by kernel_rfl
      have hsl : ∀ W, (Instr.sliceAt 107 (.pointer (some ⟨w.heap.size, 0, none⟩)) (some (.int .i64 (i1 : Int))) none none).run Tryd.prog W = .ok (.slice (some ⟨w.heap.size, i1, none⟩) (k + 1) (k + 1)) W := fun W => by
        rw [run_sliceAt_array_l W 107 ⟨w.heap.size, 0, none⟩ (by kernel_rfl) .i64 (i1 : Int) (by omega) (by rw [hal]; omega)]
        have e1 : (65 - i1 : Nat) = k + 1 := by omega
        have e2 : ¬ 65 = i1 := by omega
        have e4 : ¬ i1 = 0 := by omega
        have e3 : (sizeOf (Tryd.prog.elem 107)).run Tryd.prog W = .ok 1 W := by
          have : Tryd.prog.elem 107 = 5 := by kernel_rfl
          rw [this]
          exact Tryd.sizeOf5 W
        rw [e3, hal]
        simp [slicedAt, Addr.add, e1, e2, e4]
      have hLt : n < 16 ^ (k + 1) := by
        have h1 := HU.out
        rw [Nat.pow_succ]
        have := Nat.div_add_mod n (16 ^ k)
        have h2 : n % 16 ^ k < 16 ^ k := Nat.mod_lt _ (Nat.pow_pos (by decide))
        rw [← h1] at this
        have h3 : 16 ^ k * U ≤ 16 ^ k * 15 := Nat.mul_le_mul_left _ (by omega)
        omega
      have hr3 : (wr.setCell ⟨w.heap.size, i1, none⟩ (.int .u8 ((((ByteArray.mk (List.toArray (48 :: 49 :: 50 :: 51 :: 52 :: 53 :: 54 :: 55 :: 56 :: 57 :: 97 :: 98 :: 99 :: 100 :: 101 :: 102 :: 103 :: 104 :: 105 :: 106 :: 107 :: 108 :: 109 :: 110 :: 111 :: 112 :: 113 :: 114 :: 115 :: 116 :: 117 :: 118 :: 119 :: 120 :: 121 :: 122 :: [])))[U]'(Nat.lt_of_lt_of_le hD (by decide))).toNat : Nat) : Int))).rowIs w.heap.size 107 65 (hxV n i1) := by
        rw [dig36 U hD]
        exact (hrow.set i1 _).congr fun j _ => hxV_set n i1 j U (by rw [show 64 - i1 = k by omega, ← HU.out, Nat.mod_eq_of_lt hD])
      have hcv := run_convert_bytes_back (P := Tryd.prog) (wr.setCell ⟨w.heap.size, i1, none⟩ (.int .u8 ((((ByteArray.mk (List.toArray (48 :: 49 :: 50 :: 51 :: 52 :: 53 :: 54 :: 55 :: 56 :: 57 :: 97 :: 98 :: 99 :: 100 :: 101 :: 102 :: 103 :: 104 :: 105 :: 106 :: 107 :: 108 :: 109 :: 110 :: 111 :: 112 :: 113 :: 114 :: 115 :: 116 :: 117 :: 118 :: 119 :: 120 :: 121 :: 122 :: [])))[U]'(Nat.lt_of_lt_of_le hD (by decide))).toNat : Nat) : Int))) 70 9 5 ⟨w.heap.size, i1, none⟩ (k + 1) (hexW (k + 1) n) Tryd.underlying70 Tryd.underlying5 Tryd.underlying9 (fun j hj => by
        rw [hexW_len] at hj
        have h1 := hr3.cell (i := i1 + j) (by omega)
        have h2 := hexW_get (k + 1) n j hj
        rw [List.getElem?_eq_getElem (by rw [hexW_len]; exact hj)] at h2
        injection h2 with h2
        rw [h2]
        unfold hxV at h1
        rw [if_neg (by omega), show 64 - (i1 + j) = k + 1 - 1 - j by omega] at h1
        rw [Go.WideShapes.add_plain]
        exact h1)
      rw [hexW_len] at hcv
      have hg3 : Gro w (wr.setCell ⟨w.heap.size, i1, none⟩ (.int .u8 ((((ByteArray.mk (List.toArray (48 :: 49 :: 50 :: 51 :: 52 :: 53 :: 54 :: 55 :: 56 :: 57 :: 97 :: 98 :: 99 :: 100 :: 101 :: 102 :: 103 :: 104 :: 105 :: 106 :: 107 :: 108 :: 109 :: 110 :: 111 :: 112 :: 113 :: 114 :: 115 :: 116 :: 117 :: 118 :: 119 :: 120 :: 121 :: 122 :: [])))[U]'(Nat.lt_of_lt_of_le hD (by decide))).toNat : Nat) : Int))) := hg.setCell (Nat.le_refl _) _
      have HG := Lib.hid hg3
      clear hr3 hrow hal hg3 hI
      have hI : ((i1 + 1 : Nat) : Int) - 1 = (i1 : Int) := by omega
      go_wp2
      go_ret2
      exact ⟨k + 1, by omega, by omega, hLt, rfl, HG.out⟩

-- @has fmtInt16
theorem fmtInt16_c (n : Nat) (hn : n < 4294967296) (w : World) (hd : w.cell? ⟨6, 15, none⟩ = some (.int .u8 4)) :
    Calls Tryd.prog 35 #[.int .i64 n, .int .i64 16] w fun e w' => ∃ L, 1 ≤ L ∧ L ≤ 8 ∧ n < 16 ^ L ∧ e = .returned (.string ⟨(hexW L n).toArray⟩) ∧ Gro w w' := by
  have hin : Calls Tryd.prog 46 #[.int .i64 n, .int .i64 16] w fun e w' => ∃ L, 1 ≤ L ∧ L ≤ 8 ∧ n < 16 ^ L ∧ e = .returned (.string ⟨(hexW L n).toArray⟩) ∧ Gro w w' := by
    have hneg : ¬ (n : Int) < 0 := by omega
    go_enter Tryd.func46, Tryd.ntmps46
    go_wp2_with (go_at_call 60; refine (fmtBits_c n hn _ (Gro.cell (by repeat (first | with_reducible exact Gro.refl _ | with_reducible apply Gro.drewN | with_reducible apply Gro.drew | with_reducible apply Gro.alloc | with_reducible refine Gro.setCell ?_ (by dsimp only; omega) _ | refine Gro.trans ?_ (by assumption))) hd)).mono ?_; rintro e w1 ⟨L, h1, h2, h3, rfl, hg⟩)
    all_goals
      go_ret
      exact ⟨L, h1, h2, h3, rfl, by show Gro w _; (repeat (first | with_reducible exact Gro.refl _ | with_reducible apply Gro.drewN | with_reducible apply Gro.drew | refine Gro.trans ?_ (by assumption)))⟩
  go_enter Tryd.func35, Tryd.ntmps35
  go_wp2_with (go_at_call 46; refine hin.mono ?_; rintro e w1 ⟨L, h1, h2, h3, rfl, hg⟩)
  go_ret
  exact ⟨L, h1, h2, h3, rfl, hg⟩

-- @has repeat0
theorem hasPre_c (s : ByteArray) (b : Bool) (hs : 1 ≤ s.size) (h : ((s.extract 0 1).toList == [48]) = b) (w : World) :
    Calls Tryd.prog 49 #[.string s, .string ⟨#[48]⟩] w (RetV (.bool b) w) := by
  go_enter Tryd.func49, Tryd.ntmps49
  go_wp2
  go_ret
  exact ⟨0, rfl, rfl⟩
set_option maxHeartbeats 2000000 in
set_option maxRecDepth 100000 in
theorem repeat0_c (c : Nat) (hc : c ≤ 7) (w : World) :
    Calls Tryd.prog 37 #[.string ⟨#[48]⟩, .int .i64 c] w (RetV (.string ⟨(List.replicate c 48).toArray⟩) w) := by
  have hmul := Tryd.bits_Mul 1 c (by decide) (by omega)
  have e1 : 1 * c / 18446744073709551616 = 0 := by omega
  have e2 : 1 * c % 18446744073709551616 = c := by omega
  rw [e1, e2] at hmul
  have e3 : ((({ data := #[48] } : ByteArray)[0].toNat : Int) == 32) = false := by decide
  have e4 : ((({ data := #[48] } : ByteArray)[0].toNat : Int) == 45) = false := by decide
  have e5 : ((({ data := #[48] } : ByteArray)[0].toNat : Int) == 48) = true := by decide
  by_cases h0 : c = 0
  · subst h0
    go_enter Tryd.func37, Tryd.ntmps37
    go_wp2
    go_ret
    exact ⟨0, rfl, rfl⟩
  by_cases h1 : c = 1
  · subst h1
    go_enter Tryd.func37, Tryd.ntmps37
    go_wp2
    go_ret
    exact ⟨0, rfl, rfl⟩
  have hc2 : 2 ≤ c := by omega
  have h0' : ((c : Int) == 0) = false := beq_eq_false_iff_ne.2 (by omega)
  have h1' : ((c : Int) == 1) = false := beq_eq_false_iff_ne.2 (by omega)
  go_enter Tryd.func37, Tryd.ntmps37
  go_wp2_with (first | (go_at_call 48; refine (hmul _).mono ?_; rintro e w1 ⟨rfl, rfl⟩) | (go_at_call 49; refine (hasPre_c _ false (by decide) (by rw [Lib.toList_data]; decide +kernel) _).mono ?_; rintro e w1 ⟨n, rfl, rfl⟩) | (go_at_call 49; refine (hasPre_c _ true (by decide) (by rw [Lib.toList_data]; decide +kernel) _).mono ?_; rintro e w1 ⟨n, rfl, rfl⟩))
  go_ret
  refine ⟨_, ?_, rfl⟩
  clear hmul e1 e2 e3 e4 e5 h0 h1 h0' h1'
  refine congrArg Ending.returned (congrArg Value.string (ByteArray.ext ?_))
  obtain rfl | rfl | rfl | rfl | rfl | rfl : c = 2 ∨ c = 3 ∨ c = 4 ∨ c = 5 ∨ c = 6 ∨ c = 7 := by omega
  all_goals decide +kernel

-- @has implBitsOf
theorem implBitsOf_c (b : Nat) (hb : WfC .f32 (cl .f32 b)) (w : World) :
    Calls Tryd.prog 36 #[.float .f32 b] w (RetV (.int .i64 (bitsC (cl .f32 b))) w) := by
  have hx := f32bits_run
  rcases h : cl .f32 b with _ | c
  · go_enter Tryd.func36, Tryd.ntmps36
    go_wp2
    go_ret
    exact ⟨0, rfl, rfl⟩
  · have hs := ford_self h
    obtain ⟨rfl, -⟩ := cl_some h
    have hb' : b < 2 ^ 32 := hb _ h
    clear hb
    go_enter Tryd.func36, Tryd.ntmps36
    go_wp2
    go_ret
    exact ⟨0, rfl, rfl⟩

-- @has implDigits
theorem str_app2 (a b : List UInt8) : (⟨a.toArray⟩ : ByteArray) ++ (⟨b.toArray⟩ : ByteArray) = ⟨(a ++ b).toArray⟩ := by
  apply ByteArray.ext
  simp
theorem repeat0_i (c : Int) (h0 : 0 ≤ c) (h7 : c ≤ 7) (w : World) :
    Calls Tryd.prog 37 #[.string ⟨#[48]⟩, .int .i64 c] w (RetV (.string ⟨(List.replicate c.toNat 48).toArray⟩) w) := by
  obtain ⟨n, rfl⟩ : ∃ n : Nat, c = n := ⟨c.toNat, by omega⟩
  exact repeat0_c n (by omega) w
theorem pad_eq {L n : Nat} {S : ByteArray} (h : n < 16 ^ L) (hL : L ≤ 8) (hS : S = ⟨(hexW L n).toArray⟩) : (⟨Array.replicate (8 - L) 48⟩ : ByteArray) ++ S = ⟨(hexW 8 n).toArray⟩ := by
  rw [hS, ← List.toArray_replicate, str_app2, ← hexW_pad L n h, show 8 - L + L = 8 by omega]
set_option maxHeartbeats 1000000 in
theorem implDigits_c (b : Nat) (hb : b < 4294967296) (w : World) (hd : w.cell? ⟨6, 15, none⟩ = some (.int .u8 4)) :
    Calls Tryd.prog 25 #[.float .f32 b] w fun e w' => e = .returned (.string (hexT b)) ∧ Gro w w' := by
  have hbits := implBitsOf_c b (wf_cl (show b < 2 ^ 32 by omega))
  rw [nb_int] at hbits
  have hnb := nb_le hb
  go_enter Tryd.func25, Tryd.ntmps25
  go_wp2_with (first | (go_at_call 36; refine (hbits _).mono ?_; rintro e w1 ⟨n, rfl, rfl⟩) | (go_at_call 35; refine (fmtInt16_c _ hnb _ (Gro.cell (by repeat (first | with_reducible exact Gro.refl _ | with_reducible apply Gro.drewN | with_reducible apply Gro.drew | with_reducible apply Gro.alloc | with_reducible refine Gro.setCell ?_ (by dsimp only; omega) _ | refine Gro.trans ?_ (by assumption))) hd)).mono ?_; rintro e w1 ⟨L, h1, h2, h3, rfl, hg⟩; obtain ⟨S, hS⟩ : ∃ S : ByteArray, S = ⟨(hexW L (nb b)).toArray⟩ := ⟨_, rfl⟩; rw [← hS]; have hP := Lib.hid (pad_eq h3 h2 hS); have hz : S.size = L := (by rw [hS]; show (hexW L (nb b)).toArray.size = L; rw [List.size_toArray, hexW_len]); clear hS) | (go_at_call 37; refine (repeat0_i _ (by omega) (by omega) _).mono ?_; rintro e w2 ⟨n2, rfl, rfl⟩))
  go_ret
  exact ⟨congrArg (fun s => Ending.returned (.string s)) hP.out, by show Gro w _; (repeat (first | with_reducible exact Gro.refl _ | with_reducible apply Gro.drewN | with_reducible apply Gro.drew | refine Gro.trans ?_ (by assumption)))⟩

-- @has readDigits
set_option maxHeartbeats 2000000 in
theorem readDigits_c (s : ByteArray) (hs : s.size ≤ 1048576) (w : World) {t1 t2 : TypeId} {p1 p2 : Value} (hv1 : w.var? Tryd.prog "strconv.ErrSyntax" = some #[.iface t1 p1]) (hv2 : w.var? Tryd.prog "strconv.ErrRange" = some #[.iface t2 p2]) (hd : w.cell? ⟨6, 15, none⟩ = some (.int .u8 4)) :
    Calls Tryd.prog 30 #[.string s] w fun e w' => ∃ u, e = .returned (.tuple #[.float .f32 u, .bool (okH s)]) ∧ (okH s = true → u = valH s) ∧ Gro w w' := by
  have hx := f32from_run
  have hp := Lib.hid (parseUint16_c s hs w hv1 hv2)
  have HD := Lib.hid hd
  clear hv1 hv2 hd
  go_enter Tryd.func30, Tryd.ntmps30
  go_wp2_with (go_at_call 43; refine hp.out.mono ?_; rintro e w1 ⟨v, er, rfl, hv, hr, hg⟩; have HR := Lib.hid hr; clear hr; refine Hid.out ?_)
  rcases HR.out with ⟨hq, rfl⟩ | ⟨hq, t, p, rfl⟩
  · have HI := okH_iff hq
    have hd2 : w1.cell? ⟨6, 15, none⟩ = some (.int .u8 4) := Gro.cell hg HD.out
    have HC := Lib.hid (implDigits_c v (by omega) w1 hd2)
    by_cases he : hexW 8 (nb v) = s.data.toList
    · have hok := HI.1.2 he
      have hval := HI.2 hok
      have hse : ((hexT v).toList == s.toList) = true := by rw [Lib.toList_data, Lib.toList_data]; simpa [hexT] using he
      have HO := Lib.hid hok
      generalize hexT v = X at HC hse
      have HV := Lib.hid hval
      clear he HI hq HR hok hval
      refine Lib.hid ?_
      go_wp2_with (go_at_call 25; refine HC.out.mono ?_; rintro e w2 ⟨rfl, hg2⟩)
      all_goals
        go_ret2
        exact ⟨v, by rw [HO.out]; rfl, fun _ => HV.out.symm, Gro.trans hg hg2⟩
    · have hok : okH s = false := by
        cases h : okH s
        · rfl
        · exact absurd (HI.1.1 h) he
      have hse : ((hexT v).toList == s.toList) = false := by rw [Lib.toList_data, Lib.toList_data]; simpa [hexT] using he
      have HO := Lib.hid hok
      generalize hexT v = X at HC hse
      clear he HI hq HR hok
      refine Lib.hid ?_
      go_wp2_with (go_at_call 25; refine HC.out.mono ?_; rintro e w2 ⟨rfl, hg2⟩)
      all_goals
        go_ret2
        exact ⟨v, by rw [HO.out]; rfl, fun h => (by rw [HO.out] at h; cases h), Gro.trans hg hg2⟩
  · have hok := okH_bad hq
    have HO := Lib.hid hok
    clear hq HR hok
    refine Lib.hid ?_
    go_wp2
    all_goals
      go_ret2
      exact ⟨v, by rw [HO.out]; rfl, fun h => (by rw [HO.out] at h; cases h), hg⟩

-- @has l01NRead
theorem info_f32r : (Tryd.prog.info? 32).map (fun i => (i.zero, i.size, i.bytes)) = some (some (.float .f32 0), 1, 4) := by kernel_rfl
set_option maxRecDepth 100000 in
set_option maxHeartbeats 4000000 in
theorem l01NRead_c (s : ByteArray) (w : World) (hs : s.size ≤ 1048576) :
    Calls Tryd.prog 28 #[.string s] w fun e w' => ∃ v, e = .returned (.tuple #[v, .bool (gOk okH s)]) ∧ Gro w w' ∧ RG 32 okH fH s w w' v := by
  obtain ⟨i0, hi, hz0, hz1, hz2⟩ := info_parts info_f32r
  cases hn : isNone s
  case true =>
    have hse : (s.toList == [110, 111, 110, 101]) = true := by rw [Lib.toList_data]; exact hn
    have HO := Lib.hid (gOk_none (ok := okH) hn)
    have HV := Lib.hid (gV_none (f := fH) hn)
    clear hn
    go_enter Tryd.func28, Tryd.ntmps28
    go_wp2
    go_ret2
    exact ⟨.slice (some ⟨w.heap.size, 0, none⟩) 0 0, by rw [HO.out]; rfl, (Gro.refl _).alloc _, .inl ⟨HO.out, by simp, by rw [HV.out]; exact ownsRow_empty (Nat.le_refl _)⟩⟩
  have hse : (s.toList == [110, 111, 110, 101]) = false := by rw [Lib.toList_data]; exact hn
  have HN := Lib.hid hn
  have hps := Lib.hid (pieces_size s)
  clear hn
  by_cases h64 : 256 < (pieces s).length
  · have h64' : (256 : Int) < (pieces s).length := by omega
    have HO := Lib.hid (gOk_long (ok := okH) HN.out h64)
    go_enter Tryd.func28, Tryd.ntmps28
    go_wp2_with (go_at_call 39; refine (l01Cut_c _ _ hs).mono ?_; rintro e w1 ⟨g, cap, rfl, hc, ⟨cur, hcur⟩, hg⟩)
    all_goals
      go_ret2
      exact ⟨.slice none 0 0, by rw [HO.out]; rfl, Gro.trans ((Gro.refl _).alloc _) hg, .inr ⟨HO.out, rfl⟩⟩
  have h64' : ¬ (256 : Int) < (pieces s).length := by omega
  go_enter Tryd.func28, Tryd.ntmps28
  go_wp2_with (go_at_call 39; refine (l01Cut_c _ _ hs).mono ?_; rintro e w1 ⟨g, cap, rfl, hc, ⟨cur, hcur⟩, hg⟩)
  have HC := Lib.hid hc
  clear hc
  have hgw : Gro w w1 := Gro.trans ((Gro.refl _).alloc _) hg
  go_loopw [4, 6] (fun v i wr => ∃ k : Nat, k ≤ (pieces s).length ∧ i = .int .i64 (k : Int) ∧ (∀ (j : Nat) p, j < k → (pieces s)[j]? = some p → okH p = true) ∧ wr.ownsRow w.heap.size 32 1 v k (gC fH (pieces s) k) ∧ v ≠ .slice none 0 0 ∧ Gro w wr ∧ wr.heap[g]? = some (.cells cur 9 (0, 0))) (fun _ i _ => (pieces s).length - (intOf i).toNat)
  case atStart => exact ⟨0, Nat.zero_le _, rfl, fun j p h => absurd h (Nat.not_lt_zero _), own_gro (ownsRow_empty (Nat.le_refl _)) hg, by simp, hgw, hcur⟩
  case round =>
    obtain ⟨k, hk, rfl, hall, hown, hne, hgr, hgc⟩ := hrel
    have HA := Lib.hid hall
    clear hall
    by_cases hlt : k < (pieces s).length
    · obtain ⟨p, hp⟩ : ∃ p, (pieces s)[k]? = some p := ⟨_, List.getElem?_eq_getElem hlt⟩
      have c0 : wr.cell? ⟨g, k, none⟩ = some (.string p) := (cell_block (hgc.trans hcur.symm)).trans (HC.out k p hp)
      have HP := Lib.hid hp
      have hpz : p.size ≤ 1048576 := Nat.le_trans (hps.out p (List.mem_of_getElem? hp)) hs
      have hsz := hgr.size
      clear hp
      by_cases h8 : p.size = 8
      case neg =>
        have h8' : ((p.size : Int) == 8) = false := beq_eq_false_iff_ne.2 (by omega)
        have HO := Lib.hid (gOk_bad (ok := okH) HN.out HP.out (okH_size h8))
        clear hown hne
        go_wp2
        all_goals
          go_ret2
          exact ⟨.slice none 0 0, by rw [HO.out]; rfl, hgr, .inr ⟨HO.out, rfl⟩⟩
      have h8' : ((p.size : Int) == 8) = true := by rw [h8]; rfl
      have HI : Hid (hexT8 p 0 0) := Lib.hid rfl
      go_wp2
      go_loopw [7, 8] (fun nv kv wx => ∃ (q acc : Nat), q ≤ 8 ∧ nv = .int .i64 (acc : Int) ∧ kv = .int .i64 (q : Int) ∧ Hid (hexT8 p q acc) ∧ acc < 16 ^ q ∧ ∃ nd, wx = wr.drewN nd) (fun _ kv _ => 8 - (intOf kv).toNat)
      case atStart => exact ⟨0, 0, by omega, rfl, rfl, HI, by decide, 0, rfl⟩
      case round =>
        obtain ⟨q, acc, hq, rfl, rfl, HQ, hacc, nd, rfl⟩ := hrel
        have h16 : (16 : Nat) ^ q ≤ 16 ^ 8 := Nat.pow_le_pow_right (by decide) hq
        have e16 : (16 : Nat) ^ 8 = 4294967296 := by decide
        have hacc32 : acc < 4294967296 := by omega
        clear h16 e16
        by_cases hq8 : q < 8
        · have hqp : q < p.size := by omega
          have hc256 := byte_lt2 p[q]
          by_cases hdig : 48 ≤ p[q].toNat ∧ p[q].toNat ≤ 57
          · have HS := Lib.hid (hexT8.step HQ.out hqp (hexD_dig hdig))
            have hb : 16 * acc + (p[q].toNat - 48) < 16 ^ (q + 1) := by rw [Nat.pow_succ]; omega
            have HB := Lib.hid hb
            obtain ⟨d1, d2⟩ := hdig
            have d1' : (48 : Int) ≤ p[q].toNat := by omega
            have d2' : (p[q].toNat : Int) ≤ 57 := by omega
            have d3' : ¬ (97 : Int) ≤ p[q].toNat := by omega
            clear hb hacc
            go_wp2
            go_roundw
            case rel => exact ⟨q + 1, 16 * acc + (p[q].toNat - 48), by omega, by go_num, by go_num, HS, HB.out, _, rfl⟩
            case measure => simp [intOf]; omega
          · by_cases hlow : 97 ≤ p[q].toNat ∧ p[q].toNat ≤ 102
            · have HS := Lib.hid (hexT8.step HQ.out hqp (hexD_low hlow))
              have hb : 16 * acc + (p[q].toNat - 87) < 16 ^ (q + 1) := by rw [Nat.pow_succ]; omega
              have HB := Lib.hid hb
              obtain ⟨d1, d2⟩ := hlow
              have d1' : (97 : Int) ≤ p[q].toNat := by omega
              have d2' : (p[q].toNat : Int) ≤ 102 := by omega
              have d3' : ¬ (p[q].toNat : Int) ≤ 57 := by omega
              clear hb hacc hdig
              go_wp2
              go_roundw
              case rel => exact ⟨q + 1, 16 * acc + (p[q].toNat - 87), by omega, by go_num, by go_num, HS, HB.out, _, rfl⟩
              case measure => simp [intOf]; omega
            · have HO := Lib.hid (gOk_bad (ok := okH) HN.out HP.out (hexT8.bad HQ.out hqp (hexD_not hdig hlow)))
              have d1 : ((p[q].toNat : Int) < 48 ∨ 57 < (p[q].toNat : Int) ∧ (p[q].toNat : Int) < 97) ∨ 102 < (p[q].toNat : Int) := by omega
              clear hdig hlow hown hne hacc
              rcases d1 with (d1 | ⟨d1, d2⟩) | d1
              all_goals
                go_wp2
                all_goals
                  go_ret2
                  exact ⟨.slice none 0 0, by rw [HO.out]; rfl, Gro.drewN hgr _, .inr ⟨HO.out, rfl⟩⟩
        · obtain rfl : q = 8 := by omega
          have HF := okH_full (hexT8.full (p := p) (acc := acc) (by rw [h8]; exact HQ.out) h8)
          have hbits := l01Bits_c acc (wf_cl (show acc < 2 ^ 32 by omega))
          rw [nb_int] at hbits
          have hfrom : ∀ w, Calls Tryd.prog 40 #[.int .i64 (acc : Int)] w (RetV (.float .f32 acc) w) := fun w => l01From_c (acc : Int) (by omega) (by omega) w
          obtain ⟨HF1, HF2⟩ := HF
          by_cases hnb : nb acc = acc
          · rw [hnb] at hbits HF1
            have HOK : Hid (okH p = true) := Lib.hid (HF1.trans (by simp))
            have HV := Lib.hid HF2
            have hsz2 : w.heap.size ≤ ((wr.drewN nd)).heap.size := hsz
            clear hacc HF1 HF2 hnb
            go_wp2_with (first | (go_at_call 40; refine (hfrom _).mono ?_; rintro e w2 ⟨n1, rfl, rfl⟩) | (go_at_call 41; refine (hbits _).mono ?_; rintro e w2 ⟨n2, rfl, rfl⟩) | (at_builtin; refine wpList_append_own _ rfl _ _ 22 rfl w.heap.size 32 i0 (.float .f32 0) 1 4 Tryd.underlying22 hi hz0 hz1 hz2 rfl (by decide) _ _ _ rfl ((own_gro hown (Gro.drewN (Gro.refl wr) _)).alloc _) ⟨wr.heap.size, 0, none⟩ 1 1 [.float .f32 acc] rfl rfl (cell_new1 _ _ _) (fun x hx => by simp at hx; subst hx; rfl) (by unfold maxLen; omega) (by omega) (by simp; omega) ?_))
            intro v' w' hown' hgrow hnn
            have hne' : v' ≠ .slice none 0 0 := fun e => by simp [e] at hnn
            have hg' : Gro w w' := RowKit.Below.grown (Gro.alloc (Gro.drewN hgr _) _) hgrow (by simp; omega) (fun j hj => (World.ownsRow.lt hown j hj).1)
            rw [show (Value.float .f32 acc) = fH p by unfold fH; rw [HV.out], gC_snoc HP.out] at hown'
            have HB := Lib.hid (block_append (w2 := wr.drewN _) hgc hown hgc (by decide) hgrow)
            have HW := Lib.hid hown'
            have HE := Lib.hid hne'
            have HG := Lib.hid hg'
            clear hown' hgrow hnn hne' hg' hown hne
            go_wp2
            go_roundw
            case rel =>
              refine ⟨k + 1, by omega, by go_num, fun j q hj hq => ?_, HW.out, HE.out, HG.out, HB.out⟩
              rcases Nat.lt_or_eq_of_le (Nat.le_of_lt_succ hj) with h | rfl
              · exact HA.out j q h hq
              · rw [HP.out] at hq
                cases hq
                exact HOK.out
            case measure => simp [intOf]; omega
          · have hn1 : ((nb acc : Int) == (acc : Int)) = false := beq_eq_false_iff_ne.2 (by omega)
            have HO := Lib.hid (gOk_bad (ok := okH) HN.out HP.out (HF1.trans (by simpa using hnb)))
            clear hacc HF1 HF2 hnb hown hne
            go_wp2_with (first | (go_at_call 40; refine (hfrom _).mono ?_; rintro e w2 ⟨n1, rfl, rfl⟩) | (go_at_call 41; refine (hbits _).mono ?_; rintro e w2 ⟨n2, rfl, rfl⟩))
            all_goals
              go_ret2
              exact ⟨.slice none 0 0, by rw [HO.out]; rfl, by show Gro w _; (repeat (first | assumption | with_reducible apply Gro.drewN)), .inr ⟨HO.out, rfl⟩⟩
    · obtain rfl : k = (pieces s).length := by omega
      have HO := Lib.hid (gOk_yes (ok := okH) HN.out (by omega) HA.out)
      rw [gC_all fH s HN.out] at hown
      have HW := Lib.hid hown
      have HE := Lib.hid hne
      have HL := Lib.hid (gV_len fH s HN.out)
      clear hown hne
      go_wp2
      go_ret2
      exact ⟨_, by rw [HO.out]; rfl, hgr, .inl ⟨HO.out, HE.out, by rw [HL.out]; exact HW.out⟩⟩

-- @has implReadNumbers
theorem splitG_c (s : ByteArray) (w : World) (hs : s.size ≤ 1048576) {m : Int} (hm : w.cell? ⟨4, 0, none⟩ = some (.int .i64 m)) :
    Calls Tryd.prog 42 #[.string s, .string ⟨#[44]⟩] w fun e w' => ∃ g cap, e = .returned (.slice (some ⟨g, 0, none⟩) (pieces s).length cap) ∧ (∀ (j : Nat) x, (pieces s)[j]? = some x → w'.cell? ⟨g, j, none⟩ = some (.string x)) ∧ (∃ cur, w'.heap[g]? = some (.cells cur 9 (0, 0))) ∧ Gro w w' := by
  refine (Tryd.strings_Split s ⟨#[44]⟩ m w (by omega) hm (by decide)).mono ?_
  rintro e w' ⟨rfl, rfl⟩
  rw [pieces_len, split_pieces]
  have hh := heap_alloc_new w (.cells ((pieces s).map Value.string).toArray 9)
  refine ⟨_, _, rfl, fun j x hj => ?_, ⟨_, hh⟩, (Gro.refl _).alloc _⟩
  simp only [World.cell?, hh]
  simp [hj]
theorem apart_none (s : ByteArray) (hn : isNone s = true) (w : World) :
    Calls Tryd.prog 29 #[.string s] w (RetV (.tuple #[.slice none 0 0, .bool true]) w) := by
  have hse : (s.toList == [110, 111, 110, 101]) = true := by rw [Lib.toList_data]; exact hn
  go_enter Tryd.func29, Tryd.ntmps29
  go_wp2
  go_ret2
  exact ⟨0, rfl, rfl⟩
theorem apart_c (s : ByteArray) (hn : isNone s = false) (w : World) (hs : s.size ≤ 1048576) {m : Int} (hm : w.cell? ⟨4, 0, none⟩ = some (.int .i64 m)) :
    Calls Tryd.prog 29 #[.string s] w fun e w' => ∃ g cap, e = .returned (.tuple #[.slice (some ⟨g, 0, none⟩) (pieces s).length cap, .bool (decide ((pieces s).length ≤ 256))]) ∧ (∀ (j : Nat) x, (pieces s)[j]? = some x → w'.cell? ⟨g, j, none⟩ = some (.string x)) ∧ (∃ cur, w'.heap[g]? = some (.cells cur 9 (0, 0))) ∧ Gro w w' := by
  have hse : (s.toList == [110, 111, 110, 101]) = false := by rw [Lib.toList_data]; exact hn
  have HM := Lib.hid hm
  clear hm
  have HE := Lib.hid (show decide (((pieces s).length : Int) ≤ 256) = decide ((pieces s).length ≤ 256) from decide_eq_decide.2 (by omega))
  go_enter Tryd.func29, Tryd.ntmps29
  go_wp2_with (go_at_call 42; refine (splitG_c _ _ hs HM.out).mono ?_; rintro e w1 ⟨g, cap, rfl, hc, hcur, hg⟩; have HC := Lib.hid hc; have HU := Lib.hid hcur; clear hc hcur)
  all_goals
    go_ret2
    exact ⟨g, cap, by rw [← HE.out]; rfl, HC.out, HU.out, hg⟩
set_option maxRecDepth 100000 in
set_option maxHeartbeats 4000000 in
theorem implReadNumbers_c (s : ByteArray) (w : World) (hs : s.size ≤ 1048576) {t1 t2 : TypeId} {p1 p2 : Value}
    (hv1 : w.var? Tryd.prog "strconv.ErrSyntax" = some #[.iface t1 p1]) (hv2 : w.var? Tryd.prog "strconv.ErrRange" = some #[.iface t2 p2]) (hd : w.cell? ⟨6, 15, none⟩ = some (.int .u8 4)) {m : Int} (hm : w.cell? ⟨4, 0, none⟩ = some (.int .i64 m)) :
    Calls Tryd.prog 12 #[.string s] w fun e w' => ∃ v, e = .returned (.tuple #[v, .bool (gOk okH s)]) ∧ Gro w w' ∧ RG 32 okH fH s w w' v := by
  obtain ⟨i0, hi, hz0, hz1, hz2⟩ := info_parts info_f32r
  have V1 := Lib.hid (var_below hv1)
  have V2 := Lib.hid (var_below hv2)
  have HD := Lib.hid hd
  have HM := Lib.hid hm
  clear hv1 hv2 hd hm
  cases hn : isNone s
  case true =>
    have HO := Lib.hid (gOk_none (ok := okH) hn)
    have HV := Lib.hid (gV_none (f := fH) hn)
    have HN := Lib.hid hn
    clear hn
    go_enter Tryd.func12, Tryd.ntmps12
    go_wp2_with (go_at_call 29; refine (apart_none s HN.out _).mono ?_; rintro e w1 ⟨n, rfl, rfl⟩)
    go_loopw [6, 19] (fun v i wr => v = .slice (some ⟨w.heap.size, 0, none⟩) 0 0 ∧ i = .int .i64 0 ∧ wr = (w.drewN n).alloc (.cells #[] 32)) (fun _ _ _ => 0)
    case atStart => exact ⟨rfl, rfl, rfl⟩
    case round =>
      obtain ⟨rfl, rfl, rfl⟩ := hrel
      go_wp2
      go_ret2
      exact ⟨.slice (some ⟨w.heap.size, 0, none⟩) 0 0, by rw [HO.out]; rfl, Gro.alloc (Gro.drewN (Gro.refl _) _) _, .inl ⟨HO.out, by simp, by rw [HV.out]; exact ownsRow_empty (w := w.drewN n) (Nat.le_refl _)⟩⟩
  have HN := Lib.hid hn
  have hps := Lib.hid (pieces_size s)
  have ap := Lib.hid (apart_c s hn w hs HM.out)
  clear hn
  by_cases hl : (pieces s).length ≤ 256
  case neg =>
    have HO := Lib.hid (gOk_long (ok := okH) HN.out (by omega))
    have hlen : 256 < (pieces s).length := by omega
    rw [decide_eq_false hl] at ap
    clear hl
    obtain ⟨p, hp⟩ : ∃ p, (pieces s)[0]? = some p := ⟨_, List.getElem?_eq_getElem (by omega)⟩
    have HP := Lib.hid hp
    have hpz : p.size ≤ 1048576 := Nat.le_trans (hps.out p (List.mem_of_getElem? hp)) hs
    clear hp
    go_enter Tryd.func12, Tryd.ntmps12
    go_wp2_with (go_at_call 29; refine ap.out.mono ?_; rintro e w1 ⟨g, cap, rfl, hc, ⟨cur, hcur⟩, hg⟩; have HC := Lib.hid hc; clear hc)
    have c0 : w1.cell? ⟨g, 0, none⟩ = some (.string p) := HC.out 0 p HP.out
    go_loopw [6, 19] (fun v i wr => v = .slice (some ⟨w1.heap.size, 0, none⟩) 0 0 ∧ i = .int .i64 0 ∧ wr = w1.alloc (.cells #[] 32)) (fun _ _ _ => 0)
    case atStart => exact ⟨rfl, rfl, rfl⟩
    case round =>
      obtain ⟨rfl, rfl, rfl⟩ := hrel
      have hga : Gro w (w1.alloc (.cells #[] 32)) := hg.alloc _
      have c1 : (w1.alloc (.cells #[] 32)).cell? ⟨g, 0, none⟩ = some (.string p) := Gro.cell ((Gro.refl w1).alloc _) c0
      generalize w1.alloc (.cells #[] 32) = W2 at hga c1 ⊢
      go_wp2_with (go_at_call 30; refine (readDigits_c p hpz _ (V1.out _ hga) (V2.out _ hga) (Gro.cell hga HD.out)).mono ?_; rintro e w3 ⟨u, rfl, -, hg3⟩)
      all_goals
        go_ret2
        exact ⟨.slice none 0 0, by rw [HO.out]; rfl, Gro.trans hga hg3, .inr ⟨HO.out, rfl⟩⟩
  case pos =>
  rw [decide_eq_true hl] at ap
  go_enter Tryd.func12, Tryd.ntmps12
  go_wp2_with (go_at_call 29; refine ap.out.mono ?_; rintro e w1 ⟨g, cap, rfl, hc, ⟨cur, hcur⟩, hg⟩; have HC := Lib.hid hc; clear hc)
  have hgw : Gro w (w1.alloc (.cells #[] 32)) := hg.alloc _
  go_loopw [6, 19] (fun v i wr => ∃ k : Nat, k ≤ (pieces s).length ∧ i = .int .i64 (k : Int) ∧ (∀ (j : Nat) p, j < k → (pieces s)[j]? = some p → okH p = true) ∧ wr.ownsRow w.heap.size 32 1 v k (gC fH (pieces s) k) ∧ v ≠ .slice none 0 0 ∧ Gro w wr ∧ wr.heap[g]? = some (.cells cur 9 (0, 0))) (fun _ i _ => (pieces s).length - (intOf i).toNat)
  case atStart => exact ⟨0, Nat.zero_le _, rfl, fun j p h => absurd h (Nat.not_lt_zero _), ownsRow_empty hg.size, by simp, hgw, (block_gro ((Gro.refl w1).alloc _) hcur).trans hcur⟩
  case round =>
    obtain ⟨k, hk, rfl, hall, hown, hne, hgr, hgc⟩ := hrel
    have HA := Lib.hid hall
    clear hall
    by_cases hlt : k < (pieces s).length
    · obtain ⟨p, hp⟩ : ∃ p, (pieces s)[k]? = some p := ⟨_, List.getElem?_eq_getElem hlt⟩
      have c0 : wr.cell? ⟨g, k, none⟩ = some (.string p) := (cell_block (hgc.trans hcur.symm)).trans (HC.out k p hp)
      have HP := Lib.hid hp
      have hpz : p.size ≤ 1048576 := Nat.le_trans (hps.out p (List.mem_of_getElem? hp)) hs
      have hsz := hgr.size
      clear hp
      cases hok : okH p
      · have HK := Lib.hid hok
        have HO := Lib.hid (gOk_bad (ok := okH) HN.out HP.out hok)
        clear hok hown hne
        go_wp2_with (go_at_call 30; refine (readDigits_c p hpz _ (V1.out _ hgr) (V2.out _ hgr) (Gro.cell hgr HD.out)).mono ?_; rw [HK.out]; rintro e w2 ⟨u, rfl, -, hg2⟩)
        all_goals
          go_ret2
          exact ⟨.slice none 0 0, by rw [HO.out]; rfl, Gro.trans hgr hg2, .inr ⟨HO.out, rfl⟩⟩
      · have HK := Lib.hid hok
        clear hok
        go_wp2_with (first | (go_at_call 30; refine (readDigits_c p hpz _ (V1.out _ hgr) (V2.out _ hgr) (Gro.cell hgr HD.out)).mono ?_; rw [HK.out]; rintro e w2 ⟨u, rfl, hu, hg2⟩; obtain rfl := hu rfl) | (at_builtin; refine wpList_append_own _ rfl _ _ 22 rfl w.heap.size 32 i0 (.float .f32 0) 1 4 Tryd.underlying22 hi hz0 hz1 hz2 rfl (by decide) _ _ _ rfl ((own_gro hown hg2).alloc _) ⟨w2.heap.size, 0, none⟩ 1 1 [.float .f32 (valH p)] rfl rfl (cell_new1 _ _ _) (fun x hx => by simp at hx; subst hx; rfl) (by unfold maxLen; omega) (by omega) (by have := hg2.size; simp; omega) ?_))
        intro v' w' hown' hgrow hnn
        have hne' : v' ≠ .slice none 0 0 := fun e => by simp [e] at hnn
        have hg' : Gro w w' := RowKit.Below.grown (Gro.alloc (Gro.trans hgr hg2) _) hgrow (by have := hg2.size; simp; omega) (fun j hj => (World.ownsRow.lt hown j hj).1)
        rw [show (Value.float .f32 (valH p)) = fH p from rfl, gC_snoc HP.out] at hown'
        have HB := Lib.hid (block_append ((block_gro hg2 hgc).trans hgc) hown hgc (by decide) hgrow)
        have HW := Lib.hid hown'
        have HE := Lib.hid hne'
        have HG := Lib.hid hg'
        clear hown' hgrow hnn hne' hg' hown hne
        go_wp2
        go_roundw
        case rel =>
          refine ⟨k + 1, by omega, by go_num, fun j q hj hq => ?_, HW.out, HE.out, HG.out, HB.out⟩
          rcases Nat.lt_or_eq_of_le (Nat.le_of_lt_succ hj) with h | rfl
          · exact HA.out j q h hq
          · rw [HP.out] at hq
            cases hq
            exact HK.out
        case measure => simp [intOf]; omega
    · obtain rfl : k = (pieces s).length := by omega
      have HO := Lib.hid (gOk_yes (ok := okH) HN.out (by omega) HA.out)
      rw [gC_all fH s HN.out] at hown
      have HW := Lib.hid hown
      have HE := Lib.hid hne
      have HL := Lib.hid (gV_len fH s HN.out)
      clear hown hne
      go_wp2
      go_ret2
      exact ⟨_, by rw [HO.out]; rfl, hgr, .inl ⟨HO.out, HE.out, by rw [HL.out]; exact HW.out⟩⟩

-- @has implReadComplex
set_option maxRecDepth 100000 in
set_option maxHeartbeats 4000000 in
theorem implReadComplex_c (s : ByteArray) (w : World) (hs : s.size ≤ 1048576) {t1 t2 : TypeId} {p1 p2 : Value}
    (hv1 : w.var? Tryd.prog "strconv.ErrSyntax" = some #[.iface t1 p1]) (hv2 : w.var? Tryd.prog "strconv.ErrRange" = some #[.iface t2 p2]) (hd : w.cell? ⟨6, 15, none⟩ = some (.int .u8 4)) {m : Int} (hm : w.cell? ⟨4, 0, none⟩ = some (.int .i64 m)) :
    Calls Tryd.prog 19 #[.string s] w fun e w' => ∃ v, e = .returned (.tuple #[v, .bool (gOk okC s)]) ∧ Gro w w' ∧ RG 53 okC cH s w w' v := by
  obtain ⟨i0, hi, hz0, hz1, hz2⟩ := info_parts info_c64r
  have V1 := Lib.hid (var_below hv1)
  have V2 := Lib.hid (var_below hv2)
  have HD := Lib.hid hd
  have HM := Lib.hid hm
  clear hv1 hv2 hd hm
  cases hn : isNone s
  case true =>
    have HO := Lib.hid (gOk_none (ok := okC) hn)
    have HV := Lib.hid (gV_none (f := cH) hn)
    have HN := Lib.hid hn
    clear hn
    go_enter Tryd.func19, Tryd.ntmps19
    go_wp2_with (go_at_call 29; refine (apart_none s HN.out _).mono ?_; rintro e w1 ⟨n, rfl, rfl⟩)
    go_loopw [6, 21] (fun v i wr => v = .slice (some ⟨w.heap.size, 0, none⟩) 0 0 ∧ i = .int .i64 0 ∧ wr = (w.drewN n).alloc (.cells #[] 53)) (fun _ _ _ => 0)
    case atStart => exact ⟨rfl, rfl, rfl⟩
    case round =>
      obtain ⟨rfl, rfl, rfl⟩ := hrel
      go_wp2
      go_ret2
      exact ⟨.slice (some ⟨w.heap.size, 0, none⟩) 0 0, by rw [HO.out]; rfl, Gro.alloc (Gro.drewN (Gro.refl _) _) _, .inl ⟨HO.out, by simp, by rw [HV.out]; exact ownsRow_empty (w := w.drewN n) (Nat.le_refl _)⟩⟩
  have HN := Lib.hid hn
  have hps := Lib.hid (pieces_size s)
  have ap := Lib.hid (apart_c s hn w hs HM.out)
  clear hn
  by_cases hl : (pieces s).length ≤ 256
  case neg =>
    have HO := Lib.hid (gOk_long (ok := okC) HN.out (by omega))
    have hlen : 256 < (pieces s).length := by omega
    rw [decide_eq_false hl] at ap
    clear hl
    obtain ⟨p, hp⟩ : ∃ p, (pieces s)[0]? = some p := ⟨_, List.getElem?_eq_getElem (by omega)⟩
    have HP := Lib.hid hp
    clear hp
    go_enter Tryd.func19, Tryd.ntmps19
    go_wp2_with (go_at_call 29; refine ap.out.mono ?_; rintro e w1 ⟨g, cap, rfl, hc, ⟨cur, hcur⟩, hg⟩; have HC := Lib.hid hc; clear hc)
    have c0 : w1.cell? ⟨g, 0, none⟩ = some (.string p) := HC.out 0 p HP.out
    go_loopw [6, 21] (fun v i wr => v = .slice (some ⟨w1.heap.size, 0, none⟩) 0 0 ∧ i = .int .i64 0 ∧ wr = w1.alloc (.cells #[] 53)) (fun _ _ _ => 0)
    case atStart => exact ⟨rfl, rfl, rfl⟩
    case round =>
      obtain ⟨rfl, rfl, rfl⟩ := hrel
      have hga : Gro w (w1.alloc (.cells #[] 53)) := hg.alloc _
      have c1 : (w1.alloc (.cells #[] 53)).cell? ⟨g, 0, none⟩ = some (.string p) := Gro.cell ((Gro.refl w1).alloc _) c0
      generalize w1.alloc (.cells #[] 53) = W2 at hga c1 ⊢
      go_wp2
      all_goals
        go_ret2
        exact ⟨.slice none 0 0, by rw [HO.out]; rfl, hga, .inr ⟨HO.out, rfl⟩⟩
  case pos =>
  rw [decide_eq_true hl] at ap
  go_enter Tryd.func19, Tryd.ntmps19
  go_wp2_with (go_at_call 29; refine ap.out.mono ?_; rintro e w1 ⟨g, cap, rfl, hc, ⟨cur, hcur⟩, hg⟩; have HC := Lib.hid hc; clear hc)
  have hgw : Gro w (w1.alloc (.cells #[] 53)) := hg.alloc _
  go_loopw [6, 21] (fun v i wr => ∃ k : Nat, k ≤ (pieces s).length ∧ i = .int .i64 (k : Int) ∧ (∀ (j : Nat) p, j < k → (pieces s)[j]? = some p → okC p = true) ∧ wr.ownsRow w.heap.size 53 1 v k (gC cH (pieces s) k) ∧ v ≠ .slice none 0 0 ∧ Gro w wr ∧ wr.heap[g]? = some (.cells cur 9 (0, 0))) (fun _ i _ => (pieces s).length - (intOf i).toNat)
  case atStart => exact ⟨0, Nat.zero_le _, rfl, fun j p h => absurd h (Nat.not_lt_zero _), ownsRow_empty hg.size, by simp, hgw, (block_gro ((Gro.refl w1).alloc _) hcur).trans hcur⟩
  case round =>
    obtain ⟨k, hk, rfl, hall, hown, hne, hgr, hgc⟩ := hrel
    have HA := Lib.hid hall
    clear hall
    by_cases hlt : k < (pieces s).length
    · obtain ⟨p, hp⟩ : ∃ p, (pieces s)[k]? = some p := ⟨_, List.getElem?_eq_getElem hlt⟩
      have c0 : wr.cell? ⟨g, k, none⟩ = some (.string p) := (cell_block (hgc.trans hcur.symm)).trans (HC.out k p hp)
      have HP := Lib.hid hp
      have hsz := hgr.size
      clear hp
      by_cases h8 : p.size = 16
      case neg =>
        have h8' : ((p.size : Int) == 16) = false := beq_eq_false_iff_ne.2 (by omega)
        have HO := Lib.hid (gOk_bad (ok := okC) HN.out HP.out (okC_size h8))
        clear hown hne
        go_wp2
        all_goals
          go_ret2
          exact ⟨.slice none 0 0, by rw [HO.out]; rfl, hgr, .inr ⟨HO.out, rfl⟩⟩
      have h8' : ((p.size : Int) == 16) = true := by rw [h8]; rfl
      have hpc := Lib.hid (okC_eq h8)
      have hcv := Lib.hid (show cH p = .complex .f32 (valH (p.extract 0 8)) (valH (p.extract 8 p.size)) from rfl)
      have hze := ext_size h8
      obtain ⟨A, hA⟩ : ∃ A, p.extract 0 8 = A := ⟨_, rfl⟩
      obtain ⟨B, hB⟩ : ∃ B, p.extract 8 p.size = B := ⟨_, rfl⟩
      rw [hA, hB] at hpc hcv hze
      have hB2 : p.extract 8 16 = B := by rw [← h8]; exact hB
      have D1 := Lib.hid (readDigits_c A (by omega) wr (V1.out _ hgr) (V2.out _ hgr) (Gro.cell hgr HD.out))
      have D2 : Hid (∀ w', Gro w w' → Calls Tryd.prog 30 #[.string B] w' fun e w'' => ∃ u, e = .returned (.tuple #[.float .f32 u, .bool (okH B)]) ∧ (okH B = true → u = valH B) ∧ Gro w' w'') := Lib.hid fun w' h => readDigits_c B (by omega) w' (V1.out _ h) (V2.out _ h) (Gro.cell h HD.out)
      clear hze
      go_wp2_with (first | (go_at_call 30; with_reducible refine D1.out.mono ?_; rintro e w2 ⟨u1, rfl, hu1, hg2⟩; have HU1 := Lib.hid hu1; clear hu1) | (go_at_call 30; with_reducible refine (D2.out _ (Gro.trans hgr hg2)).mono ?_; rintro e w3 ⟨u2, rfl, hu2, hg3⟩; have HU2 := Lib.hid hu2; clear hu2; refine Hid.out ?_))
      have hgd : Gro w w3 := Gro.trans (Gro.trans hgr hg2) hg3
      cases hoA : okH A
      case false =>
        have hbad : okC p = false := by rw [hpc.out, hoA]; rfl
        have HO := Lib.hid (gOk_bad (ok := okC) HN.out HP.out hbad)
        clear hown hne hoA hbad HU1 HU2
        cases okH B
        all_goals
          refine Lib.hid ?_
          go_wp2
          all_goals
            go_ret2
            exact ⟨.slice none 0 0, by rw [HO.out]; rfl, hgd, .inr ⟨HO.out, rfl⟩⟩
      cases hoB : okH B
      case false =>
        have hbad : okC p = false := by rw [hpc.out, hoA, hoB]; rfl
        have HO := Lib.hid (gOk_bad (ok := okC) HN.out HP.out hbad)
        clear hown hne hoA hoB hbad HU1 HU2
        refine Lib.hid ?_
        go_wp2
        all_goals
          go_ret2
          exact ⟨.slice none 0 0, by rw [HO.out]; rfl, hgd, .inr ⟨HO.out, rfl⟩⟩
      have hok : okC p = true := by rw [hpc.out, hoA, hoB]; rfl
      obtain rfl := HU1.out hoA
      obtain rfl := HU2.out hoB
      have HK := Lib.hid hok
      have hgr3 := Gro.trans hg2 hg3
      clear hok hoA hoB HU1 HU2 D1 D2 hA hB hB2
      have hown3 : w3.ownsRow w.heap.size 53 1 u6 k (gC cH (pieces s) k) := own_gro hown hgr3
      have hgc3 : w3.heap[g]? = some (.cells cur 9 (0, 0)) := (block_gro hgr3 hgc).trans hgc
      have hsz3 : w.heap.size ≤ w3.heap.size := hgd.size
      clear hown hgc c0 hg2 hg3 hgr3
      refine Lib.hid ?_
      go_wp2_with (at_builtin; refine wpList_append_own _ rfl _ _ 38 rfl w.heap.size 53 i0 (.complex .f32 0 0) 1 8 Tryd.underlying38 hi hz0 hz1 hz2 rfl (by decide) _ _ _ rfl (hown3.alloc _) ⟨w3.heap.size, 0, none⟩ 1 1 [.complex .f32 (valH A) (valH B)] rfl rfl (cell_new1 _ _ _) (fun x hx => by simp at hx; subst hx; rfl) (by unfold maxLen; omega) (by omega) (by simp; omega) ?_)
      intro v' w' hown' hgrow hnn
      have hne' : v' ≠ .slice none 0 0 := fun e => by simp [e] at hnn
      have hg' : Gro w w' := RowKit.Below.grown (Gro.alloc hgd _) hgrow (by simp; omega) (fun j hj => (World.ownsRow.lt hown3 j hj).1)
      rw [← hcv.out, gC_snoc HP.out] at hown'
      have HB := Lib.hid (block_append (w2 := w3) hgc3 hown3 hgc3 (by decide) hgrow)
      have HW := Lib.hid hown'
      have HE := Lib.hid hne'
      have HG := Lib.hid hg'
      clear hown' hgrow hnn hne' hg' hown3 hne
      go_wp2
      go_roundw
      case rel =>
        refine ⟨k + 1, by omega, by go_num, fun j q hj hq => ?_, HW.out, HE.out, HG.out, HB.out⟩
        rcases Nat.lt_or_eq_of_le (Nat.le_of_lt_succ hj) with h | rfl
        · exact HA.out j q h hq
        · rw [HP.out] at hq
          cases hq
          exact HK.out
      case measure => simp [intOf]; omega
    · obtain rfl : k = (pieces s).length := by omega
      have HO := Lib.hid (gOk_yes (ok := okC) HN.out (by omega) HA.out)
      rw [gC_all cH s HN.out] at hown
      have HW := Lib.hid hown
      have HE := Lib.hid hne
      have HL := Lib.hid (gV_len cH s HN.out)
      clear hown hne
      go_wp2
      go_ret2
      exact ⟨_, by rw [HO.out]; rfl, hgr, .inl ⟨HO.out, HE.out, by rw [HL.out]; exact HW.out⟩⟩

-- @has markComplex64S
set_option maxHeartbeats 2000000 in
set_option maxRecDepth 10000 in
theorem markComplex64S_c (g n cap : Nat) (V : Nat → Value) (w : World) (h : w.rowIs g 53 cap V) (hn : n ≤ cap) (h64 : n ≤ 256) :
    Calls Tryd.prog 21 #[.slice (some ⟨g, 0, none⟩) n cap, .int .i64 1] w fun e w' => e = .returned (.int .i64 (1 + (n : Int))) ∧ w'.rowIs g 53 cap (fun j => if j < n then .complex .f32 (mkF j) 1065353216 else V j) ∧ ∀ B, B ≤ g → RowKit.Below B w w' := by
  go_enter Tryd.func21, Tryd.ntmps21
  go_wp2
  go_loopw [1, 5] (fun m i wr => ∃ k : Nat, k ≤ n ∧ i = .int .i64 (k : Int) ∧ m = .int .i64 (1 + (k : Int)) ∧ wr.rowIs g 53 cap (fun j => if j < k then .complex .f32 (mkF j) 1065353216 else V j) ∧ ∀ B, B ≤ g → RowKit.Below B w wr) (fun _ i _ => n - (intOf i).toNat)
  case atStart => exact ⟨0, Nat.zero_le _, rfl, rfl, h.congr fun j _ => by simp, fun B _ => RowKit.Below.refl _ _⟩
  case round =>
    obtain ⟨k, hk, rfl, rfl, hrow, hB⟩ := hrel
    have HB := Lib.hid hB
    clear hB
    by_cases hlt : k < n
    · have HK := Lib.hid (mkC (j := k) (by omega))
      have c1 := hrow.cell (i := k) (by omega)
      have c2 := hrow.frozen k
      generalize hF : floatOfInt .f64 (1 + (k : Int)) = F at HK
      go_wp2_with (refine wpList_cnarrow _ _ _ _ rfl _ _ rfl Tryd.underlying53 (by rw [Tryd.underlying55]; rfl) rfl HK.out.1 mkOne.1 ?_; intro b c n1 hb hc; rw [HK.out.2] at hb; rw [mkOne.2] at hc; obtain ⟨rfl, -⟩ := cl_some hb; obtain ⟨rfl, -⟩ := cl_some hc)
      go_roundw
      case rel =>
        refine ⟨k + 1, by omega, by go_num, by go_num, rowIs_drewN ((hrow.set k _).congr fun j _ => ?_) _, fun B hB => below_drewN ((HB.out B hB).setCell hB _) _⟩
        by_cases e : j = k
        · subst e; simp
        · have : (j < k + 1) = (j < k) := by apply propext; omega
          simp [e, this]
      case measure => simp [intOf]; omega
    · obtain rfl : k = n := by omega
      go_wp2
      go_ret
      exact ⟨rfl, hrow, HB.out⟩
theorem markNilC_c (w : World) : Calls Tryd.prog 21 #[.slice none 0 0, .int .i64 1] w (RetV (.int .i64 1) w) := by
  go_enter Tryd.func21, Tryd.ntmps21
  go_wp2
  go_loopw [1, 5] (fun m i wr => i = .int .i64 0 ∧ m = .int .i64 1 ∧ wr = w) (fun _ _ _ => 0)
  case atStart => exact ⟨rfl, rfl, rfl⟩
  case round =>
    obtain ⟨rfl, rfl, rfl⟩ := hrel
    go_wp2
    go_ret
    exact ⟨0, rfl, rfl⟩
set_option maxHeartbeats 2000000 in
set_option maxRecDepth 10000 in
theorem heldComplex64S_c (g n cap : Nat) (V : Nat → Value) (w : World) (h : w.rowIs g 53 cap V) (hn : n ≤ cap) (h64 : n ≤ 256) (hV : ∀ j, j < n → V j = .complex .f32 (mkF j) 1065353216) :
    Calls Tryd.prog 22 #[.slice (some ⟨g, 0, none⟩) n cap, .int .i64 1] w (RetV (.int .i64 (1 + (n : Int))) w) := by
  go_enter Tryd.func22, Tryd.ntmps22
  go_wp2
  go_loopw [1, 5] (fun m i wr => ∃ k q : Nat, k ≤ n ∧ i = .int .i64 (k : Int) ∧ m = .int .i64 (1 + (k : Int)) ∧ wr = w.drewN q) (fun _ i _ => n - (intOf i).toNat)
  case atStart => exact ⟨0, 0, Nat.zero_le _, rfl, rfl, rfl⟩
  case round =>
    obtain ⟨k, q, hk, rfl, rfl, rfl⟩ := hrel
    by_cases hlt : k < n
    · have HK := Lib.hid (mkC (j := k) (by omega))
      have hf := mkF_some (j := k) (by omega)
      have hs := ford_self hf
      have h1 : cl .f32 1065353216 = some 1065353216 := by decide
      have hs1 := ford_self h1
      have c1 : w.cell? ⟨g, k, none⟩ = some (.complex .f32 (mkF k) 1065353216) := by rw [← hV k hlt]; exact h.cell (by omega)
      generalize hF : floatOfInt .f64 (1 + (k : Int)) = F at HK
      generalize mkF k = M at *
      clear h hV
      go_wp2_with (refine wpList_cnarrow _ _ _ _ rfl _ _ rfl Tryd.underlying53 (by rw [Tryd.underlying55]; rfl) rfl HK.out.1 mkOne.1 ?_; intro b c n1 hb hc; rw [HK.out.2] at hb; rw [mkOne.2] at hc; obtain ⟨rfl, -⟩ := cl_some hb; obtain ⟨rfl, -⟩ := cl_some hc)
      go_roundw
      case rel => exact ⟨k + 1, _, by omega, by go_num, by go_num, rfl⟩
      case measure => simp [intOf]; omega
    · obtain rfl : k = n := by omega
      go_wp2
      go_ret
      exact ⟨_, rfl, rfl⟩
theorem heldNilC_c (w : World) : Calls Tryd.prog 22 #[.slice none 0 0, .int .i64 1] w (RetV (.int .i64 1) w) := by
  go_enter Tryd.func22, Tryd.ntmps22
  go_wp2
  go_loopw [1, 5] (fun m i wr => i = .int .i64 0 ∧ m = .int .i64 1 ∧ wr = w) (fun _ _ _ => 0)
  case atStart => exact ⟨rfl, rfl, rfl⟩
  case round =>
    obtain ⟨rfl, rfl, rfl⟩ := hrel
    go_wp2
    go_ret
    exact ⟨0, rfl, rfl⟩

-- @has sameFloat
set_option maxHeartbeats 400000 in
theorem sameFloat_true (a b : Nat) (h : cl .f64 a = cl .f64 b) (w : World) :
    Calls Tryd.prog 27 #[.float .f64 a, .float .f64 b] w (RetV (.bool true) w) := by
  generalize hb : cl .f64 b = c at h
  rcases c with _ | c
  · go_enter Tryd.func27, Tryd.ntmps27
    go_wp2
    go_ret
    exact ⟨0, rfl, rfl⟩
  · have hs := ford_self h
    rcases h0 : ford .f64 (some c) (cl .f64 0) with _ | (_ | _ | _)
    all_goals
      go_enter Tryd.func27, Tryd.ntmps27
      go_wp2_with (refine wpList_farith _ _ _ _ _ _ rfl rfl _ _ _ rfl rfl rfl ?_; intro b1 n1 h1)
      go_ret
      first | exact ⟨0, rfl, rfl⟩ | exact ⟨_, rfl, rfl⟩

-- @has eqComplex64S
theorem sameComplexC_true (a b c d : Nat) (h1 : cl .f64 a = cl .f64 c) (h2 : cl .f64 b = cl .f64 d) (w : World) : Calls Tryd.prog 33 #[.complex .f64 a b, .complex .f64 c d] w (RetV (.bool true) w) := by
  have H1 := Lib.hid h1
  have H2 := Lib.hid h2
  clear h1 h2
  go_enter Tryd.func33, Tryd.ntmps33
  go_wp2_with (first | (go_at_call 27; refine (sameFloat_true _ _ (by with_reducible exact H1.out) _).mono ?_; rintro e w1 ⟨n, rfl, rfl⟩) | (go_at_call 27; refine (sameFloat_true _ _ (by with_reducible exact H2.out) _).mono ?_; rintro e w1 ⟨n, rfl, rfl⟩))
  all_goals
    go_ret
    exact ⟨_, rfl, rfl⟩
set_option maxHeartbeats 2000000 in
set_option maxRecDepth 10000 in
theorem eqComplex64S_true (a b : Option Addr) (len ca cb : Nat) (R I : Nat → Nat) (w : World) (h1 : SlAt w a len fun j => .complex .f32 (R j) (I j)) (h2 : SlAt w b len fun j => .complex .f32 (R j) (I j)) :
    Calls Tryd.prog 20 #[.slice a len ca, .slice b len cb] w fun e w' => e = .returned (.bool true) ∧ Gro w w' := by
  have hm := h1.1
  unfold maxLen at hm
  go_enter Tryd.func20, Tryd.ntmps20
  go_wp2
  go_loopw [5] (fun i wr => ∃ k : Nat, k ≤ len ∧ i = .int .i64 k ∧ Gro w wr) (fun i _ => len - (intOf i).toNat)
  case atStart => exact ⟨0, Nat.zero_le _, rfl, Gro.refl _⟩
  case round =>
    obtain ⟨k, hk, rfl, hg⟩ := hrel
    by_cases hlt : k < len
    · obtain ⟨b1, o1, rfl, hc1⟩ := h1.2 (by omega)
      obtain ⟨b2, o2, rfl, hc2⟩ := h2.2 (by omega)
      have c0 : wr.cell? ⟨b1, o1 + k, none⟩ = some (.complex .f32 (R k) (I k)) := hg.cell (hc1 k hlt)
      have c1 : wr.cell? ⟨b2, o2 + k, none⟩ = some (.complex .f32 (R k) (I k)) := hg.cell (hc2 k hlt)
      clear hc1 hc2 h1 h2
      go_upto_region 6 with fail
      go_cut [28] (fun s28 wx => s28 = .bool false ∧ Gro w wx)
      case first =>
        go_region_with (first | (refine upon_cwiden _ _ _ _ _ Tryd.underlying55 (by rw [Tryd.underlying53]; rfl) ?_; intro b1 n1 k1 h1 h2) | (refine wpList_cwiden _ _ _ _ rfl _ _ rfl Tryd.underlying55 (by rw [Tryd.underlying53]; rfl) rfl ?_; intro b1 n1 k1 h1 h2) | (go_at_call 33; refine (sameComplexC_true _ _ _ _ (by simp only [*]) (by simp only [*]) _).mono ?_; rintro e w1 ⟨n, rfl, rfl⟩))
        all_goals
          go_wp2_with fail
          go_meet
          exact ⟨rfl, by (repeat (first | assumption | apply Gro.drewN | apply Gro.drew))⟩
      case rest =>
        obtain ⟨rfl, hg2⟩ := hcut
        go_wp2
        go_roundw
        case rel => exact ⟨k + 1, by omega, by go_num, hg2⟩
        case measure => simp [intOf]; omega
    · have : k = len := by omega
      subst this
      go_wp2
      go_ret
      exact ⟨rfl, hg⟩

-- @has FnExactReadComplex
theorem specReadComplex_c (s : ByteArray) (w : World) (hs : s.size ≤ 1048576) :
    Calls Tryd.prog 18 #[.string s] w fun e w' => ∃ v, e = .returned (.tuple #[v, .bool (gOk okC s)]) ∧ Gro w w' ∧ RG 53 okC cH s w w' v := by
  go_enter Tryd.func18, Tryd.ntmps18
  go_wp2_with (go_at_call 32; refine (l01CRead_c _ _ hs).mono ?_; rintro e w1 ⟨v, rfl, hg, hR⟩; have HR := Lib.hid hR; clear hR)
  go_ret2
  exact ⟨_, rfl, hg, HR.out⟩
set_option maxHeartbeats 4000000 in
theorem walk_FnExactReadComplex (s : ByteArray) (hz : s.size ≤ maxLen) (w : World) (hd : w.cell? ⟨6, 15, none⟩ = some (.int .u8 4)) {t1 t2 : TypeId} {p1 p2 : Value}
    (hv1 : w.var? Tryd.prog "strconv.ErrSyntax" = some #[.iface t1 p1]) (hv2 : w.var? Tryd.prog "strconv.ErrRange" = some #[.iface t2 p2]) (hmx : ∃ m, w.cell? ⟨4, 0, none⟩ = some (.int .i64 m)) :
    Calls Tryd.prog 6 #[.string s] w fun e w' => e = .returned (.bool true) ∧ Below w.heap.size w w' := by
  obtain ⟨m, hm⟩ := hmx
  unfold maxLen at hz
  by_cases h : 1048576 < s.size
  · have h' : (1048576 : Int) < s.size := by omega
    clear hd hv1 hv2 hm
    go_enter Tryd.func6, Tryd.ntmps6
    go_wp2
    all_goals
      go_ret
      exact ⟨rfl, Below.refl _ _⟩
  have h' : ¬ (1048576 : Int) < s.size := by omega
  have hs : s.size ≤ 1048576 := by omega
  have V1 := Lib.hid (var_below hv1)
  have V2 := Lib.hid (var_below hv2)
  have HD := Lib.hid hd
  have HM := Lib.hid hm
  clear hd hv1 hv2 hm hz h
  cases hok : gOk okC s
  · have HK := Lib.hid hok
    go_enter Tryd.func6, Tryd.ntmps6
    go_wp2_with (first | (go_at_call 18; refine (specReadComplex_c _ _ hs).mono ?_; rw [HK.out]; rintro e w1 ⟨v, rfl, hg, hR⟩; obtain rfl : v = .slice none 0 0 := hR.elim (fun x => absurd x.1 (by rw [HK.out]; decide)) (fun x => x.2); clear hR) | (go_at_call 19; refine (implReadComplex_c _ _ hs (V1.out _ (by repeat (first | with_reducible exact Gro.refl _ | with_reducible apply Gro.drewN | with_reducible apply Gro.drew | with_reducible apply Gro.alloc | with_reducible refine Gro.setCell ?_ (by dsimp only; omega) _ | refine Gro.trans ?_ (by assumption)))) (V2.out _ (by repeat (first | with_reducible exact Gro.refl _ | with_reducible apply Gro.drewN | with_reducible apply Gro.drew | with_reducible apply Gro.alloc | with_reducible refine Gro.setCell ?_ (by dsimp only; omega) _ | refine Gro.trans ?_ (by assumption)))) (Gro.cell (a := w) (by repeat (first | with_reducible exact Gro.refl _ | with_reducible apply Gro.drewN | with_reducible apply Gro.drew | with_reducible apply Gro.alloc | with_reducible refine Gro.setCell ?_ (by dsimp only; omega) _ | refine Gro.trans ?_ (by assumption))) HD.out) (Gro.cell (a := w) (by repeat (first | with_reducible exact Gro.refl _ | with_reducible apply Gro.drewN | with_reducible apply Gro.drew | with_reducible apply Gro.alloc | with_reducible refine Gro.setCell ?_ (by dsimp only; omega) _ | refine Gro.trans ?_ (by assumption))) HM.out)).mono ?_; rw [HK.out]; rintro e w1 ⟨v, rfl, hg, hR⟩; obtain rfl : v = .slice none 0 0 := hR.elim (fun x => absurd x.1 (by rw [HK.out]; decide)) (fun x => x.2); clear hR) | (go_at_call 20; refine (eqComplex64S_true none none 0 0 0 (fun _ => 0) (fun _ => 0) _ ⟨Nat.zero_le _, fun h => absurd h (Nat.lt_irrefl _)⟩ ⟨Nat.zero_le _, fun h => absurd h (Nat.lt_irrefl _)⟩).mono ?_; rintro e w1 ⟨rfl, hg⟩) | (go_at_call 21; refine (markNilC_c _).mono ?_; rintro e w1 ⟨n, rfl, rfl⟩) | (go_at_call 22; refine (heldNilC_c _).mono ?_; rintro e w1 ⟨n, rfl, rfl⟩))
    all_goals
      go_ret
      exact ⟨rfl, by show Gro w _; (repeat (first | with_reducible exact Gro.refl _ | with_reducible apply Gro.drewN | with_reducible apply Gro.drew | refine Gro.trans ?_ (by assumption)))⟩
  · have HK := Lib.hid hok
    have h64 := gV_256 cH hok
    go_enter Tryd.func6, Tryd.ntmps6
    go_wp2_with (first | (go_at_call 18; refine (specReadComplex_c _ _ hs).mono ?_; rw [HK.out]; rintro e w1 ⟨v0, rfl, hg1, hR0⟩; have HR0 := Lib.hid hR0; clear hR0) | (go_at_call 19; refine (implReadComplex_c _ _ hs (V1.out _ (by repeat (first | with_reducible exact Gro.refl _ | with_reducible apply Gro.drewN | with_reducible apply Gro.drew | with_reducible apply Gro.alloc | with_reducible refine Gro.setCell ?_ (by dsimp only; omega) _ | refine Gro.trans ?_ (by assumption)))) (V2.out _ (by repeat (first | with_reducible exact Gro.refl _ | with_reducible apply Gro.drewN | with_reducible apply Gro.drew | with_reducible apply Gro.alloc | with_reducible refine Gro.setCell ?_ (by dsimp only; omega) _ | refine Gro.trans ?_ (by assumption)))) (Gro.cell (a := w) (by repeat (first | with_reducible exact Gro.refl _ | with_reducible apply Gro.drewN | with_reducible apply Gro.drew | with_reducible apply Gro.alloc | with_reducible refine Gro.setCell ?_ (by dsimp only; omega) _ | refine Gro.trans ?_ (by assumption))) HD.out) (Gro.cell (a := w) (by repeat (first | with_reducible exact Gro.refl _ | with_reducible apply Gro.drewN | with_reducible apply Gro.drew | with_reducible apply Gro.alloc | with_reducible refine Gro.setCell ?_ (by dsimp only; omega) _ | refine Gro.trans ?_ (by assumption))) HM.out)).mono ?_; rw [HK.out]; rintro e w2 ⟨v1, rfl, hg2, hR1⟩; have HR1 := Lib.hid hR1; clear hR1; refine Hid.out ?_))
    refine Lib.hid ?_
    have hno : ¬ gOk okC s = false := by rw [hok]; decide
    obtain ⟨-, n0, o0⟩ := HR0.out.resolve_right (fun x => hno x.1)
    obtain ⟨-, n1, o1⟩ := HR1.out.resolve_right (fun x => hno x.1)
    obtain ⟨g0, cap0, Y0, rfl, b0, le0, mx0, row0, val0⟩ := own_rowV o0 n0
    obtain ⟨g1, cap1, Y1, rfl, b1, le1, mx1, row1, val1⟩ := own_rowV o1 n1
    have S0 : SlAt w1 (some ⟨g0, 0, none⟩) (gV cH s).length (fun j => .complex .f32 (cR s j) (cI s j)) := row_SlAt row0 le0 mx0 (fun j hj => val0 j _ (gV_cH s j hj))
    have S1 : SlAt w2 (some ⟨g1, 0, none⟩) (gV cH s).length (fun j => .complex .f32 (cR s j) (cI s j)) := row_SlAt row1 le1 mx1 (fun j hj => val1 j _ (gV_cH s j hj))
    clear n0 o0 n1 o1 val0 val1 row0 hok hno HR0 HR1
    go_wp2_with (first | (go_at_call 20; refine (eqComplex64S_true _ _ _ _ _ _ _ _ S1 (S0.keep hg2)).mono ?_; rintro e w3 ⟨rfl, hg3⟩) | (go_at_call 21; refine (markComplex64S_c g1 _ cap1 Y1 _ (rowIs_keep row1 hg3) le1 h64).mono ?_; rintro e w4 ⟨rfl, row4, hB4⟩; refine Hid.out ?_))
    refine Lib.hid ?_
    have hg4 : Gro w1 w4 := RowKit.Below.trans (Gro.trans hg2 hg3) (hB4 _ b1)
    have HV : Hid (∀ j, j < (gV cH s).length → (if j < (gV cH s).length then Value.complex .f32 (mkF j) 1065353216 else Y1 j) = .complex .f32 (mkF j) 1065353216) := Lib.hid fun j hj => if_pos hj
    have RW := Lib.hid row4
    have HS := Lib.hid S0
    clear row1 row4 hB4 S0 S1
    go_wp2_with (first | (go_at_call 22; refine (heldComplex64S_c g1 _ cap1 _ _ RW.out le1 h64 HV.out).mono ?_; rintro e w5 ⟨k2, rfl, rfl⟩) | (go_at_call 19; refine (implReadComplex_c _ _ hs (V1.out _ (Gro.drewN (Gro.trans hg1 hg4) _)) (V2.out _ (Gro.drewN (Gro.trans hg1 hg4) _)) (Gro.cell (a := w) (Gro.drewN (Gro.trans hg1 hg4) _) HD.out) (Gro.cell (a := w) (Gro.drewN (Gro.trans hg1 hg4) _) HM.out)).mono ?_; rw [HK.out]; rintro e w6 ⟨v2, rfl, hg6, hR2⟩; have HR2 := Lib.hid hR2; clear hR2; refine Hid.out ?_))
    refine Lib.hid ?_
    obtain ⟨-, n2, o2⟩ := HR2.out.resolve_right (fun x => absurd x.1 (by rw [HK.out]; decide))
    obtain ⟨g2, cap2, Y2, rfl, b2, le2, mx2, row2, val2⟩ := own_rowV o2 n2
    have S2 : SlAt w6 (some ⟨g2, 0, none⟩) (gV cH s).length (fun j => .complex .f32 (cR s j) (cI s j)) := row_SlAt row2 le2 mx2 (fun j hj => val2 j _ (gV_cH s j hj))
    have hg16 : Gro w1 w6 := Gro.trans (Gro.drewN hg4 _) hg6
    have R6 := Lib.hid (rowIs_keep (rowIs_drewN RW.out _) hg6)
    clear n2 o2 val2 row2 HR2
    go_wp2_with (first | (go_at_call 20; refine (eqComplex64S_true _ _ _ _ _ _ _ _ S2 (HS.out.keep hg16)).mono ?_; rintro e w7 ⟨rfl, hg7⟩) | (go_at_call 22; refine (heldComplex64S_c g1 _ cap1 _ _ (rowIs_keep R6.out hg7) le1 h64 HV.out).mono ?_; rintro e w8 ⟨k6, rfl, rfl⟩))
    all_goals
      go_ret
      exact ⟨rfl, by show Gro w _; (repeat (first | with_reducible exact Gro.refl _ | with_reducible apply Gro.drewN | with_reducible apply Gro.drew | refine Gro.trans ?_ (by assumption)))⟩

end Go.Proofs.YtaakellldlamaaaDoor
