/- Contracts of Go functions: what each returns, as a class of words, whatever the world. -/
import Derived.Test.YthcgbpidnaimmaaGreatDoorNum
import Derived.Test.YthcgbpidnaimmaaGreatDoorShs
import Derived.Test.YthcgbpidnaimmaaGreatDoorProg
import Derived.BigQuiet
import Derived.Deep.QuietTactic
import Derived.Deep.RegionHeld3
import Derived.Deep.DeepFit
import Derived.WalkSpells
import Derived.Lib.Hide
import Derived.WalkSmall
import Derived.Deep.DeepCutAuto
namespace Go.Proofs.YthcgbpidnaimmaaGreatDoor
open Go.RowKit Go.Fl
set_option maxRecDepth 20000

-- @has b10
theorem b10Long_c (a a' : Option Addr) (len cap len' cap' : Nat) (hl : len ≤ maxLen) (hl' : len' ≤ maxLen) (w : World) : Calls Tryz.prog 5 #[.slice a len cap, .slice a' len' cap'] w (RetV (.bool (decide (1048576 < len) || decide (1048576 < len'))) w) := by
  unfold maxLen at hl hl'
  by_cases h1 : 1048576 < len
  · have g1 : (1048576 : Int) < len := by omega
    rw [decide_eq_true h1]
    go_enter Tryz.func5, Tryz.ntmps5
    go_wp2
    all_goals
      go_ret
      exact ⟨0, rfl, rfl⟩
  · have g1 : ¬ (1048576 : Int) < len := by omega
    rw [decide_eq_false h1]
    by_cases h2 : 1048576 < len'
    · have g2 : (1048576 : Int) < len' := by omega
      rw [decide_eq_true h2]
      go_enter Tryz.func5, Tryz.ntmps5
      go_wp2
      all_goals
        go_ret
        exact ⟨0, rfl, rfl⟩
    · have g2 : ¬ (1048576 : Int) < len' := by omega
      rw [decide_eq_false h2]
      go_enter Tryz.func5, Tryz.ntmps5
      go_wp2
      all_goals
        go_ret
        exact ⟨0, rfl, rfl⟩
theorem b10At_c (a : Option Addr) (len cap : Nat) (Z : Nat → Int) (w : World) (h : SlI .u8 w a len Z) (hZ : ∀ j, j < len → 0 ≤ Z j ∧ Z j ≤ 255) (i : Nat) (m : Int) (hi : i < 1000) (hm : 2 ≤ m) (hm2 : m ≤ 1000000) :
    Calls Tryz.prog 16 #[.slice a len cap, .int .i64 (i : Int), .int .i64 m] w fun e w' => ∃ v : Nat, (v : Int) < m ∧ RetV (.int .i64 (v : Int)) w e w' := by
  have hl := h.1
  unfold maxLen at hl
  have g0 : ¬ m ≤ 1 := by omega
  have gz : ¬ m = 0 := by omega
  have tm : ∀ z : Int, 0 ≤ z % m ∧ z % m < m := fun z => ⟨Int.emod_nonneg _ (by omega), Int.emod_lt_of_pos _ (by omega)⟩
  by_cases hlt : i < len
  · obtain ⟨g, off, rfl, hc⟩ := h.2 (by omega)
    have c0 := hc i hlt
    obtain ⟨z0, z1⟩ := hZ i hlt
    have hmod := tm (Z i)
    clear hc h tm
    go_enter Tryz.func16, Tryz.ntmps16
    go_wp2
    go_ret
    exact ⟨(Z i % m).toNat, by omega, 0, by rw [Int.toNat_of_nonneg hmod.1]; rfl, rfl⟩
  · have g1 : ¬ (i : Int) < len := by omega
    have hmod := tm ((i : Int) * 37 + 11)
    clear h tm
    go_enter Tryz.func16, Tryz.ntmps16
    go_wp2
    go_ret
    exact ⟨(((i : Int) * 37 + 11) % m).toNat, by omega, 0, by rw [Int.toNat_of_nonneg hmod.1]; rfl, rfl⟩

-- @has srcnext
/-- What a draw is told. -/
structure Tells (w0 : World) (g : Nat) (a : Option Addr) (len cap : Nat) (Z : Nat → Int) (K : Nat) (w : World) : Prop where
  bytes : BytesIn w0 a len Z
  gro : Gro w0 w
  base : w0.heap.size ≤ g
  src : SrcAt g 88 a len cap K w
  small : K ≤ 1000000
theorem Tells.next {w0 : World} {g : Nat} {a : Option Addr} {len cap : Nat} {Z : Nat → Int} {K K' : Nat} {w w' : World} (h : Tells w0 g a len cap Z K w) (hd : Drawn g 88 a len cap K' w w') (hk : K' ≤ 1000000) : Tells w0 g a len cap Z K' w' :=
  ⟨h.bytes, hd.gro h.gro h.base, h.base, hd.2, hk⟩
theorem Tells.drewN {w0 : World} {g : Nat} {a : Option Addr} {len cap : Nat} {Z : Nat → Int} {K : Nat} {w : World} (h : Tells w0 g a len cap Z K w) (n : Nat) : Tells w0 g a len cap Z K (w.drewN n) :=
  ⟨h.bytes, Gro.drewN h.gro _, h.base, h.src.drewN n, h.small⟩
set_option maxHeartbeats 2000000 in
theorem srcnext_c {w0 : World} {g : Nat} {a : Option Addr} {len cap : Nat} {Z : Nat → Int} {K : Nat} (w : World) (h : Tells w0 g a len cap Z K w) :
    Calls Tryz.prog 69 #[.pointer (some ⟨g, 0, none⟩)] w fun e w' => ∃ n : Nat, e = .returned (.int .i64 n) ∧ n ≤ 255 ∧ Drawn g 88 a len cap (K + 1) w w' := by
  obtain ⟨⟨hS, hZ⟩, hg, hb, ⟨x, seed, hx, s0, s1, hblk⟩, hk⟩ := h
  obtain ⟨c0, c1, c2, f1, f2⟩ := SrcAt.cells hblk
  have hm := hS.1
  unfold maxLen at hm
  have hx6 : x ≤ 1000000 := by omega
  by_cases hlt : x < len
  · obtain ⟨b1, o1, rfl, hc1⟩ := hS.2 (by omega)
    obtain ⟨zn, hzn⟩ : ∃ n : Nat, Z x = n := ⟨(Z x).toNat, by have := (hZ x).1; omega⟩
    have k0 : w.cell? ⟨b1, o1 + x, none⟩ = some (.int .u8 zn) := by rw [← hzn]; exact hg.cell (hc1 x hlt)
    have z1 : zn ≤ 255 := by have := (hZ x).2; omega
    clear hc1 hS hZ hzn
    have hw : IntKind.i64.wrap (zn : Int) = (zn : Int) := by rw [IntKind.wrap_i64]; omega
    have b0 : 0 ≤ IntKind.u64.wrap (IntKind.u64.wrap (IntKind.u64.wrap (seed * 6364136223846793005) + (zn : Int)) + 1442695040888963407) ∧ IntKind.u64.wrap (IntKind.u64.wrap (IntKind.u64.wrap (seed * 6364136223846793005) + (zn : Int)) + 1442695040888963407) < 18446744073709551616 := by rw [IntKind.wrap_u64 (IntKind.u64.wrap (IntKind.u64.wrap (seed * 6364136223846793005) + (zn : Int)) + 1442695040888963407)]; omega
    go_enter Tryz.func69, Tryz.ntmps69
    go_wp2
    go_region_held3 (fun w' => w'.cell? ⟨g, 0, none⟩ = some (.slice (some ⟨b1, o1, none⟩) len cap) ∧ w'.cell? ⟨g, 1, none⟩ = some (.int .i64 x)) (first | (simp [*]; done)) (fail)
    go_wp2
    go_region_held3 (fun w' => w'.cell? ⟨g, 0, none⟩ = some (.slice (some ⟨b1, o1, none⟩) len cap) ∧ w'.cell? ⟨g, 1, none⟩ = some (.int .i64 x) ∧ w'.cell? ⟨b1, o1 + x, none⟩ = some (.int .u8 zn)) (first | (simp [*]; done)) (fail)
    go_wp2
    generalize IntKind.u64.wrap (IntKind.u64.wrap (IntKind.u64.wrap (seed * 6364136223846793005) + (zn : Int)) + 1442695040888963407) = sd at b0 ⊢
    have hst := src_step sd hblk
    have hgr := grown_trans (grown_set w g 1 (.int .i64 ((x : Int) + 1))) (grown_set _ g 2 (.int .u64 sd))
    generalize (w.setCell ⟨g, 1, none⟩ (.int .i64 ((x : Int) + 1))).setCell ⟨g, 2, none⟩ (.int .u64 sd) = w2 at hst hgr ⊢
    obtain ⟨d0, d1, d2, -, -⟩ := SrcAt.cells hst
    have d1' : w2.cell? ⟨g, 1, none⟩ = some (.int .i64 ((x : Int) + 1)) := d1
    have HS : Hid (SrcAt g 88 (some ⟨b1, o1, none⟩) len cap (K + 1) w2) := Lib.hid ⟨x + 1, sd, by omega, b0.1, b0.2, hst⟩
    clear hst hblk c0 c1 c2 f1 f2 d1
    go_region_held3 (fun w' => w'.cell? ⟨g, 0, none⟩ = some (.slice (some ⟨b1, o1, none⟩) len cap) ∧ w'.cell? ⟨g, 1, none⟩ = some (.int .i64 ((x : Int) + 1))) (first | (simp [*]; done)) (fail)
    go_wp2
    go_ret
    exact ⟨zn, rfl, z1, by have HD : Drawn g 88 (some ⟨b1, o1, none⟩) len cap (K + 1) w w2 := ⟨hgr, HS.out⟩; repeat (first | exact HD | refine Drawn.drew ?_ | refine Drawn.drewN ?_ _)⟩
  · have hlt' : ¬ (x : Int) < len := by omega
    have hlt2 : ¬ (x : Int) + 1 ≤ len := by omega
    have b0 : 0 ≤ IntKind.u64.wrap (IntKind.u64.wrap (IntKind.u64.wrap (seed * 6364136223846793005)) + 1442695040888963407) ∧ IntKind.u64.wrap (IntKind.u64.wrap (IntKind.u64.wrap (seed * 6364136223846793005)) + 1442695040888963407) < 18446744073709551616 := by rw [IntKind.wrap_u64 (IntKind.u64.wrap (IntKind.u64.wrap (seed * 6364136223846793005)) + 1442695040888963407)]; omega
    clear hS hZ
    go_enter Tryz.func69, Tryz.ntmps69
    go_wp2
    go_region_held3 (fun w' => w'.cell? ⟨g, 0, none⟩ = some (.slice a len cap) ∧ w'.cell? ⟨g, 1, none⟩ = some (.int .i64 x)) (first | (simp [*]; done)) (fail)
    go_wp2
    generalize IntKind.u64.wrap (IntKind.u64.wrap (IntKind.u64.wrap (seed * 6364136223846793005)) + 1442695040888963407) = sd at b0 ⊢
    have hst := src_step sd hblk
    have hgr := grown_trans (grown_set w g 1 (.int .i64 ((x : Int) + 1))) (grown_set _ g 2 (.int .u64 sd))
    generalize (w.setCell ⟨g, 1, none⟩ (.int .i64 ((x : Int) + 1))).setCell ⟨g, 2, none⟩ (.int .u64 sd) = w2 at hst hgr ⊢
    obtain ⟨d0, d1, d2, -, -⟩ := SrcAt.cells hst
    have d1' : w2.cell? ⟨g, 1, none⟩ = some (.int .i64 ((x : Int) + 1)) := d1
    have HS : Hid (SrcAt g 88 a len cap (K + 1) w2) := Lib.hid ⟨x + 1, sd, by omega, b0.1, b0.2, hst⟩
    have b255 := bits_and255 (sd / 1099511627776)
    generalize hB : bits .and .u64 (sd / 1099511627776) 255 = B at b255
    obtain ⟨n, rfl⟩ : ∃ n : Nat, B = n := ⟨B.toNat, by omega⟩
    obtain ⟨-, b1⟩ := b255
    clear hst hblk c0 c1 c2 f1 f2 d1
    go_region_held3 (fun w' => w'.cell? ⟨g, 0, none⟩ = some (.slice a len cap) ∧ w'.cell? ⟨g, 1, none⟩ = some (.int .i64 ((x : Int) + 1))) (first | (simp [*]; done)) (fail)
    go_wp2
    go_ret
    exact ⟨n, rfl, by omega, by have HD : Drawn g 88 a len cap (K + 1) w w2 := ⟨hgr, HS.out⟩; repeat (first | exact HD | refine Drawn.drew ?_ | refine Drawn.drewN ?_ _)⟩

-- @has l00From
theorem l00From_c (a : Option Addr) (len cap : Nat) (Z : Nat → Int) (w : World) (hB : BytesIn w a len Z) :
    Calls Tryz.prog 38 #[.slice a len cap] w fun e w' => e = .returned (.pointer (some ⟨w.heap.size, 0, none⟩)) ∧ Tells w w.heap.size a len cap Z 0 w' := by
  have HB := Lib.hid hB
  clear hB
  go_enter Tryz.func38, Tryz.ntmps38
  go_wp2
  go_ret
  exact ⟨rfl, HB.out, (Gro.refl w).alloc _, Nat.le_refl _, ⟨0, 0, Nat.le_refl _, by decide, by decide, heap_alloc_new w _⟩, by decide⟩

-- @has srcpick
/-- Small choices take one byte. -/
theorem srcpick1_c {w0 : World} {g : Nat} {a : Option Addr} {len cap : Nat} {Z : Nat → Int} {K : Nat} (n : Nat) (h1 : 1 < n) (h2 : n ≤ 200) (w : World) (h : Tells w0 g a len cap Z K w) :
    Calls Tryz.prog 39 #[.pointer (some ⟨g, 0, none⟩), .int .i64 n] w fun e w' => ∃ m : Nat, e = .returned (.int .i64 m) ∧ m < n ∧ Drawn g 88 a len cap (K + 1) w w' := by
  have hn1 : ¬ (n : Int) ≤ 1 := by omega
  have hn2 : ¬ (200 : Int) < n := by omega
  go_enter Tryz.func39, Tryz.ntmps39
  go_wp2_with (go_at_call 69; refine (srcnext_c _ h).mono ?_; rintro e w1 ⟨m, rfl, hm, hd⟩)
  all_goals
    go_ret
    exact ⟨m % n, by simp, Nat.mod_lt _ (by omega), hd⟩
/-- Great choices take two. -/
theorem srcpick2_c {w0 : World} {g : Nat} {a : Option Addr} {len cap : Nat} {Z : Nat → Int} {K : Nat} (n : Nat) (h1 : 200 < n) (h2 : n ≤ 1000000000) (w : World) (h : Tells w0 g a len cap Z K w) (hK : K ≤ 900000) :
    Calls Tryz.prog 39 #[.pointer (some ⟨g, 0, none⟩), .int .i64 n] w fun e w' => ∃ m : Nat, e = .returned (.int .i64 m) ∧ m < n ∧ Drawn g 88 a len cap (K + 2) w w' := by
  have hn1 : ¬ (n : Int) ≤ 1 := by omega
  have hn2 : (200 : Int) < n := by omega
  go_enter Tryz.func39, Tryz.ntmps39
  go_wp2_with (first | (go_at_call 69; refine (srcnext_c _ h).mono ?_; rintro e w1 ⟨m, rfl, hm, hd⟩) | (go_at_call 69; refine (srcnext_c _ (h.next hd (by omega))).mono ?_; rintro e w2 ⟨m2, rfl, hm2, hd2⟩))
  all_goals
    go_ret
    exact ⟨(m * 256 + m2) % n, by simp, Nat.mod_lt _ (by omega), hd.trans hd2⟩
theorem srcpick_c {w0 : World} {g : Nat} {a : Option Addr} {len cap : Nat} {Z : Nat → Int} {K : Nat} (n : Nat) (h1 : 1 < n) (h2 : n ≤ 1000000000) (w : World) (h : Tells w0 g a len cap Z K w) (hK : K ≤ 900000) :
    Calls Tryz.prog 39 #[.pointer (some ⟨g, 0, none⟩), .int .i64 n] w fun e w' => ∃ m : Nat, e = .returned (.int .i64 m) ∧ m < n ∧ Drawn g 88 a len cap (K + 2) w w' := by
  rcases Nat.lt_or_ge 200 n with h3 | h3
  · exact srcpick2_c n h3 h2 w h hK
  · exact (srcpick1_c n h1 h3 w h).mono (by rintro e w' ⟨m, rfl, hm, hd⟩; exact ⟨m, rfl, hm, hd.mono (by omega)⟩)
theorem srcone_c {w0 : World} {g : Nat} {a : Option Addr} {len cap : Nat} {Z : Nat → Int} {K : Nat} (n : Nat) (h1 : 1 < n) (h2 : n ≤ 1000000000) (w : World) (h : Tells w0 g a len cap Z K w) (hK : K ≤ 900000) :
    Calls Tryz.prog 51 #[.pointer (some ⟨g, 0, none⟩), .int .i64 n] w fun e w' => ∃ b : Bool, e = .returned (.bool b) ∧ Drawn g 88 a len cap (K + 2) w w' := by
  go_enter Tryz.func51, Tryz.ntmps51
  go_wp2_with (go_at_call 39; refine (srcpick_c n h1 h2 _ h hK).mono ?_; rintro e w1 ⟨m, rfl, hm, hd⟩)
  all_goals
    go_ret
    exact ⟨_, rfl, hd⟩

-- @has drawPlain
set_option maxHeartbeats 1000000 in
theorem drawPlain_c {w0 : World} {g : Nat} {a : Option Addr} {len cap : Nat} {Z : Nat → Int} {K : Nat} (w : World) (h : Tells w0 g a len cap Z K w) (hK : K ≤ 800000) :
    Calls Tryz.prog 78 #[.pointer (some ⟨g, 0, none⟩)] w fun e w' => ∃ b, e = .returned (.float .f32 b) ∧ WfC .f32 (cl .f32 b) ∧ Drawn g 88 a len cap (K + 4) w w' := by
  go_enter Tryz.func78, Tryz.ntmps78
  go_wp2_with (first | (go_at_call 39; refine (srcpick_c 129 (by decide) (by decide) _ h (by omega)).mono ?_; rintro e w1 ⟨m, rfl, hm, hd⟩) | (go_at_call 51; refine (srcone_c 4 (by decide) (by decide) _ (h.next hd (by omega)) (by omega)).mono ?_; rintro e w2 ⟨b, rfl, hd2⟩; refine Hid.out ?_))
  cases b
  all_goals
    refine Lib.hid ?_
    go_wp2_with (refine wpList_farith _ _ _ _ _ _ rfl rfl _ _ _ rfl rfl rfl ?_; intro b1 n1 h1)
    go_ret
    exact ⟨_, rfl, by rw [h1]; exact wf_fop _ _ _ _, (hd.trans hd2).drewN _⟩

-- @has srcamong
set_option maxHeartbeats 1000000 in
theorem srcamong_c {w0 : World} {g : Nat} {a : Option Addr} {len cap : Nat} {Z : Nat → Int} {K : Nat} (gl n cl_ : Nat) (L : Nat → Int) (h1 : 1 < n) (h2 : n ≤ 1000) (hne : gl ≠ g) (w : World) (hL : ∀ j, j < n → w.cell? ⟨gl, j, none⟩ = some (.int .i64 (L j))) (h : Tells w0 g a len cap Z K w) (hK : K ≤ 900000) :
    Calls Tryz.prog 79 #[.pointer (some ⟨g, 0, none⟩), .slice (some ⟨gl, 0, none⟩) n cl_] w fun e w' => ∃ j, e = .returned (.int .i64 (L j)) ∧ j < n ∧ Drawn g 88 a len cap (K + 2) w w' := by
  have HL := Lib.hid hL
  clear hL
  go_enter Tryz.func79, Tryz.ntmps79
  go_wp2_with (go_at_call 39; refine (srcpick_c n h1 (by omega) _ h hK).mono ?_; rintro e w1 ⟨m, rfl, hm, hd⟩; have c0 : w1.cell? ⟨gl, m, none⟩ = some (.int .i64 (L m)) := hd.1.cell (HL.out m hm) (fun e => hne (by cases e; rfl)))
  all_goals
    go_ret
    exact ⟨m, rfl, hm, hd⟩
theorem Tells.alloc {w0 : World} {g : Nat} {a : Option Addr} {len cap : Nat} {Z : Nat → Int} {K : Nat} {w : World} (h : Tells w0 g a len cap Z K w) (o : Obj) : Tells w0 g a len cap Z K (w.alloc o) :=
  h.next (Drawn.alloc h.src o) h.small
theorem srcamongA_c {w0 : World} {g : Nat} {a : Option Addr} {len cap : Nat} {Z : Nat → Int} {K : Nat} (n : Nat) (cs : Array Value) (t : TypeId) (h1 : 1 < n) (h2 : n ≤ 1000) (w : World) (hcs : okCells cs n = true) (h : Tells w0 g a len cap Z K w) (hK : K ≤ 900000) :
    Calls Tryz.prog 79 #[.pointer (some ⟨g, 0, none⟩), .slice (some ⟨w.heap.size, 0, none⟩) n n] (w.alloc (.cells cs t)) fun e w' => ∃ v : Int, e = .returned (.int .i64 v) ∧ 0 ≤ v ∧ v ≤ 4294967295 ∧ Drawn g 88 a len cap (K + 2) w w' := by
  have key : ∀ j : Nat, ∃ v : Int, j < n → (cs[j]? = some (.int .i64 v) ∧ 0 ≤ v ∧ v ≤ 4294967295) := fun j => by
    by_cases hj : j < n
    · obtain ⟨v, hv⟩ := okCells_at hcs hj
      exact ⟨v, fun _ => hv⟩
    · exact ⟨0, fun h => absurd h hj⟩
  obtain ⟨L, hL⟩ := Classical.axiomOfChoice key
  have hlt := h.src.lt
  refine (srcamong_c w.heap.size n n L h1 h2 (by omega) _ (fun j hj => ?_) (h.alloc _) hK).mono ?_
  · have hh := heap_alloc_new w (.cells cs t)
    simp only [World.cell?, hh]
    simpa using (hL j hj).1
  · rintro e w' ⟨j, rfl, hj, hd⟩
    exact ⟨L j, rfl, (hL j hj).2.1, (hL j hj).2.2, (Drawn.alloc h.src _).trans hd⟩

-- @has Float32frombits
theorem f32from_run (n : Int) (w : World) : (callFunc 55 #[.int .u32 n]).run Tryz.prog w = .ok (.value (.float .f32 n.toNat)) w := by
  rw [run_callFunc_extern Tryz.func55 (e := Extern.MathFloatBits.float32frombits) (by kernel_rfl) (by kernel_rfl) (by kernel_rfl) (by kernel_rfl)]; rfl

-- @has l01From
theorem l01From_c (n : Int) (h1 : 0 ≤ n) (h2 : n ≤ 4294967295) (w : World) : Calls Tryz.prog 52 #[.int .i64 n] w (RetV (.float .f32 n.toNat) w) := by
  have hx := f32from_run
  go_enter Tryz.func52, Tryz.ntmps52
  go_wp2
  go_ret
  exact ⟨0, rfl, rfl⟩

-- @has drawFloat
set_option maxHeartbeats 4000000 in
theorem drawFloat_c {w0 : World} {g : Nat} {a : Option Addr} {len cap : Nat} {Z : Nat → Int} {K : Nat} (w : World) (h : Tells w0 g a len cap Z K w) (hK : K ≤ 700000) :
    Calls Tryz.prog 53 #[.pointer (some ⟨g, 0, none⟩)] w fun e w' => ∃ b, e = .returned (.float .f32 b) ∧ WfC .f32 (cl .f32 b) ∧ Drawn g 88 a len cap (K + 10) w w' := by
  go_enter Tryz.func53, Tryz.ntmps53
  go_wp2_with (go_at_call 51; refine (srcone_c 12 (by decide) (by decide) _ h (by omega)).mono ?_; rintro e w1 ⟨b, rfl, hd⟩; refine Hid.out ?_)
  have h1 := h.next hd (by omega)
  cases b
  · refine Lib.hid ?_
    go_wp2_with (go_at_call 78; refine (drawPlain_c _ h1 (by omega)).mono ?_; rintro e w2 ⟨b2, rfl, hb2, hd2⟩)
    all_goals
      go_ret
      exact ⟨b2, rfl, hb2, (hd.trans hd2).mono (by omega)⟩
  · refine Lib.hid ?_
    go_wp2_with (go_at_call 39; refine (srcpick_c 4 (by decide) (by decide) _ h1 (by omega)).mono ?_; rintro e w2 ⟨m, rfl, hm, hd2⟩; refine Hid.out ?_)
    have h2 := h1.next hd2 (by omega)
    have hd12 := hd.trans hd2
    clear hd hd2 h h1
    obtain rfl | rfl | rfl | rfl : m = 0 ∨ m = 1 ∨ m = 2 ∨ m = 3 := by omega
    · refine Lib.hid ?_
      go_wp2_with (first | (go_at_call 79; refine (srcamongA_c 10 _ _ (by decide) (by decide) _ rfl h2 (by omega)).mono ?_; rintro e w3 ⟨v, rfl, v0, v1, hd3⟩) | (go_at_call 52; refine (l01From_c _ v0 v1 _).mono ?_; rintro e w5 ⟨n5, rfl, rfl⟩))
      all_goals
        go_ret
        exact ⟨_, rfl, wf_cl (show v.toNat < 2 ^ 32 by omega), ((hd12.trans hd3).drewN _).mono (by omega)⟩
    · refine Lib.hid ?_
      go_wp2_with (first | (go_at_call 39; refine (srcpick_c 65536 (by decide) (by decide) _ h2 (by omega)).mono ?_; rintro e w3 ⟨m3, rfl, hm3, hd3⟩; have h3 := h2.next hd3 (by omega)) | (go_at_call 39; refine (srcpick_c 65536 (by decide) (by decide) _ h3 (by omega)).mono ?_; rintro e w4 ⟨m4, rfl, hm4, hd4⟩) | (go_at_call 52; refine (l01From_c _ (by omega) (by omega) _).mono ?_; rintro e w5 ⟨n5, rfl, rfl⟩))
      all_goals
        go_ret
        exact ⟨_, rfl, wf_cl (show ((m3 : Int) * 65536 + (m4 : Int)).toNat < 2 ^ 32 by omega), ((hd12.trans (hd3.trans hd4)).drewN _).mono (by omega)⟩
    · refine Lib.hid ?_
      go_wp2_with (first | (go_at_call 39; refine (srcpick_c 65536 (by decide) (by decide) _ h2 (by omega)).mono ?_; rintro e w3 ⟨m3, rfl, hm3, hd3⟩) | (go_at_call 52; refine (l01From_c _ (by omega) (by omega) _).mono ?_; rintro e w5 ⟨n5, rfl, rfl⟩))
      all_goals
        go_ret
        exact ⟨_, rfl, wf_cl (show ((m3 : Int) * 65536).toNat < 2 ^ 32 by omega), ((hd12.trans hd3).drewN _).mono (by omega)⟩
    · refine Lib.hid ?_
      go_wp2_with (first | (go_at_call 78; refine (drawPlain_c _ h2 (by omega)).mono ?_; rintro e w3 ⟨b3, rfl, hb3, hd3⟩; have h3 := h2.next hd3 (by omega)) | (go_at_call 79; refine (srcamongA_c 4 _ _ (by decide) (by decide) _ rfl h3 (by omega)).mono ?_; rintro e w4 ⟨v, rfl, v0, v1, hd4⟩) | (go_at_call 52; refine (l01From_c _ v0 v1 _).mono ?_; rintro e w5 ⟨n5, rfl, rfl⟩) | (refine wpList_farith _ _ _ _ _ _ rfl rfl _ _ _ rfl rfl rfl ?_; intro b1 n1 h1))
      all_goals
        go_ret
        exact ⟨_, rfl, by rw [h1]; exact wf_fop _ _ _ _, ((hd12.trans (hd3.trans hd4)).drewN _).mono (by omega)⟩

-- @has B10Number
set_option maxHeartbeats 1000000 in
theorem B10Number_c (a : Option Addr) (len cap : Nat) (Z : Nat → Int) (w : World) (hB : BytesIn w a len Z) :
    Calls Tryz.prog 19 #[.slice a len cap] w fun e w' => ∃ b, e = .returned (.float .f32 b) ∧ WfC .f32 (cl .f32 b) ∧ Gro w w' := by
  go_enter Tryz.func19, Tryz.ntmps19
  go_wp2_with (first | (go_at_call 38; refine (l00From_c _ _ _ Z _ hB).mono ?_; rintro e w1 ⟨rfl, h1⟩) | (go_at_call 51; refine (srcone_c 2 (by decide) (by decide) _ h1 (by omega)).mono ?_; rintro e w2 ⟨b, rfl, hd2⟩; refine Hid.out ?_))
  have h2 := h1.next hd2 (by omega)
  clear h1 hd2
  cases b
  · refine Lib.hid ?_
    go_wp2_with (go_at_call 53; refine (drawFloat_c _ h2 (by omega)).mono ?_; rintro e w3 ⟨z, rfl, hz, hd3⟩)
    all_goals
      go_ret
      exact ⟨z, rfl, hz, (h2.next hd3 (by omega)).gro⟩
  · refine Lib.hid ?_
    go_wp2_with (first | (go_at_call 39; refine (srcpick_c 65536 (by decide) (by decide) _ h2 (by omega)).mono ?_; rintro e w3 ⟨m3, rfl, hm3, hd3⟩; have h3 := h2.next hd3 (by omega)) | (go_at_call 39; refine (srcpick_c 65536 (by decide) (by decide) _ h3 (by omega)).mono ?_; rintro e w4 ⟨m4, rfl, hm4, hd4⟩) | (go_at_call 52; refine (l01From_c _ (by omega) (by omega) _).mono ?_; rintro e w5 ⟨n5, rfl, rfl⟩))
    all_goals
      go_ret
      exact ⟨_, rfl, wf_cl (show ((m3 : Int) * 65536 + (m4 : Int)).toNat < 2 ^ 32 by omega), Gro.drewN (h3.next hd4 (by omega)).gro _⟩

-- @has drawFloats
theorem info_f32s : (Tryz.prog.info? 28).map (fun i => (i.zero, i.size, i.bytes)) = some (some (.float .f32 0), 1, 4) := by kernel_rfl
set_option maxRecDepth 100000 in
set_option maxHeartbeats 4000000 in
theorem drawFloats_c {w0 : World} {g : Nat} {a : Option Addr} {len cap : Nat} {Z : Nat → Int} {K : Nat} (n : Nat) (hn : n ≤ 1000) (w : World) (h : Tells w0 g a len cap Z K w) (hK : K ≤ 500000) :
    Calls Tryz.prog 64 #[.pointer (some ⟨g, 0, none⟩), .int .i64 n] w fun e w' => ∃ (v : Value) (L : List Nat), e = .returned v ∧ L.length = n ∧ (∀ z ∈ L, WfC .f32 (cl .f32 z)) ∧ v ≠ .slice none 0 0 ∧ w'.ownsRow w.heap.size 28 1 v n (L.map fun z => .float .f32 z) ∧ Drawn g 88 a len cap (K + 2 + 10 * n) w w' := by
  obtain ⟨i0, hi, hz0, hz1, hz2⟩ := info_parts info_f32s
  have hlt := h.src.lt
  go_enter Tryz.func64, Tryz.ntmps64
  go_wp2_with (go_at_call 51; refine (srcone_c 4 (by decide) (by decide) _ (h.alloc _) (by omega)).mono ?_; rintro e w1 ⟨b, rfl, hd⟩)
  have hd1 : Drawn g 88 a len cap (K + 2) w w1 := (Drawn.alloc h.src _).trans hd
  have ho1 : w1.ownsRow w.heap.size 28 1 (.slice (some ⟨w.heap.size, 0, none⟩) 0 0) 0 [] := ownsRow_moved (ownsRow_empty (Nat.le_refl _)) hd.1 hlt
  clear hd
  go_loopw [1, 5] (fun nv v wr => ∃ (r : Nat) (L : List Nat), nv = .int .i64 (r : Int) ∧ L.length + r = n ∧ (∀ z ∈ L, WfC .f32 (cl .f32 z)) ∧ v ≠ .slice none 0 0 ∧ wr.ownsRow w.heap.size 28 1 v L.length (L.map fun z => .float .f32 z) ∧ Drawn g 88 a len cap (K + 2 + 10 * L.length) w wr) (fun nv _ _ => (intOf nv).toNat)
  case atStart => exact ⟨n, [], rfl, by simp, by simp, by simp, ho1, hd1⟩
  case round =>
    obtain ⟨r, L, rfl, hlen, hwf, hne, hown, hdr⟩ := hrel
    by_cases hr : r = 0
    · subst hr
      have hl : L.length = n := by omega
      rw [hl] at hown hdr
      have HO := Lib.hid hown
      have HN := Lib.hid hne
      have HW := Lib.hid hwf
      clear hown hne hwf
      go_wp2
      go_ret
      exact ⟨_, L, rfl, hl, HW.out, HN.out, HO.out, hdr⟩
    · have hr0 : (0 : Int) < r := by omega
      have hT : Tells w0 g a len cap Z (K + 2 + 10 * L.length) _ := h.next hdr (by omega)
      have hLn : L.length < n := by omega
      have HW := Lib.hid hwf
      clear hwf
      have fin : ∀ (z : Nat) (w3 w' : World) (v' : Value) (o : Obj), WfC .f32 (cl .f32 z) → Drawn g 88 a len cap (K + 2 + 10 * L.length + 10) wr w3 → w'.ownsRow w.heap.size 28 1 v' (L.length + 1) ((L.map fun z => Value.float .f32 z) ++ [.float .f32 z]) → (w3.alloc o).grownBy w' u5.ownBlock → ¬ v' = .slice none 0 0 → ∃ L' : List Nat, L'.length = L.length + 1 ∧ (∀ z ∈ L', WfC .f32 (cl .f32 z)) ∧ v' ≠ .slice none 0 0 ∧ w'.ownsRow w.heap.size 28 1 v' L'.length (L'.map fun z => .float .f32 z) ∧ Drawn g 88 a len cap (K + 2 + 10 * L'.length) w w' := by
        intro z w3 w' v' o hz hd3 hown' hgrow hnn
        refine ⟨L ++ [z], by simp, fun y hy => ?_, hnn, by simpa using hown', ?_⟩
        · rcases List.mem_append.1 hy with hy | hy
          · exact HW.out y hy
          · rw [List.mem_singleton.1 hy]; exact hz
        · have := (hdr.trans hd3).append hgrow (fun k hk => (World.ownsRow.lt hown k hk).1) hlt
          exact this.mono (by simp; omega)
      have FIN := Lib.hid fin
      clear fin
      cases b
      all_goals
        go_wp2_with (first | (go_at_call 78; refine (drawPlain_c _ hT (by omega)).mono ?_; rintro e w3 ⟨z, rfl, hz, hd4⟩; have hd3 := hd4.mono (K' := K + 2 + 10 * L.length + 10) (by omega); clear hd4) | (go_at_call 53; refine (drawFloat_c _ hT (by omega)).mono ?_; rintro e w3 ⟨z, rfl, hz, hd3⟩) | (at_builtin; refine wpList_append_own _ rfl _ _ 52 rfl w.heap.size 28 i0 (.float .f32 0) 1 4 Tryz.underlying52 hi hz0 hz1 hz2 rfl (by decide) _ _ _ rfl ((ownsRow_moved hown hd3.1 hlt).alloc _) ⟨w3.heap.size, 0, none⟩ 1 1 [.float .f32 z] rfl rfl (cell_new1 _ _ _) (fun x hx => by simp at hx; subst hx; rfl) (by unfold maxLen; omega) (by omega) (by have := hd3.1.size; have := hdr.1.size; simp; omega) ?_))
        intro v' w' hown' hgrow hnn
        obtain ⟨L', e1, e2, e3, e4, e5⟩ := FIN.out z w3 w' v' _ hz hd3 hown' hgrow hnn
        have H2 := Lib.hid e2
        have H3 := Lib.hid e3
        have H4 := Lib.hid e4
        have H5 := Lib.hid e5
        clear hown' hgrow hnn e2 e3 e4 e5 hown hne hd3 hz
        go_wp2
        go_roundw
        case rel => exact ⟨r - 1, L', by go_num, by omega, H2.out, H3.out, H4.out, H5.out⟩
        case measure => simp [intOf]; omega

-- @has B10Numbers
theorem B10Numbers_c (a : Option Addr) (len cap : Nat) (Z : Nat → Int) (n : Nat) (hn : n ≤ 1000) (w : World) (hB : BytesIn w a len Z) :
    Calls Tryz.prog 29 #[.slice a len cap, .int .i64 n] w fun e w' => ∃ (v : Value) (L : List Nat), e = .returned v ∧ L.length = n ∧ (∀ z ∈ L, WfC .f32 (cl .f32 z)) ∧ v ≠ .slice none 0 0 ∧ w'.ownsRow w.heap.size 28 1 v n (L.map fun z => .float .f32 z) ∧ Gro w w' := by
  go_enter Tryz.func29, Tryz.ntmps29
  go_wp2_with (first | (go_at_call 38; refine (l00From_c _ _ _ Z _ hB).mono ?_; rintro e w1 ⟨rfl, h1⟩) | (go_at_call 64; refine (drawFloats_c n hn _ h1 (by omega)).mono ?_; rintro e w2 ⟨v, L, rfl, hl, hw, hne, ho, hd⟩; have HW := Lib.hid hw; have HO := Lib.hid ho; clear hw ho))
  all_goals
    go_ret
    exact ⟨v, L, rfl, hl, HW.out, hne, ownsRow_base HO.out h1.gro.size, (h1.next hd (by omega)).gro⟩

-- @has Float32bits
theorem f32bits_run (x : Nat) (w : World) : (callFunc 56 #[.float .f32 x]).run Tryz.prog w = .ok (.value (.int .u32 x)) w := by
  rw [run_callFunc_extern Tryz.func56 (e := Extern.MathFloatBits.float32bits) (by kernel_rfl) (by kernel_rfl) (by kernel_rfl) (by kernel_rfl)]; rfl

-- @has implBitsOf
theorem implBitsOf_c (b : Nat) (hb : WfC .f32 (cl .f32 b)) (w : World) :
    Calls Tryz.prog 21 #[.float .f32 b] w (RetV (.int .i64 (bitsC (cl .f32 b))) w) := by
  have hx := f32bits_run
  rcases h : cl .f32 b with _ | c
  · go_enter Tryz.func21, Tryz.ntmps21
    go_wp2
    go_ret
    exact ⟨0, rfl, rfl⟩
  · have hs := ford_self h
    obtain ⟨rfl, -⟩ := cl_some h
    have hb' : b < 2 ^ 32 := hb _ h
    clear hb
    go_enter Tryz.func21, Tryz.ntmps21
    go_wp2
    go_ret
    exact ⟨0, rfl, rfl⟩

-- @has implBitsNb
theorem implBitsNb_c (b : Nat) (hb : WfC .f32 (cl .f32 b)) (w : World) : Calls Tryz.prog 21 #[.float .f32 b] w (RetV (.int .i64 (nb b)) w) := by
  rw [← nb_int]
  exact implBitsOf_c b hb w

-- @has within
theorem within_true (n a b : Int) (h1 : a ≤ n) (h2 : n ≤ b) (w : World) : Calls Tryz.prog 54 #[.int .i64 n, .int .i64 a, .int .i64 b] w (RetV (.bool true) w) := by
  go_enter Tryz.func54, Tryz.ntmps54
  go_wp2
  go_ret
  exact ⟨0, rfl, rfl⟩
theorem within_false (n a b : Int) (h : n < a ∨ b < n) (w : World) : Calls Tryz.prog 54 #[.int .i64 n, .int .i64 a, .int .i64 b] w (RetV (.bool false) w) := by
  by_cases h1 : a ≤ n
  · have h2 : ¬ n ≤ b := by omega
    go_enter Tryz.func54, Tryz.ntmps54
    go_wp2
    go_ret
    exact ⟨0, rfl, rfl⟩
  · go_enter Tryz.func54, Tryz.ntmps54
    go_wp2
    go_ret
    exact ⟨0, rfl, rfl⟩

-- @has implFromBits
theorem implFromBits_in (n : Int) (h1 : 0 ≤ n) (h2 : n ≤ 4294967295) (w : World) : Calls Tryz.prog 20 #[.int .i64 n] w (RetV (.tuple #[.float .f32 n.toNat, .bool true]) w) := by
  have hx := f32from_run
  go_enter Tryz.func20, Tryz.ntmps20
  go_wp2_with (go_at_call 54; refine (within_true _ _ _ h1 h2 _).mono ?_; rintro e w' ⟨m, rfl, rfl⟩)
  go_ret2
  exact ⟨_, rfl, rfl⟩
theorem implFromBits_out (n : Int) (h : n < 0 ∨ 4294967295 < n) (w : World) : Calls Tryz.prog 20 #[.int .i64 n] w (RetV (.tuple #[.float .f32 0, .bool false]) w) := by
  have H := Lib.hid h
  clear h
  go_enter Tryz.func20, Tryz.ntmps20
  go_wp2_with (go_at_call 54; refine (within_false _ _ _ H.out _).mono ?_; rintro e w' ⟨m, rfl, rfl⟩)
  go_ret2
  exact ⟨_, rfl, rfl⟩

-- @has Float64bits
theorem f64bits_run (x : Nat) (w : World) : (callFunc 84 #[.float .f64 x]).run Tryz.prog w = .ok (.value (.int .u64 x)) w := by
  rw [run_callFunc_extern Tryz.func84 (e := Extern.MathFloatBits.float64bits) (by kernel_rfl) (by kernel_rfl) (by kernel_rfl) (by kernel_rfl)]; rfl

-- @has Float64frombits
theorem f64from_run (n : Int) (w : World) : (callFunc 83 #[.int .u64 n]).run Tryz.prog w = .ok (.value (.float .f64 n.toNat)) w := by
  rw [run_callFunc_extern Tryz.func83 (e := Extern.MathFloatBits.float64frombits) (by kernel_rfl) (by kernel_rfl) (by kernel_rfl) (by kernel_rfl)]; rfl

-- @has Abs
theorem abs_c (b : Nat) (w : World) : Calls Tryz.prog 65 #[.float .f64 b] w (RetF .f64 (absC (cl .f64 b)) w) := by
  have hx := f64bits_run
  have hy := f64from_run
  go_enter Tryz.func65, Tryz.ntmps65
  go_wp2
  go_ret
  exact ⟨_, 0, rfl, by rw [bits_andNot63]; exact cl_abs b, rfl⟩

-- @has implIsSubnormal
theorem implIsSubnormal_c (b : Nat) (w : World) : Calls Tryz.prog 33 #[.float .f32 b] w (RetV (.bool (subC (cl .f32 b))) w) := by
  rcases h1 : cl .f32 b with _ | c
  · go_enter Tryz.func33, Tryz.ntmps33
    go_wp2_with (first | (refine wpList_widen _ _ _ _ rfl _ rfl Tryz.underlying46 (by rw [Tryz.underlying28]; rfl) rfl ?_; intro b1 n1 hb1) | (go_at_call 65; refine (abs_c _ _).mono ?_; rintro e w' ⟨r, n, rfl, hr, rfl⟩))
    go_ret
    exact ⟨_, rfl, rfl⟩
  · obtain ⟨rfl, -⟩ := cl_some h1
    have hm := below_least h1
    by_cases h0 : rung FloatKind.f32.format b = 0
    · have hz := ford_zero_eq h1 h0
      clear hm
      go_enter Tryz.func33, Tryz.ntmps33
      go_wp2
      go_ret
      exact ⟨0, by rw [subC_zero h0]; rfl, rfl⟩
    · obtain ⟨hz, hz'⟩ := ford_zero_ne h1 h0
      have H := Lib.hid hm
      clear hm hz'
      go_enter Tryz.func33, Tryz.ntmps33
      go_wp2_with (first | (refine wpList_widen _ _ _ _ rfl _ rfl Tryz.underlying46 (by rw [Tryz.underlying28]; rfl) rfl ?_; intro b1 n1 hb1) | (go_at_call 65; refine (abs_c _ _).mono ?_; rintro e w' ⟨r, n, rfl, hr, rfl⟩))
      go_ret
      refine ⟨_, ?_, rfl⟩
      have e : subC (some b) = (ford .f64 (absC (widen (some b))) (cl .f64 4039728865751334912) == some .lt) := by
        rw [H.out]; unfold subC; simp [h0]
      rw [e]; rfl

-- @has Copysign
theorem copysign0_c (c : Nat) (w : World) : Calls Tryz.prog 63 #[.float .f64 0, .float .f64 c] w (RetV (.float .f64 (c / 2 ^ 63 % 2 * 2 ^ 63)) w) := by
  have hx := f64bits_run
  have hy := f64from_run
  go_enter Tryz.func63, Tryz.ntmps63
  go_wp2
  go_ret
  exact ⟨0, by rw [← copysign_eq]; rfl, rfl⟩

-- @has implFlushNumber
theorem implFlushNumber_c (b : Nat) (hwf : WfC .f32 (cl .f32 b)) (w : World) : Calls Tryz.prog 28 #[.float .f32 b] w (RetF .f32 (flushC (cl .f32 b)) w) := by
  rcases h1 : cl .f32 b with _ | c
  · have hs : subC none = false := rfl
    go_enter Tryz.func28, Tryz.ntmps28
    go_wp2_with (go_at_call 33; refine (implIsSubnormal_c _ _).mono ?_; rintro e w1 ⟨n, rfl, rfl⟩)
    go_ret
    exact ⟨_, _, rfl, h1, rfl⟩
  · have hb : b < 2 ^ 32 := by obtain ⟨rfl, -⟩ := cl_some h1; exact hwf b h1
    obtain ⟨rfl, -⟩ := cl_some h1
    by_cases h0 : rung FloatKind.f32.format b = 0
    · have hs := subC_zero h0
      have hf := Lib.hid (flushC_zero h0)
      go_enter Tryz.func28, Tryz.ntmps28
      go_wp2_with (go_at_call 33; refine (implIsSubnormal_c _ _).mono ?_; rintro e w1 ⟨n, rfl, rfl⟩)
      go_ret
      exact ⟨_, _, rfl, by rw [hf.out]; exact h1, rfl⟩
    · by_cases hr : rung FloatKind.f32.format b < 2 ^ 23
      · have hs := subC_true h0 hr
        have hf := Lib.hid (flushC_sub hr)
        obtain ⟨x, x1, x2, x3, x4, x5⟩ := widen_cl h1
        have X4 := Lib.hid (sign_digit x4 hb)
        obtain ⟨n1, n2⟩ := narrow_zero (b / 2 ^ 31) (Nat.div_lt_of_lt_mul (by omega))
        have N1 := Lib.hid n1
        have N2 := Lib.hid n2
        clear x2 x3 x4 x5 n1 n2 h0 hr
        go_enter Tryz.func28, Tryz.ntmps28
        go_wp2_with (first | (go_at_call 33; refine (implIsSubnormal_c _ _).mono ?_; rintro e w1 ⟨n, rfl, rfl⟩) | (refine wpList_widen _ _ _ _ rfl _ rfl Tryz.underlying46 (by rw [Tryz.underlying28]; rfl) rfl ?_; intro b1 n1 h1))
        have e1 : cl .f64 _ = some x := h1.trans (by rw [‹cl .f32 b = some b›]; exact x1)
        obtain ⟨rfl, -⟩ := cl_some e1
        refine (copysign0_c _ _).mono ?_
        rintro e w' ⟨n, rfl, rfl⟩
        rw [X4.out]
        go_wp2_with (refine wpList_narrow _ _ _ _ rfl _ rfl Tryz.underlying28 (by rw [Tryz.underlying46]; rfl) rfl (N1.out) ?_; intro b1 n1 h1)
        go_ret
        exact ⟨_, _, rfl, by rw [‹cl .f32 _ = narrow _›, N2.out, hf.out], rfl⟩
      · have hs := subC_false hr
        have hf := Lib.hid (flushC_not hr)
        go_enter Tryz.func28, Tryz.ntmps28
        go_wp2_with (go_at_call 33; refine (implIsSubnormal_c _ _).mono ?_; rintro e w1 ⟨n, rfl, rfl⟩)
        go_ret
        exact ⟨_, _, rfl, by rw [hf.out]; exact h1, rfl⟩

-- @has implSumNumbers
set_option maxHeartbeats 800000 in
theorem implSumNumbers_c (a : Option Addr) (len cap : Nat) (Z : Nat → Nat) (w : World) (h : SlF w a len Z) :
    Calls Tryz.prog 30 #[.slice a len cap] w (RetF2 .f32 (if 256 < len then cl .f32 0 else sumF (fun j => cl .f32 (Z j)) len) (decide (len ≤ 256)) w) := by
  have hm := h.1
  unfold maxLen at hm
  go_enter Tryz.func30, Tryz.ntmps30
  by_cases hl : 256 < len
  · go_wp2
    go_ret2
    rw [decide_eq_false (by omega : ¬ len ≤ 256)]
    exact ⟨0, 0, rfl, rfl, rfl⟩
  go_wp2
  go_loopw [4, 6, 12] (fun s _ i wr => ∃ k n b : Nat, k ≤ len ∧ i = .int .i64 k ∧ s = .float .f32 b ∧ cl .f32 b = sumF (fun j => cl .f32 (Z j)) k ∧ wr = w.drewN n) (fun _ _ i _ => len - (intOf i).toNat)
  case atStart => exact ⟨0, 0, 0, Nat.zero_le _, rfl, rfl, rfl, rfl⟩
  case round =>
    obtain ⟨k, n, b, hk, rfl, rfl, hb, rfl⟩ := hrel
    by_cases hlt : k < len
    · obtain ⟨g, off, rfl, hc⟩ := h.2 (by omega)
      have c0 := hc k hlt
      clear hc
      go_wp2_with (refine wpList_farith _ _ _ _ _ _ rfl rfl _ _ _ rfl rfl rfl ?_; intro b1 n1 h1)
      go_roundw
      case rel => exact ⟨k + 1, _, _, by omega, by go_num, rfl, by rw [h1, hb]; rfl, rfl⟩
      case measure => simp [intOf]; omega
    · have : k = len := by omega
      subst this
      go_wp2
      go_ret2
      rw [decide_eq_true (by omega : k ≤ 256)]
      exact ⟨b, n, rfl, hb, rfl⟩

-- @has trail16
theorem trail16_c (w : World) (hd : w.cell? ⟨6, 15, none⟩ = some (.int .u8 4)) :
    Calls Tryz.prog 123 #[.int .u64 16] w (RetV (.int .i64 4) w) := by
  have h64 : Calls Tryz.prog 134 #[.int .u64 16] w (RetV (.int .i64 4) w) := by
    have e1 : IntKind.u64.wrap (-16) = 18446744073709551600 := by decide
    have e2 : bits .and .u64 16 18446744073709551600 = 16 := by decide
    go_enter Tryz.func134, Tryz.ntmps134
    go_wp2
    go_ret
    exact ⟨0, rfl, rfl⟩
  go_enter Tryz.func123, Tryz.ntmps123
  go_wp2_with (go_at_call 134; refine h64.mono ?_; rintro e w1 ⟨n, rfl, rfl⟩)
  go_ret
  exact ⟨_, rfl, rfl⟩
theorem pow2_16 (w : World) : Calls Tryz.prog 122 #[.int .i64 16] w (RetV (.bool true) w) := by
  go_enter Tryz.func122, Tryz.ntmps122
  go_wp2
  go_ret
  exact ⟨0, rfl, rfl⟩

-- @has fmtBits
set_option maxHeartbeats 4000000 in
set_option maxRecDepth 100000 in
theorem fmtBits_c (n : Nat) (hn : n < 4294967296) (w : World) (hd : w.cell? ⟨6, 15, none⟩ = some (.int .u8 4)) :
    Calls Tryz.prog 102 #[.slice none 0 0, .int .u64 n, .int .i64 16, .bool false, .bool false] w fun e w' => ∃ L, 1 ≤ L ∧ L ≤ 8 ∧ n < 16 ^ L ∧ e = .returned (.tuple #[.slice none 0 0, .string ⟨(hexW L n).toArray⟩]) ∧ Gro w w' := by
  go_enter Tryz.func102, Tryz.ntmps102
  go_wp2_with (first | (go_at_call 122; refine (pow2_16 _).mono ?_; rintro e w1 ⟨n1, rfl, rfl⟩) | (go_at_call 123; refine (trail16_c _ (by first | exact hd | exact Gro.cell (by repeat (first | with_reducible exact Gro.refl _ | with_reducible apply Gro.drewN | with_reducible apply Gro.drew | with_reducible apply Gro.alloc | with_reducible refine Gro.setCell ?_ (by dsimp only; omega) _ | refine Gro.trans ?_ (by assumption))) hd)).mono ?_; rintro e w1 ⟨n2, rfl, rfl⟩))
  have hz : Tryz.zeroCells140 = Array.replicate 65 (.int .u8 0) := by kernel_rfl
  have hr0 : (((w.alloc (Obj.cells Tryz.zeroCells140 140)).drewN (n1 + n2))).rowIs w.heap.size 140 65 (hxV n 65) := by
    rw [hz]
    refine rowIs_drewN ⟨_, heap_alloc_new w _, by simp, fun i hi => ?_⟩ _
    simp [hxV, hi]
  have hg0 : Gro w ((w.alloc (Obj.cells Tryz.zeroCells140 140)).drewN (n1 + n2)) := Gro.drewN ((Gro.refl w).alloc _) _
  generalize (w.alloc (Obj.cells Tryz.zeroCells140 140)).drewN (n1 + n2) = w2 at hr0 hg0
  go_loopw [1, 13] (fun u i wr => ∃ k i0 U : Nat, k + i0 = 65 ∧ k ≤ 7 ∧ u = .int .u64 (U : Int) ∧ i = .int .i64 (i0 : Int) ∧ Hid (U = n / 16 ^ k) ∧ wr.rowIs w.heap.size 140 65 (hxV n i0) ∧ Gro w wr) (fun u _ _ => (intOf u).toNat)
  case atStart => exact ⟨0, 65, n, rfl, by omega, rfl, rfl, Lib.hid (by simp), hr0, hg0⟩
  case round =>
    obtain ⟨k, i0, U, hk, hk7, rfl, rfl, HU, hrow, hg⟩ := hrel
    have hUn : U < 4294967296 := by rw [HU.out]; exact Nat.lt_of_le_of_lt (Nat.div_le_self _ _) hn
    obtain ⟨i1, rfl⟩ : ∃ i1, i0 = i1 + 1 := ⟨i0 - 1, by omega⟩
    have hI : ((i1 + 1 : Nat) : Int) - 1 = (i1 : Int) := by omega
    have c1 := hrow.cell (i := i1) (by omega)
    have c2 := hrow.frozen i1
    have hsz := hg.size
    by_cases h16 : 16 ≤ U
    · have hm := and15_u64 U (by omega)
      have hD : U % 16 < 16 := Nat.mod_lt _ (by decide)
      generalize hDD : U % 16 = D at *
      go_wp2
      go_roundw
      case rel =>
        rw [dig36 D hD]
        refine ⟨k + 1, i1, U / 16, by omega, ?_, by go_num, rfl, Lib.hid (by rw [HU.out, Nat.div_div_eq_div_mul, ← Nat.pow_succ]), (hrow.set i1 _).congr fun j _ => hxV_set n i1 j D ?_, hg.setCell (Nat.le_refl _) _⟩
        · rcases Nat.lt_or_ge k 7 with h | h
          · omega
          · have e7 : k = 7 := by omega
            subst e7
            have h7 := HU.out
            have : (16 : Nat) ^ 7 = 268435456 := by decide
            rw [this] at h7
            omega
        · rw [← hDD, HU.out, show 64 - i1 = k by omega]
      case measure => simp [intOf]; omega
    · have hD : U < 16 := by omega
      have hal : Tryz.prog.arrayLen 140 = 65 := by kernel_rfl
      have hsl : ∀ W, (Instr.sliceAt 140 (.pointer (some ⟨w.heap.size, 0, none⟩)) (some (.int .i64 (i1 : Int))) none none).run Tryz.prog W = .ok (.slice (some ⟨w.heap.size, i1, none⟩) (k + 1) (k + 1)) W := fun W => by
        rw [run_sliceAt_array_l W 140 ⟨w.heap.size, 0, none⟩ (by kernel_rfl) .i64 (i1 : Int) (by omega) (by rw [hal]; omega)]
        have e1 : (65 - i1 : Nat) = k + 1 := by omega
        have e2 : ¬ 65 = i1 := by omega
        have e4 : ¬ i1 = 0 := by omega
        have e3 : (sizeOf (Tryz.prog.elem 140)).run Tryz.prog W = .ok 1 W := by
          have : Tryz.prog.elem 140 = 5 := by kernel_rfl
          rw [this]
          exact Tryz.sizeOf5 W
        rw [e3, hal]
        simp [slicedAt, Addr.add, e1, e2, e4]
      have hLt : n < 16 ^ (k + 1) := by
        have h1 := HU.out
        rw [Nat.pow_succ]
        have := Nat.div_add_mod n (16 ^ k)
        have h2 : n % 16 ^ k < 16 ^ k := Nat.mod_lt _ (Nat.pow_pos (by decide))
        rw [← h1] at this
        have h3 : 16 ^ k * U ≤ 16 ^ k * 15 := Nat.mul_le_mul_left _ (by omega)
        omega
      have hr3 : (wr.setCell ⟨w.heap.size, i1, none⟩ (.int .u8 ((((ByteArray.mk (List.toArray (48 :: 49 :: 50 :: 51 :: 52 :: 53 :: 54 :: 55 :: 56 :: 57 :: 97 :: 98 :: 99 :: 100 :: 101 :: 102 :: 103 :: 104 :: 105 :: 106 :: 107 :: 108 :: 109 :: 110 :: 111 :: 112 :: 113 :: 114 :: 115 :: 116 :: 117 :: 118 :: 119 :: 120 :: 121 :: 122 :: [])))[U]'(Nat.lt_of_lt_of_le hD (by decide))).toNat : Nat) : Int))).rowIs w.heap.size 140 65 (hxV n i1) := by
        rw [dig36 U hD]
        exact (hrow.set i1 _).congr fun j _ => hxV_set n i1 j U (by rw [show 64 - i1 = k by omega, ← HU.out, Nat.mod_eq_of_lt hD])
      have hcv := run_convert_bytes_back (P := Tryz.prog) (wr.setCell ⟨w.heap.size, i1, none⟩ (.int .u8 ((((ByteArray.mk (List.toArray (48 :: 49 :: 50 :: 51 :: 52 :: 53 :: 54 :: 55 :: 56 :: 57 :: 97 :: 98 :: 99 :: 100 :: 101 :: 102 :: 103 :: 104 :: 105 :: 106 :: 107 :: 108 :: 109 :: 110 :: 111 :: 112 :: 113 :: 114 :: 115 :: 116 :: 117 :: 118 :: 119 :: 120 :: 121 :: 122 :: [])))[U]'(Nat.lt_of_lt_of_le hD (by decide))).toNat : Nat) : Int))) 22 9 5 ⟨w.heap.size, i1, none⟩ (k + 1) (hexW (k + 1) n) Tryz.underlying22 Tryz.underlying5 Tryz.underlying9 (fun j hj => by
        rw [hexW_len] at hj
        have h1 := hr3.cell (i := i1 + j) (by omega)
        have h2 := hexW_get (k + 1) n j hj
        rw [List.getElem?_eq_getElem (by rw [hexW_len]; exact hj)] at h2
        injection h2 with h2
        rw [h2]
        unfold hxV at h1
        rw [if_neg (by omega), show 64 - (i1 + j) = k + 1 - 1 - j by omega] at h1
        rw [Go.WideShapes.add_plain]
        exact h1)
      rw [hexW_len] at hcv
      have hg3 : Gro w (wr.setCell ⟨w.heap.size, i1, none⟩ (.int .u8 ((((ByteArray.mk (List.toArray (48 :: 49 :: 50 :: 51 :: 52 :: 53 :: 54 :: 55 :: 56 :: 57 :: 97 :: 98 :: 99 :: 100 :: 101 :: 102 :: 103 :: 104 :: 105 :: 106 :: 107 :: 108 :: 109 :: 110 :: 111 :: 112 :: 113 :: 114 :: 115 :: 116 :: 117 :: 118 :: 119 :: 120 :: 121 :: 122 :: [])))[U]'(Nat.lt_of_lt_of_le hD (by decide))).toNat : Nat) : Int))) := hg.setCell (Nat.le_refl _) _
      have HG := Lib.hid hg3
      clear hr3 hrow hal hg3 hI
      have hI : ((i1 + 1 : Nat) : Int) - 1 = (i1 : Int) := by omega
      go_wp2
      go_ret2
      exact ⟨k + 1, by omega, by omega, hLt, rfl, HG.out⟩

-- @has fmtInt16
theorem fmtInt16_c (n : Nat) (hn : n < 4294967296) (w : World) (hd : w.cell? ⟨6, 15, none⟩ = some (.int .u8 4)) :
    Calls Tryz.prog 73 #[.int .i64 n, .int .i64 16] w fun e w' => ∃ L, 1 ≤ L ∧ L ≤ 8 ∧ n < 16 ^ L ∧ e = .returned (.string ⟨(hexW L n).toArray⟩) ∧ Gro w w' := by
  have hin : Calls Tryz.prog 86 #[.int .i64 n, .int .i64 16] w fun e w' => ∃ L, 1 ≤ L ∧ L ≤ 8 ∧ n < 16 ^ L ∧ e = .returned (.string ⟨(hexW L n).toArray⟩) ∧ Gro w w' := by
    have hneg : ¬ (n : Int) < 0 := by omega
    go_enter Tryz.func86, Tryz.ntmps86
    go_wp2_with (go_at_call 102; refine (fmtBits_c n hn _ (Gro.cell (by repeat (first | with_reducible exact Gro.refl _ | with_reducible apply Gro.drewN | with_reducible apply Gro.drew | with_reducible apply Gro.alloc | with_reducible refine Gro.setCell ?_ (by dsimp only; omega) _ | refine Gro.trans ?_ (by assumption))) hd)).mono ?_; rintro e w1 ⟨L, h1, h2, h3, rfl, hg⟩)
    all_goals
      go_ret
      exact ⟨L, h1, h2, h3, rfl, by show Gro w _; (repeat (first | with_reducible exact Gro.refl _ | with_reducible apply Gro.drewN | with_reducible apply Gro.drew | refine Gro.trans ?_ (by assumption)))⟩
  go_enter Tryz.func73, Tryz.ntmps73
  go_wp2_with (go_at_call 86; refine hin.mono ?_; rintro e w1 ⟨L, h1, h2, h3, rfl, hg⟩)
  go_ret
  exact ⟨L, h1, h2, h3, rfl, hg⟩

-- @has repeat0
theorem hasPre_c (s : ByteArray) (b : Bool) (hs : 1 ≤ s.size) (h : ((s.extract 0 1).toList == [48]) = b) (w : World) :
    Calls Tryz.prog 88 #[.string s, .string ⟨#[48]⟩] w (RetV (.bool b) w) := by
  go_enter Tryz.func88, Tryz.ntmps88
  go_wp2
  go_ret
  exact ⟨0, rfl, rfl⟩
set_option maxHeartbeats 2000000 in
set_option maxRecDepth 100000 in
theorem repeat0_c (c : Nat) (hc : c ≤ 7) (w : World) :
    Calls Tryz.prog 74 #[.string ⟨#[48]⟩, .int .i64 c] w (RetV (.string ⟨(List.replicate c 48).toArray⟩) w) := by
  have hmul := Tryz.bits_Mul 1 c (by decide) (by omega)
  have e1 : 1 * c / 18446744073709551616 = 0 := by omega
  have e2 : 1 * c % 18446744073709551616 = c := by omega
  rw [e1, e2] at hmul
  have e3 : ((({ data := #[48] } : ByteArray)[0].toNat : Int) == 32) = false := by decide
  have e4 : ((({ data := #[48] } : ByteArray)[0].toNat : Int) == 45) = false := by decide
  have e5 : ((({ data := #[48] } : ByteArray)[0].toNat : Int) == 48) = true := by decide
  by_cases h0 : c = 0
  · subst h0
    go_enter Tryz.func74, Tryz.ntmps74
    go_wp2
    go_ret
    exact ⟨0, rfl, rfl⟩
  by_cases h1 : c = 1
  · subst h1
    go_enter Tryz.func74, Tryz.ntmps74
    go_wp2
    go_ret
    exact ⟨0, rfl, rfl⟩
  have hc2 : 2 ≤ c := by omega
  have h0' : ((c : Int) == 0) = false := beq_eq_false_iff_ne.2 (by omega)
  have h1' : ((c : Int) == 1) = false := beq_eq_false_iff_ne.2 (by omega)
  go_enter Tryz.func74, Tryz.ntmps74
  go_wp2_with (first | (go_at_call 87; refine (hmul _).mono ?_; rintro e w1 ⟨rfl, rfl⟩) | (go_at_call 88; refine (hasPre_c _ false (by decide) (by rw [Lib.toList_data]; decide +kernel) _).mono ?_; rintro e w1 ⟨n, rfl, rfl⟩) | (go_at_call 88; refine (hasPre_c _ true (by decide) (by rw [Lib.toList_data]; decide +kernel) _).mono ?_; rintro e w1 ⟨n, rfl, rfl⟩))
  go_ret
  refine ⟨_, ?_, rfl⟩
  clear hmul e1 e2 e3 e4 e5 h0 h1 h0' h1'
  refine congrArg Ending.returned (congrArg Value.string (ByteArray.ext ?_))
  obtain rfl | rfl | rfl | rfl | rfl | rfl : c = 2 ∨ c = 3 ∨ c = 4 ∨ c = 5 ∨ c = 6 ∨ c = 7 := by omega
  all_goals decide +kernel

-- @has implDigits
theorem str_app2 (a b : List UInt8) : (⟨a.toArray⟩ : ByteArray) ++ (⟨b.toArray⟩ : ByteArray) = ⟨(a ++ b).toArray⟩ := by
  apply ByteArray.ext
  simp
theorem repeat0_i (c : Int) (h0 : 0 ≤ c) (h7 : c ≤ 7) (w : World) :
    Calls Tryz.prog 74 #[.string ⟨#[48]⟩, .int .i64 c] w (RetV (.string ⟨(List.replicate c.toNat 48).toArray⟩) w) := by
  obtain ⟨n, rfl⟩ : ∃ n : Nat, c = n := ⟨c.toNat, by omega⟩
  exact repeat0_c n (by omega) w
theorem pad_eq {L n : Nat} {S : ByteArray} (h : n < 16 ^ L) (hL : L ≤ 8) (hS : S = ⟨(hexW L n).toArray⟩) : (⟨Array.replicate (8 - L) 48⟩ : ByteArray) ++ S = ⟨(hexW 8 n).toArray⟩ := by
  rw [hS, ← List.toArray_replicate, str_app2, ← hexW_pad L n h, show 8 - L + L = 8 by omega]
set_option maxHeartbeats 1000000 in
theorem implDigits_c (b : Nat) (hb : WfC .f32 (cl .f32 b)) (w : World) (hd : w.cell? ⟨6, 15, none⟩ = some (.int .u8 4)) :
    Calls Tryz.prog 47 #[.float .f32 b] w fun e w' => e = .returned (.string (hexT b)) ∧ Gro w w' := by
  have hbits := implBitsOf_c b hb
  rw [nb_int] at hbits
  have hnb := nb_le' hb
  go_enter Tryz.func47, Tryz.ntmps47
  go_wp2_with (first | (go_at_call 21; refine (hbits _).mono ?_; rintro e w1 ⟨n, rfl, rfl⟩) | (go_at_call 73; refine (fmtInt16_c _ hnb _ (Gro.cell (by repeat (first | with_reducible exact Gro.refl _ | with_reducible apply Gro.drewN | with_reducible apply Gro.drew | with_reducible apply Gro.alloc | with_reducible refine Gro.setCell ?_ (by dsimp only; omega) _ | refine Gro.trans ?_ (by assumption))) hd)).mono ?_; rintro e w1 ⟨L, h1, h2, h3, rfl, hg⟩; obtain ⟨S, hS⟩ : ∃ S : ByteArray, S = ⟨(hexW L (nb b)).toArray⟩ := ⟨_, rfl⟩; rw [← hS]; have hP := Lib.hid (pad_eq h3 h2 hS); have hz : S.size = L := (by rw [hS]; show (hexW L (nb b)).toArray.size = L; rw [List.size_toArray, hexW_len]); clear hS) | (go_at_call 74; refine (repeat0_i _ (by omega) (by omega) _).mono ?_; rintro e w2 ⟨n2, rfl, rfl⟩))
  go_ret
  exact ⟨congrArg (fun s => Ending.returned (.string s)) hP.out, by show Gro w _; (repeat (first | with_reducible exact Gro.refl _ | with_reducible apply Gro.drewN | with_reducible apply Gro.drew | refine Gro.trans ?_ (by assumption)))⟩

-- @has joined
theorem info_str : (Tryz.prog.info? 9).map (fun i => (i.zero, i.size, i.bytes)) = some (some (.string ByteArray.empty), 1, 16) := by kernel_rfl
theorem joined_c (g cap : Nat) (xs : List ByteArray) (w : World) (hc : ∀ (j : Nat) x, xs[j]? = some x → w.cell? ⟨g, 0 + j, none⟩ = some (.string x)) (hg : g < w.heap.size) (hN : xs.length ≤ 1000) (hcap : xs.length ≤ cap) (hlen : (Lib.join (xs.map (·.data.toList)) [44]).length ≤ 140737488355328) :
    Calls Tryz.prog 48 #[.slice (some ⟨g, 0, none⟩) xs.length cap] w fun e w' => e = .returned (.string (if xs.length = 0 then noneB else ⟨(Lib.join (xs.map (·.data.toList)) [44]).toArray⟩)) ∧ Gro w w' := by
  by_cases h0 : xs.length = 0
  · have hb : ((xs.length : Int) == 0) = true := by simp [h0]
    rw [if_pos h0]
    go_enter Tryz.func48, Tryz.ntmps48
    go_wp2
    go_ret
    exact ⟨rfl, Gro.refl _⟩
  · have hb : ((xs.length : Int) == 0) = false := by simpa using h0
    rw [if_neg h0]
    have J := Lib.hid (Tryz.strings_Join g 0 cap xs ⟨#[44]⟩ w hc hg (by omega) hcap hlen)
    clear hc hlen
    go_enter Tryz.func48, Tryz.ntmps48
    go_wp2_with (go_at_call 75; refine J.out.mono ?_; rintro e w1 ⟨rfl, hb1⟩)
    go_ret
    exact ⟨rfl, hb1⟩

-- @has implNumbersText
set_option maxRecDepth 100000 in
set_option maxHeartbeats 2000000 in
theorem implNumbersText_c (a : Option Addr) (len ca : Nat) (Z : Nat → Nat) (w : World) (h1 : SlF w a len Z) (hz : ∀ j, WfC .f32 (cl .f32 (Z j))) (hd : w.cell? ⟨6, 15, none⟩ = some (.int .u8 4)) :
    Calls Tryz.prog 31 #[.slice a len ca] w fun e w' => e = .returned (.tuple #[.string (if len ≤ 256 then textG (hexZ Z) len else ⟨#[]⟩), .bool (decide (len ≤ 256))]) ∧ Gro w w' := by
  obtain ⟨i0, hi, hz0, hz1, hz2⟩ := info_parts info_str
  have hm := h1.1
  unfold maxLen at hm
  by_cases hl : len ≤ 256
  case neg =>
    have hl' : (256 : Int) < len := by omega
    rw [if_neg hl, decide_eq_false hl]
    go_enter Tryz.func31, Tryz.ntmps31
    go_wp2
    all_goals
      go_ret2
      exact ⟨rfl, Gro.refl _⟩
  have hl' : ¬ (256 : Int) < len := by omega
  rw [if_pos hl, decide_eq_true hl]
  have HZ := Lib.hid hz
  have HD := Lib.hid hd
  clear hz hd
  go_enter Tryz.func31, Tryz.ntmps31
  go_wp2
  go_loopw [4, 13] (fun v i wr => ∃ k : Nat, k ≤ len ∧ i = .int .i64 (k : Int) ∧ wr.ownsRow w.heap.size 9 1 v k ((wsG (hexZ Z) k).map Value.string) ∧ v ≠ .slice none 0 0 ∧ Gro w wr) (fun _ i _ => len - (intOf i).toNat)
  case atStart => exact ⟨0, Nat.zero_le _, rfl, ownsRow_empty (Nat.le_refl _), by simp, (Gro.refl _).alloc _⟩
  case round =>
    obtain ⟨k, hk, rfl, hown, hne, hg⟩ := hrel
    by_cases hlt : k < len
    · obtain ⟨b1, o1, rfl, hc1⟩ := h1.2 (by omega)
      have c0 : wr.cell? ⟨b1, o1 + k, none⟩ = some (.float .f32 (Z k)) := hg.cell (hc1 k hlt)
      have hsz := hg.size
      clear hc1
      go_wp2_with (first | (go_at_call 47; refine (implDigits_c _ (HZ.out k) _ (Gro.cell (a := w) hg HD.out)).mono ?_; rintro e w1 ⟨rfl, hg2⟩) | (at_builtin; refine wpList_append_own _ rfl _ _ 69 rfl w.heap.size 9 i0 (.string ByteArray.empty) 1 16 Tryz.underlying69 hi hz0 hz1 hz2 rfl (by decide) _ _ _ rfl ((own_gro hown hg2).alloc _) ⟨w1.heap.size, 0, none⟩ 1 1 [.string (hexT (Z k))] rfl rfl (cell_new1 _ _ _) (fun x hx => by simp at hx; subst hx; rfl) (by unfold maxLen; omega) (by omega) (by have := hg2.size; simp; omega) ?_))
      intro v' w' hown' hgrow hnn
      have hne' : v' ≠ .slice none 0 0 := fun e => by simp [e] at hnn
      have hg' : Gro w w' := RowKit.Below.grown (Gro.alloc (Gro.trans hg hg2) _) hgrow (by have := hg2.size; simp; omega) (fun j hj => (World.ownsRow.lt hown j hj).1)
      have e1 : (wsG (hexZ Z) k).map Value.string ++ [.string (hexT (Z k))] = (wsG (hexZ Z) (k + 1)).map Value.string := by rw [wsG_snoc, List.map_append]; rfl
      rw [e1] at hown'
      have HO := Lib.hid hown'
      have HN := Lib.hid hne'
      have HG := Lib.hid hg'
      clear hown' hgrow hnn hne' hg' e1 hown hne
      go_wp2
      go_roundw
      case rel => exact ⟨k + 1, by omega, by go_num, HO.out, HN.out, HG.out⟩
      case measure => simp [intOf]; omega
    · obtain rfl : k = len := by omega
      rcases hown.2 with ⟨e, -⟩ | ⟨g, cap, cur, rfl, hbg, hcur, hkc, -⟩
      · exact absurd e hne
      have hlt2 := (Array.getElem?_eq_some_iff.1 hcur).1
      have hlen := wsG_len (hexZ Z) k
      have hcells : ∀ (j : Nat) x, (wsG (hexZ Z) k)[j]? = some x → wr.cell? ⟨g, 0 + j, none⟩ = some (.string x) := fun j x hj => by
        have := hown.cells (g := g) rfl j (.string x) (by rw [List.getElem?_map, hj]; rfl)
        rw [Go.WideShapes.add_plain] at this
        exact this
      have hj := join_wsG (hexZ Z) k
      have hbd := txtG_len (hexZ Z) 8 k (fun j hj => Nat.le_of_eq (hexW_len 8 _))
      have J := joined_c g cap (wsG (hexZ Z) k) wr hcells hlt2 (by omega) (by omega) (by rw [hj]; omega)
      rw [hlen, hj] at J
      change Calls _ _ _ _ (fun e w' => e = .returned (.string (textG (hexZ Z) k)) ∧ Gro wr w') at J
      have HJ := Lib.hid J
      clear J hcells hcur hown hlen hj hbd
      go_wp2_with (go_at_call 48; refine HJ.out.mono ?_; rintro e w1 ⟨rfl, hg2⟩)
      go_ret2
      exact ⟨rfl, Gro.trans hg hg2⟩

-- @has smallLists
theorem implSumSmall_c (a : Option Addr) (len cap : Nat) (Z : Nat → Nat) (hl : len ≤ 256) (w : World) (h : SlF w a len Z) :
    Calls Tryz.prog 30 #[.slice a len cap] w (RetF2 .f32 (sumF (fun j => cl .f32 (Z j)) len) true w) := by
  have := implSumNumbers_c a len cap Z w h
  rw [if_neg (by omega), decide_eq_true hl] at this
  exact this
theorem implTextSmall_c (a : Option Addr) (len ca : Nat) (Z : Nat → Nat) (hl : len ≤ 256) (w : World) (h1 : SlF w a len Z) (hz : ∀ j, WfC .f32 (cl .f32 (Z j))) (hd : w.cell? ⟨6, 15, none⟩ = some (.int .u8 4)) :
    Calls Tryz.prog 31 #[.slice a len ca] w fun e w' => e = .returned (.tuple #[.string (textG (hexZ Z) len), .bool true]) ∧ Gro w w' := by
  have := implNumbersText_c a len ca Z w h1 hz hd
  rw [if_pos hl, decide_eq_true hl] at this
  exact this

-- @has infof32r
theorem info_f32r : (Tryz.prog.info? 28).map (fun i => (i.zero, i.size, i.bytes)) = some (some (.float .f32 0), 1, 4) := by kernel_rfl

-- @has parse16
set_option maxHeartbeats 4000000 in
set_option maxRecDepth 100000 in
theorem parse16_c (t : ByteArray) (hne : t.size ≠ 0) (hmax : t.size ≤ 1048576) (w : World) :
    Calls Tryz.prog 94 #[.string t, .int .i64 16, .int .i64 32] w fun e w' => (∃ (v : Nat) (er : Value), e = .returned (.tuple #[.int .u64 v, er]) ∧ v ≤ 4294967295 ∧ ((puF 0 t.data.toList = some v ∧ er = .nilIface) ∨ (puF 0 t.data.toList = none ∧ (er = .iface 131 (.int .i64 2) ∨ er = .iface 131 (.int .i64 1))))) ∧ w' = Lib.bytesWorld w 5 t := by
  have hemp : t.toList.isEmpty = false := by
    rw [← decide_eq_emptyBytes]
    exact decide_eq_false (fun h => hne (by rw [h]; rfl))
  have hcv := Lib.run_convert_string_bytes (P := Tryz.prog) w 9 22 5 t (u := .string) Tryz.underlying9 Tryz.underlying22 Tryz.underlying5
  have hB : ∀ j, j < t.size → (Lib.bytesWorld w 5 t).cell? ⟨w.heap.size, j, none⟩ = some (.int .u8 (t.data.toList.getD j 0).toNat) := fun j hj => Lib.bytesWorld_cell w 5 t j hj
  obtain ⟨W1, hW1⟩ : ∃ W1, W1 = Lib.bytesWorld w 5 t := ⟨_, rfl⟩
  rw [← hW1] at hcv hB ⊢
  clear hW1
  obtain ⟨bs, hL⟩ : ∃ bs, bs = t.data.toList := ⟨_, rfl⟩
  have hLn : bs.length = t.size := by rw [hL, Lib.size_eq]
  rw [← hL] at hB ⊢
  clear hL
  go_enter Tryz.func94, Tryz.ntmps94
  go_wp2
  go_loop [12, 13, 101] (fun vu vn vi => ∃ (k acc : Nat) (a : Int), vu = .bool false ∧ vn = .int .u64 a ∧ vi = .int .i64 k ∧ k ≤ t.size ∧ Hid (a = (acc : Int) ∧ acc ≤ 4294967295 ∧ puF 0 bs = puF acc (bs.drop k)))
    (fun _ _ vi => t.size - (intOf vi).toNat)
  case atStart => exact ⟨0, 0, 0, rfl, rfl, rfl, by omega, Lib.hid ⟨rfl, by omega, rfl⟩⟩
  case round =>
    obtain ⟨k, acc, a, rfl, rfl, rfl, hk, hh⟩ := hrel
    obtain ⟨ha, hacc, hdec⟩ := hh.out
    clear hh
    have a0 : 0 ≤ a := by omega
    have a1 : a ≤ 4294967295 := by omega
    by_cases hkn : k < t.size
    · have hc := hB k hkn
      have hdrop : bs.drop k = bs[k]'(by omega) :: bs.drop (k + 1) := List.drop_eq_getElem_cons (by omega)
      have hget : bs.getD k 0 = bs[k]'(by omega) := by simp [List.getD, List.getElem?_eq_getElem (show k < bs.length by omega)]
      rw [hdrop] at hdec
      rw [hget] at hc
      generalize bs[k]'(by omega) = c at hc hdec
      have hc256 : c.toNat < 256 := c.toNat_lt
      have icut : a < 1152921504606846976 := by omega
      clear hB hdrop hget
      by_cases hdig : 48 ≤ c.toNat ∧ c.toNat ≤ 57
      · have HD := Lib.hid (puD_dig hdig)
        obtain ⟨hd0, hd1⟩ := hdig
        by_cases hov : 4294967295 < 16 * acc + (c.toNat - 48)
        · have HF := Lib.hid (hdec.trans (puF_far HD.out hov))
          have iov : 4294967295 < a * 16 + ((c.toNat : Int) - 48) := by omega
          have iov2 : a * 16 + ((c.toNat : Int) - 48) < 18446744073709551616 := by omega
          clear hacc hov ha hdec HD
          go_wp2
          go_ret2
          exact ⟨⟨4294967295, _, rfl, by omega, .inr ⟨HF.out, .inr rfl⟩⟩, rfl⟩
        · have HN : Hid (a * 16 + ((c.toNat : Int) - 48) = ((16 * acc + (c.toNat - 48) : Nat) : Int) ∧ 16 * acc + (c.toNat - 48) ≤ 4294967295 ∧ puF 0 bs = puF (16 * acc + (c.toNat - 48)) (bs.drop (k + 1))) := Lib.hid ⟨by omega, by omega, hdec.trans (puF_one HD.out (by omega))⟩
          have iov : a * 16 + ((c.toNat : Int) - 48) ≤ 4294967295 := by omega
          clear hacc hov hdec ha HD
          go_wp2
          refine ⟨⟨k + 1, 16 * acc + (c.toNat - 48), a * 16 + ((c.toNat : Int) - 48), rfl, (by first | rfl | (congr 1; omega)), (by first | rfl | (congr 1; omega)), by omega, HN⟩, by simp [intOf]; omega⟩
      · have hv0 := bits_lo_u8 .or (c.toNat : Int) 32
        have hv1 := bits_hi_u8 .or (c.toNat : Int) 32
        have HE := Lib.hid (show bits .or .u8 (c.toNat : Int) 32 = lowC c from rfl)
        rw [HE.out] at hv0 hv1
        have hnd : (c.toNat : Int) < 48 ∨ 57 < (c.toNat : Int) := by omega
        by_cases h95 : c.toNat = 95
        · obtain rfl : c = 95 := UInt8.toNat_inj.1 h95
          have HF := Lib.hid (hdec.trans (puF_bad (by decide)))
          have HE5 : Hid (bits .or .u8 95 32 = 127) := Lib.hid (by decide)
          have e95 : ((95 : UInt8).toNat : Int) = 95 := rfl
          rw [e95] at hc
          clear hacc ha hdec hdig hv0 hv1 HE hnd h95 hc256 e95
          go_wp2_with (go_at_call 111; refine (Tryz.internal_strconv_lower _ _).mono ?_; rw [HE5.out]; rintro e w' ⟨rfl, rfl⟩)
          all_goals
            go_ret2
            exact ⟨⟨0, _, rfl, by omega, .inr ⟨HF.out, .inl rfl⟩⟩, rfl⟩
        have h95' : ((c.toNat : Int) == 95) = false := beq_eq_false_iff_ne.2 (by omega)
        by_cases hr : 97 ≤ lowC c ∧ lowC c ≤ 102
        · have HD := Lib.hid (puD_low hdig hr.1 hr.2)
          obtain ⟨hr0, hr1⟩ := hr
          by_cases hov : 4294967295 < 16 * acc + (lowC c - 87).toNat
          · have HF := Lib.hid (hdec.trans (puF_far HD.out hov))
            have iov : 4294967295 < a * 16 + (lowC c - 87) := by omega
            have iov2 : a * 16 + (lowC c - 87) < 18446744073709551616 := by omega
            clear hacc hov ha hdec HD hdig
            generalize lowC c = d at *
            go_wp2_with (go_at_call 111; refine (Tryz.internal_strconv_lower _ _).mono ?_; rw [HE.out]; rintro e w' ⟨rfl, rfl⟩)
            all_goals
              go_ret2
              exact ⟨⟨4294967295, _, rfl, by omega, .inr ⟨HF.out, .inr rfl⟩⟩, rfl⟩
          · have HN : Hid (a * 16 + (lowC c - 87) = ((16 * acc + (lowC c - 87).toNat : Nat) : Int) ∧ 16 * acc + (lowC c - 87).toNat ≤ 4294967295 ∧ puF 0 bs = puF (16 * acc + (lowC c - 87).toNat) (bs.drop (k + 1))) := Lib.hid ⟨by omega, by omega, hdec.trans (puF_one HD.out (by omega))⟩
            have iov : a * 16 + (lowC c - 87) ≤ 4294967295 := by omega
            clear hacc hov hdec ha HD hdig
            generalize lowC c = d at *
            go_wp2_with (go_at_call 111; refine (Tryz.internal_strconv_lower _ _).mono ?_; rw [HE.out]; rintro e w' ⟨rfl, rfl⟩)
            all_goals
              refine ⟨⟨k + 1, 16 * acc + (d - 87).toNat, a * 16 + (d - 87), rfl, (by first | rfl | (congr 1; omega)), (by first | rfl | (congr 1; omega)), by omega, HN⟩, by simp [intOf]; omega⟩
        · have HF := Lib.hid (hdec.trans (puF_bad (puD_not hdig hr)))
          have hr' : (lowC c < 97 ∨ 122 < lowC c) ∨ (102 < lowC c ∧ lowC c ≤ 122 ∧ 97 ≤ lowC c) := by omega
          clear hacc ha hdec hdig hr
          generalize lowC c = d at *
          rcases hr' with hr' | ⟨hr1, hr2, hr3⟩
          all_goals
            go_wp2_with (go_at_call 111; refine (Tryz.internal_strconv_lower _ _).mono ?_; rw [HE.out]; rintro e w' ⟨rfl, rfl⟩)
            all_goals
              go_ret2
              exact ⟨⟨0, _, rfl, by omega, .inr ⟨HF.out, .inl rfl⟩⟩, rfl⟩
    · have hkk : k = t.size := by omega
      subst hkk
      have hF : puF acc (bs.drop t.size) = some acc := by rw [List.drop_eq_nil_of_le (by omega)]; rfl
      have HF := Lib.hid (hdec.trans hF)
      subst ha
      clear hF hdec a0 a1
      go_wp2
      go_ret2
      exact ⟨⟨acc, _, rfl, hacc, .inl ⟨HF.out, rfl⟩⟩, rfl⟩

-- @has parseUint16
/-- A package-level variable reads so, whatever the call does at its own blocks. -/
theorem var_below {P : Program} {w : World} {name : String} {x : Array Value} (h : w.var? P name = some x) : ∀ w', Gro w w' → w'.var? P name = some x := fun w' hb => by
  unfold World.var? at *
  cases hg : P.globalNamed name with
  | none => simp [hg] at h
  | some g =>
    simp only [hg, Option.bind_some] at h ⊢
    have hlt : g < w.heap.size := by
      rcases Nat.lt_or_ge g w.heap.size with h' | h'
      · exact h'
      · rw [Array.getElem?_eq_none h'] at h; simp at h
    rw [Below.block hb g hlt]
    exact h
theorem size_nil {s : ByteArray} (h : s.size = 0) : s = ⟨#[]⟩ := by
  apply ByteArray.ext
  apply Array.eq_empty_of_size_eq_zero
  exact h
set_option maxHeartbeats 2000000 in
theorem parseUint16_c (s : ByteArray) (hs : s.size ≤ 1048576) (w : World) {t1 t2 : TypeId} {p1 p2 : Value} (hv1 : w.var? Tryz.prog "strconv.ErrSyntax" = some #[.iface t1 p1]) (hv2 : w.var? Tryz.prog "strconv.ErrRange" = some #[.iface t2 p2]) :
    Calls Tryz.prog 77 #[.string s, .int .i64 16, .int .i64 32] w fun e w' => ∃ (v : Nat) (er : Value), e = .returned (.tuple #[.int .u64 v, er]) ∧ v ≤ 4294967295 ∧ ((pu16 s.data.toList = some v ∧ er = .nilIface) ∨ (pu16 s.data.toList = none ∧ ∃ t p, er = .iface t p)) ∧ Gro w w' := by
  have V1 := Lib.hid (var_below hv1)
  have V2 := Lib.hid (var_below hv2)
  have C1 : ∀ w', Gro w w' → w'.cell? ⟨2, 0, none⟩ = some (.iface t1 p1) := fun w' h => (World.var?_cell (by kernel_rfl) (V1.out w' h) 0).trans rfl
  have C2 : ∀ w', Gro w w' → w'.cell? ⟨3, 0, none⟩ = some (.iface t2 p2) := fun w' h => (World.var?_cell (by kernel_rfl) (V2.out w' h) 0).trans rfl
  clear hv1 hv2
  by_cases h0 : s.size = 0
  · obtain rfl := size_nil h0
    have hp : pu16 (⟨#[]⟩ : ByteArray).data.toList = none := rfl
    go_enter Tryz.func77, Tryz.ntmps77
    go_wp2_with (first | (go_at_call 94; refine (Tryz.internal_strconv_ParseUint_empty _ _ _).mono ?_; rintro e w1 ⟨rfl, rfl⟩) | (go_at_call 95; refine (Tryz.strconv_toError_syntax _ _ _ _ _ _ (by decide) (C1 _ (Gro.refl _)) (.inr ⟨_, _, rfl⟩)).mono ?_; rintro e w2 ⟨N, rfl, -, -, hb⟩))
    all_goals
      go_ret2
      exact ⟨0, _, rfl, by omega, .inr ⟨hp, _, _, rfl⟩, hb⟩
  · have hne : pu16 s.data.toList = puF 0 s.data.toList := if_neg (fun e => h0 (by have := congrArg List.length e; simpa using this))
    rw [hne]
    have hpc := Lib.hid (parse16_c s h0 hs w)
    have hbw : Gro w (Lib.bytesWorld w 5 s) := Lib.bytesWorld_below _ _ _
    have c1 := Lib.hid (C1 _ hbw)
    have c2 := Lib.hid (C2 _ hbw)
    generalize Lib.bytesWorld w 5 s = W1 at hpc hbw c1 c2
    have hlim : s.size ≤ 281474976710656 := by omega
    clear C1 C2
    go_enter Tryz.func77, Tryz.ntmps77
    go_wp2_with (go_at_call 94; refine hpc.out.mono ?_; rintro e w1 ⟨⟨v, er, rfl, hv, hr⟩, rfl⟩; have HR := Lib.hid hr; clear hr; refine Hid.out ?_)
    rcases HR.out with ⟨hp, rfl⟩ | ⟨hp, rfl | rfl⟩
    all_goals
      have HP := Lib.hid hp
      clear hp HR
      refine Lib.hid ?_
    · go_wp2
      go_ret2
      exact ⟨v, _, rfl, hv, .inl ⟨HP.out, rfl⟩, hbw⟩
    · go_wp2_with (go_at_call 95; refine (Tryz.strconv_toError_syntax _ _ _ _ _ _ hlim c1.out (.inr ⟨_, _, rfl⟩)).mono ?_; rintro e w2 ⟨N, rfl, -, -, hb⟩)
      all_goals
        go_ret2
        exact ⟨v, _, rfl, hv, .inr ⟨HP.out, _, _, rfl⟩, Gro.trans hbw hb⟩
    · go_wp2_with (go_at_call 95; refine (Tryz.strconv_toError_range _ _ _ _ _ _ hlim c2.out (.inr ⟨_, _, rfl⟩)).mono ?_; rintro e w2 ⟨N, rfl, -, -, hb⟩)
      all_goals
        go_ret2
        exact ⟨v, _, rfl, hv, .inr ⟨HP.out, _, _, rfl⟩, Gro.trans hbw hb⟩

-- @has readDigits
set_option maxHeartbeats 2000000 in
theorem readDigits_c (s : ByteArray) (hs : s.size ≤ 1048576) (w : World) {t1 t2 : TypeId} {p1 p2 : Value} (hv1 : w.var? Tryz.prog "strconv.ErrSyntax" = some #[.iface t1 p1]) (hv2 : w.var? Tryz.prog "strconv.ErrRange" = some #[.iface t2 p2]) (hd : w.cell? ⟨6, 15, none⟩ = some (.int .u8 4)) :
    Calls Tryz.prog 50 #[.string s] w fun e w' => ∃ u, e = .returned (.tuple #[.float .f32 u, .bool (okH s)]) ∧ (okH s = true → u = valH s) ∧ Gro w w' := by
  have hx := f32from_run
  have hp := Lib.hid (parseUint16_c s hs w hv1 hv2)
  have HD := Lib.hid hd
  clear hv1 hv2 hd
  go_enter Tryz.func50, Tryz.ntmps50
  go_wp2_with (go_at_call 77; refine hp.out.mono ?_; rintro e w1 ⟨v, er, rfl, hv, hr, hg⟩; have HR := Lib.hid hr; clear hr; refine Hid.out ?_)
  rcases HR.out with ⟨hq, rfl⟩ | ⟨hq, t, p, rfl⟩
  · have HI := okH_iff hq
    have hd2 : w1.cell? ⟨6, 15, none⟩ = some (.int .u8 4) := Gro.cell hg HD.out
    have HC := Lib.hid (implDigits_c v (wf_cl (show v < 2 ^ 32 by omega)) w1 hd2)
    by_cases he : hexW 8 (nb v) = s.data.toList
    · have hok := HI.1.2 he
      have hval := HI.2 hok
      have hse : ((hexT v).toList == s.toList) = true := by rw [Lib.toList_data, Lib.toList_data]; simpa [hexT] using he
      have HO := Lib.hid hok
      generalize hexT v = X at HC hse
      have HV := Lib.hid hval
      clear he HI hq HR hok hval
      refine Lib.hid ?_
      go_wp2_with (go_at_call 47; refine HC.out.mono ?_; rintro e w2 ⟨rfl, hg2⟩)
      all_goals
        go_ret2
        exact ⟨v, by rw [HO.out]; rfl, fun _ => HV.out.symm, Gro.trans hg hg2⟩
    · have hok : okH s = false := by
        cases h : okH s
        · rfl
        · exact absurd (HI.1.1 h) he
      have hse : ((hexT v).toList == s.toList) = false := by rw [Lib.toList_data, Lib.toList_data]; simpa [hexT] using he
      have HO := Lib.hid hok
      generalize hexT v = X at HC hse
      clear he HI hq HR hok
      refine Lib.hid ?_
      go_wp2_with (go_at_call 47; refine HC.out.mono ?_; rintro e w2 ⟨rfl, hg2⟩)
      all_goals
        go_ret2
        exact ⟨v, by rw [HO.out]; rfl, fun h => (by rw [HO.out] at h; cases h), Gro.trans hg hg2⟩
  · have hok := okH_bad hq
    have HO := Lib.hid hok
    clear hq HR hok
    refine Lib.hid ?_
    go_wp2
    all_goals
      go_ret2
      exact ⟨v, by rw [HO.out]; rfl, fun h => (by rw [HO.out] at h; cases h), hg⟩

-- @has apart
theorem splitG_c (s : ByteArray) (w : World) (hs : s.size ≤ 1048576) {m : Int} (hm : w.cell? ⟨4, 0, none⟩ = some (.int .i64 m)) :
    Calls Tryz.prog 76 #[.string s, .string ⟨#[44]⟩] w fun e w' => ∃ g cap, e = .returned (.slice (some ⟨g, 0, none⟩) (pieces s).length cap) ∧ (∀ (j : Nat) x, (pieces s)[j]? = some x → w'.cell? ⟨g, j, none⟩ = some (.string x)) ∧ (∃ cur, w'.heap[g]? = some (.cells cur 9 (0, 0))) ∧ Gro w w' := by
  refine (Tryz.strings_Split s ⟨#[44]⟩ m w (by omega) hm (by decide)).mono ?_
  rintro e w' ⟨rfl, rfl⟩
  rw [pieces_len, split_pieces]
  have hh := heap_alloc_new w (.cells ((pieces s).map Value.string).toArray 9)
  refine ⟨_, _, rfl, fun j x hj => ?_, ⟨_, hh⟩, (Gro.refl _).alloc _⟩
  simp only [World.cell?, hh]
  simp [hj]
theorem apart_none (s : ByteArray) (hn : isNone s = true) (w : World) :
    Calls Tryz.prog 49 #[.string s] w (RetV (.tuple #[.slice none 0 0, .bool true]) w) := by
  have hse : (s.toList == [110, 111, 110, 101]) = true := by rw [Lib.toList_data]; exact hn
  go_enter Tryz.func49, Tryz.ntmps49
  go_wp2
  go_ret2
  exact ⟨0, rfl, rfl⟩
theorem apart_c (s : ByteArray) (hn : isNone s = false) (w : World) (hs : s.size ≤ 1048576) {m : Int} (hm : w.cell? ⟨4, 0, none⟩ = some (.int .i64 m)) :
    Calls Tryz.prog 49 #[.string s] w fun e w' => ∃ g cap, e = .returned (.tuple #[.slice (some ⟨g, 0, none⟩) (pieces s).length cap, .bool (decide ((pieces s).length ≤ 256))]) ∧ (∀ (j : Nat) x, (pieces s)[j]? = some x → w'.cell? ⟨g, j, none⟩ = some (.string x)) ∧ (∃ cur, w'.heap[g]? = some (.cells cur 9 (0, 0))) ∧ Gro w w' := by
  have hse : (s.toList == [110, 111, 110, 101]) = false := by rw [Lib.toList_data]; exact hn
  have HM := Lib.hid hm
  clear hm
  have HE := Lib.hid (show decide (((pieces s).length : Int) ≤ 256) = decide ((pieces s).length ≤ 256) from decide_eq_decide.2 (by omega))
  go_enter Tryz.func49, Tryz.ntmps49
  go_wp2_with (go_at_call 76; refine (splitG_c _ _ hs HM.out).mono ?_; rintro e w1 ⟨g, cap, rfl, hc, hcur, hg⟩; have HC := Lib.hid hc; have HU := Lib.hid hcur; clear hc hcur)
  all_goals
    go_ret2
    exact ⟨g, cap, by rw [← HE.out]; rfl, HC.out, HU.out, hg⟩

-- @has implReadNumbers
set_option maxRecDepth 100000 in
set_option maxHeartbeats 4000000 in
theorem implReadNumbers_c (s : ByteArray) (w : World) (hs : s.size ≤ 1048576) {t1 t2 : TypeId} {p1 p2 : Value}
    (hv1 : w.var? Tryz.prog "strconv.ErrSyntax" = some #[.iface t1 p1]) (hv2 : w.var? Tryz.prog "strconv.ErrRange" = some #[.iface t2 p2]) (hd : w.cell? ⟨6, 15, none⟩ = some (.int .u8 4)) {m : Int} (hm : w.cell? ⟨4, 0, none⟩ = some (.int .i64 m)) :
    Calls Tryz.prog 32 #[.string s] w fun e w' => ∃ v, e = .returned (.tuple #[v, .bool (gOk okH s)]) ∧ Gro w w' ∧ RG 28 okH fH s w w' v := by
  obtain ⟨i0, hi, hz0, hz1, hz2⟩ := info_parts info_f32r
  have V1 := Lib.hid (var_below hv1)
  have V2 := Lib.hid (var_below hv2)
  have HD := Lib.hid hd
  have HM := Lib.hid hm
  clear hv1 hv2 hd hm
  cases hn : isNone s
  case true =>
    have HO := Lib.hid (gOk_none (ok := okH) hn)
    have HV := Lib.hid (gV_none (f := fH) hn)
    have HN := Lib.hid hn
    clear hn
    go_enter Tryz.func32, Tryz.ntmps32
    go_wp2_with (go_at_call 49; refine (apart_none s HN.out _).mono ?_; rintro e w1 ⟨n, rfl, rfl⟩)
    go_loopw [6, 19] (fun v i wr => v = .slice (some ⟨w.heap.size, 0, none⟩) 0 0 ∧ i = .int .i64 0 ∧ wr = (w.drewN n).alloc (.cells #[] 28)) (fun _ _ _ => 0)
    case atStart => exact ⟨rfl, rfl, rfl⟩
    case round =>
      obtain ⟨rfl, rfl, rfl⟩ := hrel
      go_wp2
      go_ret2
      exact ⟨.slice (some ⟨w.heap.size, 0, none⟩) 0 0, by rw [HO.out]; rfl, Gro.alloc (Gro.drewN (Gro.refl _) _) _, .inl ⟨HO.out, by simp, by rw [HV.out]; exact ownsRow_empty (w := w.drewN n) (Nat.le_refl _)⟩⟩
  have HN := Lib.hid hn
  have hps := Lib.hid (pieces_size s)
  have ap := Lib.hid (apart_c s hn w hs HM.out)
  clear hn
  by_cases hl : (pieces s).length ≤ 256
  case neg =>
    have HO := Lib.hid (gOk_long (ok := okH) HN.out (by omega))
    have hlen : 256 < (pieces s).length := by omega
    rw [decide_eq_false hl] at ap
    clear hl
    obtain ⟨p, hp⟩ : ∃ p, (pieces s)[0]? = some p := ⟨_, List.getElem?_eq_getElem (by omega)⟩
    have HP := Lib.hid hp
    have hpz : p.size ≤ 1048576 := Nat.le_trans (hps.out p (List.mem_of_getElem? hp)) hs
    clear hp
    go_enter Tryz.func32, Tryz.ntmps32
    go_wp2_with (go_at_call 49; refine ap.out.mono ?_; rintro e w1 ⟨g, cap, rfl, hc, ⟨cur, hcur⟩, hg⟩; have HC := Lib.hid hc; clear hc)
    have c0 : w1.cell? ⟨g, 0, none⟩ = some (.string p) := HC.out 0 p HP.out
    go_loopw [6, 19] (fun v i wr => v = .slice (some ⟨w1.heap.size, 0, none⟩) 0 0 ∧ i = .int .i64 0 ∧ wr = w1.alloc (.cells #[] 28)) (fun _ _ _ => 0)
    case atStart => exact ⟨rfl, rfl, rfl⟩
    case round =>
      obtain ⟨rfl, rfl, rfl⟩ := hrel
      have hga : Gro w (w1.alloc (.cells #[] 28)) := hg.alloc _
      have c1 : (w1.alloc (.cells #[] 28)).cell? ⟨g, 0, none⟩ = some (.string p) := Gro.cell ((Gro.refl w1).alloc _) c0
      generalize w1.alloc (.cells #[] 28) = W2 at hga c1 ⊢
      go_wp2_with (go_at_call 50; refine (readDigits_c p hpz _ (V1.out _ hga) (V2.out _ hga) (Gro.cell hga HD.out)).mono ?_; rintro e w3 ⟨u, rfl, -, hg3⟩)
      all_goals
        go_ret2
        exact ⟨.slice none 0 0, by rw [HO.out]; rfl, Gro.trans hga hg3, .inr ⟨HO.out, rfl⟩⟩
  case pos =>
  rw [decide_eq_true hl] at ap
  go_enter Tryz.func32, Tryz.ntmps32
  go_wp2_with (go_at_call 49; refine ap.out.mono ?_; rintro e w1 ⟨g, cap, rfl, hc, ⟨cur, hcur⟩, hg⟩; have HC := Lib.hid hc; clear hc)
  have hgw : Gro w (w1.alloc (.cells #[] 28)) := hg.alloc _
  go_loopw [6, 19] (fun v i wr => ∃ k : Nat, k ≤ (pieces s).length ∧ i = .int .i64 (k : Int) ∧ (∀ (j : Nat) p, j < k → (pieces s)[j]? = some p → okH p = true) ∧ wr.ownsRow w.heap.size 28 1 v k (gC fH (pieces s) k) ∧ v ≠ .slice none 0 0 ∧ Gro w wr ∧ wr.heap[g]? = some (.cells cur 9 (0, 0))) (fun _ i _ => (pieces s).length - (intOf i).toNat)
  case atStart => exact ⟨0, Nat.zero_le _, rfl, fun j p h => absurd h (Nat.not_lt_zero _), ownsRow_empty hg.size, by simp, hgw, (block_gro ((Gro.refl w1).alloc _) hcur).trans hcur⟩
  case round =>
    obtain ⟨k, hk, rfl, hall, hown, hne, hgr, hgc⟩ := hrel
    have HA := Lib.hid hall
    clear hall
    by_cases hlt : k < (pieces s).length
    · obtain ⟨p, hp⟩ : ∃ p, (pieces s)[k]? = some p := ⟨_, List.getElem?_eq_getElem hlt⟩
      have c0 : wr.cell? ⟨g, k, none⟩ = some (.string p) := (cell_block (hgc.trans hcur.symm)).trans (HC.out k p hp)
      have HP := Lib.hid hp
      have hpz : p.size ≤ 1048576 := Nat.le_trans (hps.out p (List.mem_of_getElem? hp)) hs
      have hsz := hgr.size
      clear hp
      cases hok : okH p
      · have HK := Lib.hid hok
        have HO := Lib.hid (gOk_bad (ok := okH) HN.out HP.out hok)
        clear hok hown hne
        go_wp2_with (go_at_call 50; refine (readDigits_c p hpz _ (V1.out _ hgr) (V2.out _ hgr) (Gro.cell hgr HD.out)).mono ?_; rw [HK.out]; rintro e w2 ⟨u, rfl, -, hg2⟩)
        all_goals
          go_ret2
          exact ⟨.slice none 0 0, by rw [HO.out]; rfl, Gro.trans hgr hg2, .inr ⟨HO.out, rfl⟩⟩
      · have HK := Lib.hid hok
        clear hok
        go_wp2_with (first | (go_at_call 50; refine (readDigits_c p hpz _ (V1.out _ hgr) (V2.out _ hgr) (Gro.cell hgr HD.out)).mono ?_; rw [HK.out]; rintro e w2 ⟨u, rfl, hu, hg2⟩; obtain rfl := hu rfl) | (at_builtin; refine wpList_append_own _ rfl _ _ 52 rfl w.heap.size 28 i0 (.float .f32 0) 1 4 Tryz.underlying52 hi hz0 hz1 hz2 rfl (by decide) _ _ _ rfl ((own_gro hown hg2).alloc _) ⟨w2.heap.size, 0, none⟩ 1 1 [.float .f32 (valH p)] rfl rfl (cell_new1 _ _ _) (fun x hx => by simp at hx; subst hx; rfl) (by unfold maxLen; omega) (by omega) (by have := hg2.size; simp; omega) ?_))
        intro v' w' hown' hgrow hnn
        have hne' : v' ≠ .slice none 0 0 := fun e => by simp [e] at hnn
        have hg' : Gro w w' := RowKit.Below.grown (Gro.alloc (Gro.trans hgr hg2) _) hgrow (by have := hg2.size; simp; omega) (fun j hj => (World.ownsRow.lt hown j hj).1)
        rw [show (Value.float .f32 (valH p)) = fH p from rfl, gC_snoc HP.out] at hown'
        have HB := Lib.hid (block_append ((block_gro hg2 hgc).trans hgc) hown hgc (by decide) hgrow)
        have HW := Lib.hid hown'
        have HE := Lib.hid hne'
        have HG := Lib.hid hg'
        clear hown' hgrow hnn hne' hg' hown hne
        go_wp2
        go_roundw
        case rel =>
          refine ⟨k + 1, by omega, by go_num, fun j q hj hq => ?_, HW.out, HE.out, HG.out, HB.out⟩
          rcases Nat.lt_or_eq_of_le (Nat.le_of_lt_succ hj) with h | rfl
          · exact HA.out j q h hq
          · rw [HP.out] at hq
            cases hq
            exact HK.out
        case measure => simp [intOf]; omega
    · obtain rfl : k = (pieces s).length := by omega
      have HO := Lib.hid (gOk_yes (ok := okH) HN.out (by omega) HA.out)
      rw [gC_all fH s HN.out] at hown
      have HW := Lib.hid hown
      have HE := Lib.hid hne
      have HL := Lib.hid (gV_len fH s HN.out)
      clear hown hne
      go_wp2
      go_ret2
      exact ⟨_, by rw [HO.out]; rfl, hgr, .inl ⟨HO.out, HE.out, by rw [HL.out]; exact HW.out⟩⟩

-- @has l01Bits
theorem l01Bits_c (b : Nat) (hb : WfC .f32 (cl .f32 b)) (w : World) :
    Calls Tryz.prog 70 #[.float .f32 b] w (RetV (.int .i64 (bitsC (cl .f32 b))) w) := by
  have hx := f32bits_run
  rcases h : cl .f32 b with _ | c
  · go_enter Tryz.func70, Tryz.ntmps70
    go_wp2
    go_ret
    exact ⟨0, rfl, rfl⟩
  · have hs := ford_self h
    obtain ⟨rfl, -⟩ := cl_some h
    have hb' : b < 2 ^ 32 := hb _ h
    clear hb
    go_enter Tryz.func70, Tryz.ntmps70
    go_wp2
    go_ret
    exact ⟨0, rfl, rfl⟩

-- @has l01Same
theorem l01Same_c (a b : Nat) (ha : WfC .f32 (cl .f32 a)) (hb : WfC .f32 (cl .f32 b)) (w : World) : Calls Tryz.prog 43 #[.float .f32 a, .float .f32 b] w (RetV (.bool (decide (cl .f32 a = cl .f32 b))) w) := by
  have hs := bitsC_same a b
  go_enter Tryz.func43, Tryz.ntmps43
  go_wp2_with (go_at_call 70; refine (l01Bits_c _ (by assumption) _).mono ?_; rintro e w' ⟨m, rfl, rfl⟩)
  go_ret
  exact ⟨_, rfl, rfl⟩

-- @has specSameNumber
theorem specSameNumber_c (a b : Nat) (ha : WfC .f32 (cl .f32 a)) (hb : WfC .f32 (cl .f32 b)) (w : World) : Calls Tryz.prog 10 #[.float .f32 a, .float .f32 b] w (RetV (.bool (decide (cl .f32 a = cl .f32 b))) w) := by
  go_enter Tryz.func10, Tryz.ntmps10
  go_wp2_with (go_at_call 43; refine (l01Same_c _ _ ha hb _).mono ?_; rintro e w' ⟨m, rfl, rfl⟩)
  go_ret
  exact ⟨_, rfl, rfl⟩

-- @has sqrt
theorem sqrt_run (x : Nat) (w : World) : (callFunc 71 #[.float .f64 x]).run Tryz.prog w = ((Extern.MathSqrt.sqrt #[.float .f64 x]).run Tryz.prog w).andThen fun v w' => .ok (.value v) w' :=
  run_callFunc_extern Tryz.func71 (by kernel_rfl) (by kernel_rfl) (by kernel_rfl) (by kernel_rfl) _ _

-- @has Sqrt
theorem Sqrt_c (b : Nat) (w : World) : Calls Tryz.prog 44 #[.float .f64 b] w (RetF .f64 (fsqrt (cl .f64 b)) w) := by
  go_enter Tryz.func44, Tryz.ntmps44
  go_wp2_with (refine wpList_sqrt _ 71 sqrt_run _ _ rfl _ rfl rfl ?_; intro b1 n1 h1)
  go_ret
  exact ⟨_, _, rfl, by assumption, rfl⟩

-- @has implAngle
set_option maxHeartbeats 8000000 in
theorem implAngle_c (y x : Nat) (w : World) : Calls Tryz.prog 67 #[.float .f64 y, .float .f64 x] w (RetF .f64 (angC (cl .f64 y) (cl .f64 x)) w) := by
  have tg := tst_gt .f64
  have tl := tst_lt .f64
  cases hov : fgt .f64 (absC (cl .f64 y)) (absC (cl .f64 x))
  · go_enter Tryz.func67, Tryz.ntmps67
    go_wp2_with (first | (refine wpList_farith _ _ _ _ _ _ rfl rfl _ _ _ rfl rfl rfl ?_; intro b1 n1 h1) | (go_at_call 65; refine (abs_c _ _).mono ?_; rintro e w' ⟨r, n, rfl, hr, rfl⟩))
    go_loopw [7, 25] (fun t i wr => ∃ k n b : Nat, k ≤ 3 ∧ i = .int .i64 k ∧ t = .float .f64 b ∧ cl .f64 b = angT (fop .quo .f64 (absC (cl .f64 y)) (absC (cl .f64 x))) k ∧ wr = w.drewN n) (fun _ i _ => 3 - (intOf i).toNat)
    case atStart => exact ⟨0, _, _, Nat.zero_le _, rfl, rfl, by simp only [*]; rfl, rfl⟩
    case round =>
      obtain ⟨k, n, b, hk, rfl, rfl, hb, rfl⟩ := hrel
      by_cases hlt : k < 3
      · have hb' := Lib.hid hb
        clear hb
        go_wp2_with (first | (refine wpList_farith _ .mul _ _ _ _ rfl rfl _ _ _ rfl rfl rfl ?_; intro m1 n1 g1) | (refine wpList_farith _ .quo _ _ _ _ rfl rfl _ _ _ rfl rfl rfl ?_; intro m4 n4 g4) | (refine wpList_farith _ .add _ _ _ _ rfl rfl _ _ _ rfl rfl rfl ?_; intro m2 n2 g2) | (go_at_call 44; refine (Sqrt_c _ _).mono ?_; rintro e w' ⟨r, m3, rfl, g3, rfl⟩))
        go_roundw
        case rel => exact ⟨k + 1, _, _, by omega, by go_num, rfl, by rw [angT, ← hb'.out]; unfold angStep c1; simp only [*], rfl⟩
        case measure => simp [intOf]; omega
      · obtain rfl : k = 3 := by omega
        have hb' := Lib.hid hb
        clear hb
        go_wp2_with (refine wpList_farith _ _ _ _ _ _ rfl rfl _ _ _ rfl rfl rfl ?_; intro b1 n1 h1)
        have hu : cl .f64 _ = fop .mul .f64 (angT (fop .quo .f64 (absC (cl .f64 y)) (absC (cl .f64 x))) 3) (angT (fop .quo .f64 (absC (cl .f64 y)) (absC (cl .f64 x))) 3) := h1.trans (by rw [hb'.out])
        go_loopw [9, 10] (fun p i wr => ∃ j n b : Nat, j ≤ 8 ∧ i = .int .i64 (15 - 2 * (j : Int)) ∧ p = .float .f64 b ∧ cl .f64 b = angP (fop .mul .f64 (angT (fop .quo .f64 (absC (cl .f64 y)) (absC (cl .f64 x))) 3) (angT (fop .quo .f64 (absC (cl .f64 y)) (absC (cl .f64 x))) 3)) j ∧ wr = w.drewN n) (fun _ i _ => (intOf i + 2).toNat)
        case atStart => exact ⟨0, _, 0, Nat.zero_le _, rfl, rfl, rfl, rfl⟩
        case round =>
          obtain ⟨j, n, p, hj, rfl, rfl, hp, rfl⟩ := hrel
          have hp' := Lib.hid hp
          have hu' := Lib.hid hu
          clear hp hu
          by_cases hlt : j < 8
          · go_wp2_with (first | (refine wpList_farith _ .quo _ _ _ _ rfl rfl _ _ _ rfl rfl rfl ?_; intro m1 n1 g1) | (refine wpList_farith _ .mul _ _ _ _ rfl rfl _ _ _ rfl rfl rfl ?_; intro m2 n2 g2) | (refine wpList_farith _ .sub _ _ _ _ rfl rfl _ _ _ rfl rfl rfl ?_; intro m3 n3 g3))
            go_roundw
            case rel => exact ⟨j + 1, _, _, by omega, by go_num, rfl, by rw [angP, ← hp'.out, ← hu'.out]; unfold i2f c1; simp only [*], rfl⟩
            case measure => simp [intOf]; omega
          · obtain rfl : j = 8 := by omega
            go_wp2_with (refine wpList_farith _ _ _ _ _ _ rfl rfl _ _ _ rfl rfl rfl ?_; intro b1 n1 h1)
            all_goals
              go_ret
              refine ⟨_, _, rfl, ?_, rfl⟩
              unfold angC
              simp only [hov, if_false, Bool.false_eq_true]
              unfold angOut
              rw [← hp'.out, ← hb'.out]
              simp [angTurn, cl_neg, *]
  · go_enter Tryz.func67, Tryz.ntmps67
    go_wp2_with (first | (refine wpList_farith _ _ _ _ _ _ rfl rfl _ _ _ rfl rfl rfl ?_; intro b1 n1 h1) | (go_at_call 65; refine (abs_c _ _).mono ?_; rintro e w' ⟨r, n, rfl, hr, rfl⟩))
    go_loopw [7, 25] (fun t i wr => ∃ k n b : Nat, k ≤ 3 ∧ i = .int .i64 k ∧ t = .float .f64 b ∧ cl .f64 b = angT (fop .quo .f64 (absC (cl .f64 x)) (absC (cl .f64 y))) k ∧ wr = w.drewN n) (fun _ i _ => 3 - (intOf i).toNat)
    case atStart => exact ⟨0, _, _, Nat.zero_le _, rfl, rfl, by simp only [*]; rfl, rfl⟩
    case round =>
      obtain ⟨k, n, b, hk, rfl, rfl, hb, rfl⟩ := hrel
      by_cases hlt : k < 3
      · have hb' := Lib.hid hb
        clear hb
        go_wp2_with (first | (refine wpList_farith _ .mul _ _ _ _ rfl rfl _ _ _ rfl rfl rfl ?_; intro m1 n1 g1) | (refine wpList_farith _ .quo _ _ _ _ rfl rfl _ _ _ rfl rfl rfl ?_; intro m4 n4 g4) | (refine wpList_farith _ .add _ _ _ _ rfl rfl _ _ _ rfl rfl rfl ?_; intro m2 n2 g2) | (go_at_call 44; refine (Sqrt_c _ _).mono ?_; rintro e w' ⟨r, m3, rfl, g3, rfl⟩))
        go_roundw
        case rel => exact ⟨k + 1, _, _, by omega, by go_num, rfl, by rw [angT, ← hb'.out]; unfold angStep c1; simp only [*], rfl⟩
        case measure => simp [intOf]; omega
      · obtain rfl : k = 3 := by omega
        have hb' := Lib.hid hb
        clear hb
        go_wp2_with (refine wpList_farith _ _ _ _ _ _ rfl rfl _ _ _ rfl rfl rfl ?_; intro b1 n1 h1)
        have hu : cl .f64 _ = fop .mul .f64 (angT (fop .quo .f64 (absC (cl .f64 x)) (absC (cl .f64 y))) 3) (angT (fop .quo .f64 (absC (cl .f64 x)) (absC (cl .f64 y))) 3) := h1.trans (by rw [hb'.out])
        go_loopw [9, 10] (fun p i wr => ∃ j n b : Nat, j ≤ 8 ∧ i = .int .i64 (15 - 2 * (j : Int)) ∧ p = .float .f64 b ∧ cl .f64 b = angP (fop .mul .f64 (angT (fop .quo .f64 (absC (cl .f64 x)) (absC (cl .f64 y))) 3) (angT (fop .quo .f64 (absC (cl .f64 x)) (absC (cl .f64 y))) 3)) j ∧ wr = w.drewN n) (fun _ i _ => (intOf i + 2).toNat)
        case atStart => exact ⟨0, _, 0, Nat.zero_le _, rfl, rfl, rfl, rfl⟩
        case round =>
          obtain ⟨j, n, p, hj, rfl, rfl, hp, rfl⟩ := hrel
          have hp' := Lib.hid hp
          have hu' := Lib.hid hu
          clear hp hu
          by_cases hlt : j < 8
          · go_wp2_with (first | (refine wpList_farith _ .quo _ _ _ _ rfl rfl _ _ _ rfl rfl rfl ?_; intro m1 n1 g1) | (refine wpList_farith _ .mul _ _ _ _ rfl rfl _ _ _ rfl rfl rfl ?_; intro m2 n2 g2) | (refine wpList_farith _ .sub _ _ _ _ rfl rfl _ _ _ rfl rfl rfl ?_; intro m3 n3 g3))
            go_roundw
            case rel => exact ⟨j + 1, _, _, by omega, by go_num, rfl, by rw [angP, ← hp'.out, ← hu'.out]; unfold i2f c1; simp only [*], rfl⟩
            case measure => simp [intOf]; omega
          · obtain rfl : j = 8 := by omega
            go_wp2_with (refine wpList_farith _ _ _ _ _ _ rfl rfl _ _ _ rfl rfl rfl ?_; intro b1 n1 h1)
            all_goals
              go_ret
              refine ⟨_, _, rfl, ?_, rfl⟩
              unfold angC
              simp only [hov, if_true]
              unfold angOut
              rw [← hp'.out, ← hb'.out]
              simp [angTurn, cl_neg, *]

-- @has IsNaN
theorem isNaN_c (b : Nat) (w : World) : Calls Tryz.prog 96 #[.float .f64 b] w (RetV (.bool (cl .f64 b).isNone) w) := by
  rcases h : cl .f64 b with _ | c
  · go_enter Tryz.func96, Tryz.ntmps96
    go_wp2
    go_ret
    exact ⟨0, rfl, rfl⟩
  · have hs := ford_self h
    go_enter Tryz.func96, Tryz.ntmps96
    go_wp2
    go_ret
    exact ⟨0, rfl, rfl⟩

-- @has IsInf
theorem isInf_c (b c : Nat) (h : cl .f64 b = some c) (w : World) : Calls Tryz.prog 97 #[.float .f64 b, .int .i64 0] w (RetV (.bool (!isFin .f64 (some c))) w) := by
  have h2 := isInf_eq b c h
  rw [maxFin_eq] at h2
  go_enter Tryz.func97, Tryz.ntmps97
  go_wp2_with (go_at_call 65; refine (abs_c _ _).mono ?_; rintro e w' ⟨r, n, rfl, hr, rfl⟩)
  go_ret
  exact ⟨_, rfl, rfl⟩

-- @has finite
theorem finite_c (b : Nat) (w : World) : Calls Tryz.prog 82 #[.float .f64 b] w (RetV (.bool (isFin .f64 (cl .f64 b))) w) := by
  rcases h : cl .f64 b with _ | c
  · go_enter Tryz.func82, Tryz.ntmps82
    go_wp2_with (go_at_call 96; refine (isNaN_c _ _).mono ?_; rintro e w' ⟨n, rfl, rfl⟩)
    go_ret
    exact ⟨_, rfl, rfl⟩
  · cases hf : isFin .f64 (some c)
    all_goals
      go_enter Tryz.func82, Tryz.ntmps82
      go_wp2_with (first | (go_at_call 96; refine (isNaN_c _ _).mono ?_; rintro e w' ⟨n, rfl, rfl⟩) | (go_at_call 97; refine (isInf_c _ c h _).mono ?_; rintro e w' ⟨n, rfl, rfl⟩))
      go_ret
      exact ⟨_, rfl, rfl⟩

-- @has implIsFinite
theorem implIsFinite_c (b : Nat) (w : World) : Calls Tryz.prog 61 #[.float .f32 b] w (RetV (.bool (isFin .f32 (cl .f32 b))) w) := by
  have hw := isFin_widen b
  go_enter Tryz.func61, Tryz.ntmps61
  go_wp2_with (first | (refine wpList_widen _ _ _ _ rfl _ rfl Tryz.underlying46 (by rw [Tryz.underlying28]; rfl) rfl ?_; intro b1 n1 h1) | (go_at_call 82; refine (finite_c _ _).mono ?_; rintro e w' ⟨n, rfl, rfl⟩))
  go_ret
  exact ⟨_, rfl, rfl⟩

-- @has NaN
theorem nan_c (w : World) : Calls Tryz.prog 66 #[] w (RetV (.float .f64 9221120237041090561) w) := by
  have hy := f64from_run
  go_enter Tryz.func66, Tryz.ntmps66
  go_wp2
  go_ret
  exact ⟨0, rfl, rfl⟩

-- @has implAngleTurns
theorem implAngleTurns_c (y x : Nat) (w : World) : Calls Tryz.prog 34 #[.float .f32 y, .float .f32 x] w (RetF .f32 (angR (cl .f32 y) (cl .f32 x)) w) := by
  have te := tst_eq .f32
  unfold angR
  cases fy : isFin .f32 (cl .f32 y)
  · go_enter Tryz.func34, Tryz.ntmps34
    go_wp2_with (first | (go_at_call 61; refine (implIsFinite_c _ _).mono ?_; rintro e w1 ⟨n, rfl, rfl⟩) | (go_at_call 66; refine (nan_c _).mono ?_; rintro e w1 ⟨n, rfl, rfl⟩) | (refine wpList_narrow _ _ _ _ rfl _ rfl Tryz.underlying28 (by rw [Tryz.underlying46]; rfl) rfl (by decide +kernel) ?_; intro b1 n1 h1))
    go_ret
    exact ⟨_, _, rfl, by rw [h1]; decide +kernel, rfl⟩
  cases fx : isFin .f32 (cl .f32 x)
  · go_enter Tryz.func34, Tryz.ntmps34
    go_wp2_with (first | (go_at_call 61; refine (implIsFinite_c _ _).mono ?_; rintro e w1 ⟨n, rfl, rfl⟩) | (go_at_call 66; refine (nan_c _).mono ?_; rintro e w1 ⟨n, rfl, rfl⟩) | (refine wpList_narrow _ _ _ _ rfl _ rfl Tryz.underlying28 (by rw [Tryz.underlying46]; rfl) rfl (by decide +kernel) ?_; intro b1 n1 h1))
    go_ret
    exact ⟨_, _, rfl, by rw [h1]; decide +kernel, rfl⟩
  rw [if_pos (by rfl)]
  cases zx : feq .f32 (cl .f32 x) (cl .f32 0)
  all_goals cases zy : feq .f32 (cl .f32 y) (cl .f32 0)
  case true.true =>
    go_enter Tryz.func34, Tryz.ntmps34
    go_wp2_with (go_at_call 61; refine (implIsFinite_c _ _).mono ?_; rintro e w1 ⟨n, rfl, rfl⟩)
    go_ret
    exact ⟨_, _, rfl, rfl, rfl⟩
  all_goals
    rw [if_neg (by decide)]
    have F := Lib.hid (ang_fits y x fy fx (by rw [zx, zy]; decide))
    go_enter Tryz.func34, Tryz.ntmps34
    go_wp2_with (first | (go_at_call 61; refine (implIsFinite_c _ _).mono ?_; rintro e w1 ⟨n, rfl, rfl⟩) | (refine wpList_widen _ _ _ _ rfl _ rfl Tryz.underlying46 (by rw [Tryz.underlying28]; rfl) rfl ?_; intro b1 n1 h1) | (go_at_call 67; refine (implAngle_c _ _ _).mono ?_; rintro e w1 ⟨r, n, rfl, hr, rfl⟩) | (refine wpList_narrow _ _ _ _ rfl _ rfl Tryz.underlying28 (by rw [Tryz.underlying46]; rfl) rfl (by simp only [*]; exact F.out) ?_; intro b1 n1 h1))
    go_ret
    exact ⟨_, _, rfl, by simp only [*], rfl⟩

-- @has implAngleOf
theorem implAngleOf_c (re im : Nat) (w : World) : Calls Tryz.prog 35 #[.complex .f32 re im] w (RetF .f32 (angR (cl .f32 im) (cl .f32 re)) w) := by
  go_enter Tryz.func35, Tryz.ntmps35
  go_wp2_with (go_at_call 34; refine (implAngleTurns_c _ _ _).mono ?_; rintro e w1 ⟨r, n, rfl, hr, rfl⟩)
  go_ret
  exact ⟨_, _, rfl, hr, rfl⟩
theorem implNarrowNumber_c (b : Nat) (hf : fits (cl .f64 b) = true) (w : World) : Calls Tryz.prog 36 #[.float .f64 b] w (RetF .f32 (narrow (cl .f64 b)) w) := by
  have HF := Lib.hid hf
  clear hf
  go_enter Tryz.func36, Tryz.ntmps36
  go_wp2_with (refine wpList_narrow _ _ _ _ rfl _ rfl Tryz.underlying28 (by rw [Tryz.underlying46]; rfl) rfl (HF.out) ?_; intro b1 n1 h1)
  go_ret
  exact ⟨_, _, rfl, h1, rfl⟩

-- @has Trunc
theorem archTrunc_run (b c : Nat) (h : cl .f64 b = some c) (w : World) : (callFunc 117 #[.float .f64 b]).run Tryz.prog w = .ok (.value (.float .f64 (FloatKind.f64.format.write ((FloatKind.f64.format.read b).integral .zero)))) w := by
  rw [run_callFunc_extern Tryz.func117 (e := Extern.MathFloor.toIntegral "math.archTrunc" .zero) (by kernel_rfl) (by kernel_rfl) (by kernel_rfl) (by kernel_rfl), run_integral w _ _ _ _ h]; rfl
theorem trunc_c (b c : Nat) (h : cl .f64 b = some c) (w : World) : Calls Tryz.prog 98 #[.float .f64 b] w (RetV (.float .f64 (FloatKind.f64.format.write ((FloatKind.f64.format.read b).integral .zero))) w) := by
  have hx := archTrunc_run b c h
  clear h
  go_enter Tryz.func98, Tryz.ntmps98
  go_wp2
  go_ret
  exact ⟨0, rfl, rfl⟩

-- @has behind
theorem behind_c (b : Nat) (h : Tur b) (w : World) : Calls Tryz.prog 85 #[.float .f64 b] w (RetF .f64 (behC b) w) := by
  have tl := tst_lt .f64
  have hb := Lib.hid h.1
  have T := Lib.hid (trunc_add h)
  unfold behC
  cases hq : flt .f64 (fracC b) (cl .f64 0)
  all_goals
    go_enter Tryz.func85, Tryz.ntmps85
    go_wp2_with (first | (go_at_call 98; refine (trunc_c _ _ hb.out _).mono ?_; rintro e w1 ⟨m, rfl, rfl⟩) | (refine wpList_farith _ .sub _ _ _ _ rfl rfl _ _ _ rfl rfl rfl ?_; intro m2 n2 g2; rw [g1, T.out, hb.out] at g2; change cl .f64 m2 = fracC b at g2) | (refine wpList_farith _ .add _ _ _ _ rfl rfl _ _ _ rfl rfl rfl ?_; intro m1 n1 g1))
    go_ret
    exact ⟨_, _, rfl, by simp only [*], rfl⟩

-- @has sine
set_option maxHeartbeats 4000000 in
theorem sine_c (b : Nat) (h : Tur b) (w : World) : Calls Tryz.prog 68 #[.float .f64 b] w (RetF .f64 (sinC b) w) := by
  have tg := tst_gt .f64
  have te := tst_eq .f64
  have tq : ∀ f, fgt .f64 f (cl .f64 4598175219545276416) = sinQ f := fun _ => rfl
  have tt : ∀ f, (fgt .f64 f (cl .f64 4602678819172646912) || feq .f64 f (cl .f64 4602678819172646912)) = sinT f := fun _ => rfl
  obtain ⟨F, hF⟩ : ∃ F, F = behC b := ⟨_, rfl⟩
  obtain ⟨Z, hZ⟩ : ∃ Z, Z = sinZ F := ⟨_, rfl⟩
  have FF := Lib.hid hF
  have ZZ := Lib.hid hZ
  have e : sinC b = if sinT F then negC (sinO Z) else sinO Z := by rw [hZ, hF]; rfl
  rw [e]
  clear hF hZ e
  cases t1 : sinT F
  all_goals cases t2 : sinQ (sinA (sinT F) F)
  all_goals
    rw [t1] at t2
    have E1 := Lib.hid t1
    have E2 := Lib.hid t2
    unfold sinA at t2
    (try simp only [if_true, Bool.false_eq_true, if_false] at t2)
    go_enter Tryz.func68, Tryz.ntmps68
    go_wp2_with (first | ((go_at_call 85; refine (behind_c _ h _).mono ?_; rintro e w1 ⟨r, n, rfl, hr, rfl⟩); rw [← FF.out] at hr) | (refine wpList_farith _ .sub _ _ _ _ rfl rfl _ _ _ rfl rfl rfl ?_; intro m1 n1 g1) | (refine wpList_farith _ .mul _ _ _ _ rfl rfl _ _ _ rfl rfl rfl ?_; intro z nz gz; have hz : cl .f64 z = Z := by rw [ZZ.out]; unfold sinZ; rw [E1.out, E2.out]; simp only [sinA, sinB, if_true, if_false, Bool.false_eq_true]; simp only [*]; done) | (refine wpList_farith _ .mul _ _ _ _ rfl rfl _ _ _ rfl rfl rfl ?_; intro u nu gu; have hu : cl .f64 u = sinU Z := by rw [gu, hz]; rfl))
    clear gz gu
    have hu' := Lib.hid hu
    clear hu
    go_loopw [7, 8] (fun p i wr => ∃ j n q : Nat, j ≤ 8 ∧ i = .int .i64 (8 - (j : Int)) ∧ p = .float .f64 q ∧ cl .f64 q = sinP (sinU Z) j ∧ wr = w.drewN n) (fun _ i _ => (intOf i + 2).toNat)
    case atStart => exact ⟨0, _, _, Nat.zero_le _, rfl, rfl, rfl, rfl⟩
    case round =>
      obtain ⟨j, n, q, hj, rfl, rfl, hq, rfl⟩ := hrel
      have hp' := Lib.hid hq
      clear hq
      by_cases hlt : j < 8
      · go_wp2_with (first | (refine wpList_farith _ .mul _ _ _ _ rfl rfl _ _ _ rfl rfl rfl ?_; intro m1 n1 g1) | (refine wpList_farith _ .quo _ _ _ _ rfl rfl _ _ _ rfl rfl rfl ?_; intro m2 n2 g2) | (refine wpList_farith _ .sub _ _ _ _ rfl rfl _ _ _ rfl rfl rfl ?_; intro m3 n3 g3))
        go_roundw
        case rel => exact ⟨j + 1, _, _, by omega, by go_num, rfl, by rw [sin_wrap j hlt] at g2; rw [sinP, ← hp'.out, ← hu'.out]; unfold i2f; simp only [*], rfl⟩
        case measure => simp [intOf]; omega
      · obtain rfl : j = 8 := by omega
        go_wp2_with (refine wpList_farith _ .mul _ _ _ _ rfl rfl _ _ _ rfl rfl rfl ?_; intro o no go; have ho : cl .f64 o = sinO Z := by (rw [go, hz, hp'.out]; rfl))
        all_goals
          go_ret
          exact ⟨_, _, rfl, by simp [cl_neg, ho], rfl⟩

-- @has implSineTurns
theorem implSineTurns_c (a : Nat) (w : World) : Calls Tryz.prog 37 #[.float .f32 a] w (RetF .f32 (narrow (sinW (widen (cl .f32 a)))) w) := by
  have tg := tst_gt .f64
  have te := tst_eq .f64
  rcases sin_ways a with ⟨hf, hw⟩ | ⟨b, hb, hf, hf2, hb2, ⟨h, hw⟩ | ⟨h, hw⟩⟩
  · rw [hw]
    clear hw
    go_enter Tryz.func37, Tryz.ntmps37
    go_wp2_with (first | (go_at_call 61; refine (implIsFinite_c _ _).mono ?_; rintro e w1 ⟨n, rfl, rfl⟩) | (go_at_call 66; refine (nan_c _).mono ?_; rintro e w1 ⟨n, rfl, rfl⟩) | (refine wpList_narrow _ _ _ _ rfl _ rfl Tryz.underlying28 (by rw [Tryz.underlying46]; rfl) rfl (by decide +kernel) ?_; intro b1 n1 h1))
    all_goals
      go_ret
      exact ⟨_, _, rfl, by rw [h1]; decide +kernel, rfl⟩
  · rw [hb, hw]
    have B := Lib.hid hb
    have a1 := (far_abs hb2).trans (decide_eq_true h)
    rw [← hb2] at a1
    clear hb hw h hb2 hf2
    go_enter Tryz.func37, Tryz.ntmps37
    go_wp2_with (first | (go_at_call 61; refine (implIsFinite_c _ _).mono ?_; rintro e w1 ⟨n, rfl, rfl⟩) | (refine wpList_widen _ _ _ _ rfl _ rfl Tryz.underlying46 (by rw [Tryz.underlying28]; rfl) rfl ?_; intro b1 n1 h1; rw [B.out] at h1; obtain ⟨rfl, -⟩ := cl_some h1; clear h1) | (go_at_call 65; refine (abs_c _ _).mono ?_; rintro e w1 ⟨r, n, rfl, hr, rfl⟩))
    all_goals
      go_ret
      exact ⟨_, _, rfl, by decide +kernel, rfl⟩
  · rw [hb, hw]
    have B := Lib.hid hb
    have a1 := (far_abs hb2).trans (decide_eq_false (Nat.not_le_of_lt h.2))
    rw [← hb2] at a1
    have Ft := Lib.hid (fits_of_le ((sinC_le h).mono (by decide)))
    clear hb hw hb2 hf2
    go_enter Tryz.func37, Tryz.ntmps37
    go_wp2_with (first | (go_at_call 61; refine (implIsFinite_c _ _).mono ?_; rintro e w1 ⟨n, rfl, rfl⟩) | (refine wpList_widen _ _ _ _ rfl _ rfl Tryz.underlying46 (by rw [Tryz.underlying28]; rfl) rfl ?_; intro b1 n1 h1; rw [B.out] at h1; obtain ⟨rfl, -⟩ := cl_some h1; clear h1) | (go_at_call 65; refine (abs_c _ _).mono ?_; rintro e w1 ⟨r, n, rfl, hr, rfl⟩) | (go_at_call 68; refine (sine_c _ h _).mono ?_; rintro e w1 ⟨q, n, rfl, hq, rfl⟩) | (refine wpList_narrow _ _ _ _ rfl _ rfl Tryz.underlying28 (by rw [Tryz.underlying46]; rfl) rfl (by rw [hq]; exact Ft.out) ?_; intro b1 n1 h1))
    all_goals
      go_ret
      exact ⟨_, _, rfl, by rw [‹cl .f32 _ = narrow _›, hq], rfl⟩

end Go.Proofs.YthcgbpidnaimmaaGreatDoor
