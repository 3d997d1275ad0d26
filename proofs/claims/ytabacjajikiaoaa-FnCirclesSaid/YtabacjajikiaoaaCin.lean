/- The product of two phasors is nearly the phasor of the sum. -/
import Derived.Test.YtabacjajikiaoaaCir
import Derived.Test.YtabacjajikiaoaaTtb
namespace Go.Fl
open Ieee Go.RowKit Go.Deep

theorem mul_pt {c d : Option Nat} {x y : Int} (hc : Iv .f64 c x x) (hd : Iv .f64 d y y) (hx : x.natAbs ≤ 17592186044416) (hy : y.natAbs ≤ 17592186044416) :
    Iv .f64 (fop .mul .f64 c d) (x * y / 17592186044416) (x * y / 17592186044416 + 1) ∧ (x * y / 17592186044416).natAbs ≤ 17592186044417 := by
  have h1 : (x * y).natAbs ≤ 17592186044416 * 17592186044416 := by
    rw [Int.natAbs_mul]
    exact Nat.mul_le_mul hx hy
  have h2 : (x * y / 17592186044416) * 17592186044416 ≤ x * y ∧ x * y ≤ (x * y / 17592186044416 + 1) * 17592186044416 := by omega
  have h3 : (x * y / 17592186044416).natAbs ≤ 17592186044417 := by omega
  exact ⟨hc.mul hd (rep64 (by omega)) (rep64 (by omega)) h2.1 h2.1 h2.1 h2.1 h2.2 h2.2 h2.2 h2.2, h3⟩
theorem gap_le {c d e : Option Nat} {l1 h1 l2 h2 B B' : Int} (hc : Iv .f64 c l1 h1) (hd : Iv .f64 d l2 h2) (he : Iv .f64 e B B') (k1 : h2 - l1 ≤ B) (k2 : h1 - l2 ≤ B) (r1 : (h2 - l1).natAbs < 9007199254740992) (r2 : (h1 - l2).natAbs < 9007199254740992) (r3 : (l2 - h1).natAbs < 9007199254740992) (r4 : (l1 - h2).natAbs < 9007199254740992) :
    fle .f64 (gapC c d) e = true := by
  unfold gapC
  split
  · exact ((Iv.sub hd hc (rep64 r3) (rep64 r1)).not_gt he k1).2
  · exact ((Iv.sub hc hd (rep64 r4) (rep64 r2)).not_gt he k2).2
theorem most_iv : Iv .f64 (cl .f64 4547007122018943789) 1759218604 1759218605 := by
  have := word_iv (E := 1008) (k := 22) (M := 4547007122018943789 - 1008 * 4503599627370496) (L := 1759218604) (H := 1759218605) (by decide) (by decide) (by decide) (by decide) (by decide)
  exact this
theorem one_near {c d : Option Nat} {L H r : Int} (hc : Iv .f64 c L H) (hd : Iv .f64 d r r) (h : oneOk L H r = true) (_hr : r.natAbs ≤ 17592186044416) : fits c = true ∧ fle .f64 (gapC (widen (narrow c)) d) (cl .f64 4547007122018943789) = true := by
  unfold oneOk at h
  simp only [Bool.and_eq_true, decide_eq_true_eq] at h
  obtain ⟨h1, h2, h3, h4⟩ := h
  obtain ⟨f, g⟩ := hc.narrow (L := L / 4194304 * 4194304) (H := (H / 4194304 + 1) * 4194304) (by omega) (by omega) (rep32 rfl h1) (rep32 rfl h2)
  refine ⟨f, gap_le g.widen hd most_iv (by omega) (by omega) ?_ ?_ ?_ ?_⟩ <;> omega
theorem LZ_len : LZ.length = 64 := by decide +kernel
theorem LZ_two {k m : Nat} (hk : k < 64) (hm : m < 64) : (LZ ++ LZ)[k + m]? = LZ[(k + m) % 64]? := by
  by_cases h : k + m < 64
  · rw [List.getElem?_append_left (by rw [LZ_len]; exact h), Nat.mod_eq_of_lt h]
  · rw [List.getElem?_append_right (by rw [LZ_len]; omega), LZ_len]
    congr 1; omega
theorem phasors {k m : Nat} (hk : k < 64) (hm : m < 64) :
    (fits (mulRe (widen (some (RW.getD k 0))) (widen (some (IW.getD k 0))) (widen (some (RW.getD m 0))) (widen (some (IW.getD m 0)))) = true ∧
      fle .f64 (gapC (widen (narrow (mulRe (widen (some (RW.getD k 0))) (widen (some (IW.getD k 0))) (widen (some (RW.getD m 0))) (widen (some (IW.getD m 0)))))) (widen (some (RW.getD ((k + m) % 64) 0)))) (cl .f64 4547007122018943789) = true) ∧
    fits (mulIm (widen (some (RW.getD k 0))) (widen (some (IW.getD k 0))) (widen (some (RW.getD m 0))) (widen (some (IW.getD m 0)))) = true ∧
      fle .f64 (gapC (widen (narrow (mulIm (widen (some (RW.getD k 0))) (widen (some (IW.getD k 0))) (widen (some (RW.getD m 0))) (widen (some (IW.getD m 0)))))) (widen (some (IW.getD ((k + m) % 64) 0)))) (cl .f64 4547007122018943789) = true := by
  obtain ⟨a1, a2, a3, a4, a5⟩ := pt hk
  obtain ⟨b1, b2, b3, b4, b5⟩ := pt hm
  obtain ⟨c1, c2, c3, c4, c5⟩ := pt (k := (k + m) % 64) (Nat.mod_lt _ (by decide))
  have h := nearAll_get LZ (LZ ++ LZ) k m near_all a3 b3 (by rw [LZ_two hk hm]; exact c3)
  unfold nearOk at h
  rw [Bool.and_eq_true] at h
  obtain ⟨h1, h2⟩ := h
  obtain ⟨p1, q1⟩ := mul_pt a1 b1 a4 b4
  obtain ⟨p2, q2⟩ := mul_pt a2 b2 a5 b5
  obtain ⟨p3, q3⟩ := mul_pt a1 b2 a4 b5
  obtain ⟨p4, q4⟩ := mul_pt a2 b1 a5 b4
  refine ⟨one_near (Iv.sub p1 p2 (rep64 ?_) (rep64 ?_)) c1 h1 c4, one_near (Iv.add p3 p4 (rep64 ?_) (rep64 ?_)) c2 h2 c5⟩ <;> omega
end Go.Fl
