/- Phasors of 64ths of turns and their angles: tables that the kernel checks. -/
import Derived.Test.YtabacjajikiaoaaIvq
import Derived.Test.YtabacjajikiaoaaPha
namespace Go.Fl
open Ieee Go.RowKit Go.Deep

def SW : List Nat := [0, 4591727299969791020, 4596196889902818826, 4598900923775164165, 4600565431771507043, 4602163548591158843, 4603179351334086856, 4603889326261607894, 4604544271217802188, 4605137878724712256, 4605664432017547683, 4606118860100255152, 4606496786581982536, 4606794571824115171, 4607009347991985359, 4607139046673687962, 4607182418800017604]
def RW : List Nat := [1065353216, 1065272429, 1065030846, 1064630795, 1064076126, 1063372184, 1062525745, 1061544963, 1060439283, 1059219353, 1057896922, 1056004842, 1053028117, 1049927729, 1044891074, 1036565814, 0, 3184049462, 3192374722, 3197411377, 3200511765, 3203488490, 3205380570, 3206703001, 3207922931, 3209028611, 3210009393, 3210855832, 3211559774, 3212114443, 3212514494, 3212756077, 3212836864, 3212756077, 3212514494, 3212114443, 3211559774, 3210855832, 3210009393, 3209028611, 3207922931, 3206703001, 3205380570, 3203488490, 3200511765, 3197411377, 3192374722, 3184049462, 0, 1036565814, 1044891074, 1049927729, 1053028117, 1056004842, 1057896922, 1059219353, 1060439283, 1061544963, 1062525745, 1063372184, 1064076126, 1064630795, 1065030846, 1065272429]
def IW : List Nat := [0, 1036565814, 1044891074, 1049927729, 1053028117, 1056004842, 1057896922, 1059219353, 1060439283, 1061544963, 1062525745, 1063372184, 1064076126, 1064630795, 1065030846, 1065272429, 1065353216, 1065272429, 1065030846, 1064630795, 1064076126, 1063372184, 1062525745, 1061544963, 1060439283, 1059219353, 1057896922, 1056004842, 1053028117, 1049927729, 1044891074, 1036565814, 0, 3184049462, 3192374722, 3197411377, 3200511765, 3203488490, 3205380570, 3206703001, 3207922931, 3209028611, 3210009393, 3210855832, 3211559774, 3212114443, 3212514494, 3212756077, 3212836864, 3212756077, 3212514494, 3212114443, 3211559774, 3210855832, 3210009393, 3209028611, 3207922931, 3206703001, 3205380570, 3203488490, 3200511765, 3197411377, 3192374722, 3184049462]
def AW : List Nat := [0, 1015021568, 1023410176, 1027604479, 1031798784, 1033895936, 1035993088, 1038090240, 1040187392, 1041235968, 1042284544, 1043333120, 1044381696, 1045430272, 1046478848, 1047527424, 1048576000, 1049100288, 1049624576, 1050148864, 1050673152, 1051197440, 1051721728, 1052246016, 1052770304, 1053294592, 1053818880, 1054343168, 1054867456, 1055391744, 1055916032, 1056440320, 1056964608, 3203923968, 3203399680, 3202875392, 3202351104, 3201826816, 3201302528, 3200778240, 3200253952, 3199729664, 3199205376, 3198681088, 3198156800, 3197632512, 3197108224, 3196583936, 3196059648, 3195011072, 3193962496, 3192913920, 3191865344, 3190816768, 3189768192, 3188719616, 3187671040, 3185573888, 3183476736, 3181379584, 3179282432, 3175088127, 3170893824, 3162505216]
def RZ : List Int := [17592186044416, 17507474735104, 17254156599296, 16834672721920, 16253060120576, 15514923433984, 14627367813120, 13598943346688, 12439553835008, 11160364515328, 9773695107072, 8292899225600, 6732238028800, 5106741805056, 3432065269760, 1724335783936, 0, -1724335783936, -3432065269760, -5106741805056, -6732238028800, -8292899225600, -9773695107072, -11160364515328, -12439553835008, -13598943346688, -14627367813120, -15514923433984, -16253060120576, -16834672721920, -17254156599296, -17507474735104, -17592186044416, -17507474735104, -17254156599296, -16834672721920, -16253060120576, -15514923433984, -14627367813120, -13598943346688, -12439553835008, -11160364515328, -9773695107072, -8292899225600, -6732238028800, -5106741805056, -3432065269760, -1724335783936, 0, 1724335783936, 3432065269760, 5106741805056, 6732238028800, 8292899225600, 9773695107072, 11160364515328, 12439553835008, 13598943346688, 14627367813120, 15514923433984, 16253060120576, 16834672721920, 17254156599296, 17507474735104]
def IZ : List Int := [0, 1724335783936, 3432065269760, 5106741805056, 6732238028800, 8292899225600, 9773695107072, 11160364515328, 12439553835008, 13598943346688, 14627367813120, 15514923433984, 16253060120576, 16834672721920, 17254156599296, 17507474735104, 17592186044416, 17507474735104, 17254156599296, 16834672721920, 16253060120576, 15514923433984, 14627367813120, 13598943346688, 12439553835008, 11160364515328, 9773695107072, 8292899225600, 6732238028800, 5106741805056, 3432065269760, 1724335783936, 0, -1724335783936, -3432065269760, -5106741805056, -6732238028800, -8292899225600, -9773695107072, -11160364515328, -12439553835008, -13598943346688, -14627367813120, -15514923433984, -16253060120576, -16834672721920, -17254156599296, -17507474735104, -17592186044416, -17507474735104, -17254156599296, -16834672721920, -16253060120576, -15514923433984, -14627367813120, -13598943346688, -12439553835008, -11160364515328, -9773695107072, -8292899225600, -6732238028800, -5106741805056, -3432065269760, -1724335783936]
/-- The word of k 64ths. -/
def fw (k : Nat) : Nat := if k = 0 then 0 else (k.log2 + 1016) * 4503599627370496 + k * 2 ^ (52 - k.log2)
/-- The number of turns of the law. -/
def phw (n : Nat) : Option Nat := fop .quo .f64 (i2f ((n : Int) - 256)) (cl .f64 4634204016564240384)
def phwOk (n : Nat) : Bool := match phw n with
  | some b => decide (cl .f64 b = some b) && (decide (rung FloatKind.f64.format b < 1075 * 2 ^ 52) && behC b == some (fw (n % 64)))
  | none => false
theorem phw_all : (List.range 511).all phwOk = true := by decide +kernel
theorem sw_all : (List.range 17).all (fun r => sinK (some (fw r)) == some (SW.getD r 0)) = true := by decide +kernel
def phF2 (f : Option Nat) : Nat → Option Nat
  | 0 => f
  | i + 1 => fop .sub .f64 (phF2 f i) (cl .f64 4598175219545276416)
theorem phF_eq (b : Nat) : ∀ i, phF b i = phF2 (behC b) i
  | 0 => rfl
  | i + 1 => by rw [phF, phF2, phF_eq b i]
def quaOk (k : Nat) : Bool := (List.range (k / 16)).all (fun i => phG (phF2 (some (fw k)) i)) && (!phG (phF2 (some (fw k)) (k / 16)) && (phF2 (some (fw k)) (k / 16) == some (fw (k % 16)) && fop .sub .f64 (cl .f64 4598175219545276416) (some (fw (k % 16))) == some (fw (16 - k % 16))))
theorem qua_all : (List.range 64).all quaOk = true := by decide +kernel
def reC (j : Nat) (c s : Option Nat) : Option Nat := if j = 1 then fop .sub .f64 (cl .f64 0) s else if j = 2 then fop .sub .f64 (cl .f64 0) c else if j = 3 then s else c
def imC (j : Nat) (c s : Option Nat) : Option Nat := if j = 1 then c else if j = 2 then fop .sub .f64 (cl .f64 0) s else if j = 3 then fop .sub .f64 (cl .f64 0) c else s
def phaOk (k : Nat) : Bool := narrow (reC (k / 16) (some (SW.getD (16 - k % 16) 0)) (some (SW.getD (k % 16) 0))) == some (RW.getD k 0) && narrow (imC (k / 16) (some (SW.getD (16 - k % 16) 0)) (some (SW.getD (k % 16) 0))) == some (IW.getD k 0)
theorem pha_all : (List.range 64).all phaOk = true := by decide +kernel
/-- The phasor of the law's turns, by the table. -/
theorem pha {n : Nat} (hn : n < 511) : ∃ b, phw n = some b ∧ Tur b ∧ First b (n % 64 / 16) ∧ narrow (phRe b (n % 64 / 16)) = some (RW.getD (n % 64) 0) ∧ narrow (phIm b (n % 64 / 16)) = some (IW.getD (n % 64) 0) := by
  have h := List.all_eq_true.1 phw_all n (List.mem_range.2 hn)
  unfold phwOk at h
  rcases hx : phw n with _ | b
  · rw [hx] at h; cases h
  rw [hx] at h
  simp only [Bool.and_eq_true, decide_eq_true_eq, beq_iff_eq] at h
  obtain ⟨h1, h2, h3⟩ := h
  have hk : n % 64 < 64 := Nat.mod_lt _ (by decide)
  generalize n % 64 = k at *
  have q := List.all_eq_true.1 qua_all k (List.mem_range.2 hk)
  unfold quaOk at q
  simp only [Bool.and_eq_true, beq_iff_eq, Bool.not_eq_true', List.all_eq_true, List.mem_range] at q
  obtain ⟨q1, q2, q3, q4⟩ := q
  have hF : phF b (k / 16) = some (fw (k % 16)) := by rw [phF_eq, h3]; exact q3
  have hS : ∀ r, r < 17 → sinK (some (fw r)) = some (SW.getD r 0) := fun r hr => by
    have := List.all_eq_true.1 sw_all r (List.mem_range.2 hr)
    simpa using this
  have hs : phSin b (k / 16) = some (SW.getD (k % 16) 0) := by
    unfold phSin
    rw [hF]; exact hS _ (by omega)
  have hc : phCos b (k / 16) = some (SW.getD (16 - k % 16) 0) := by
    unfold phCos phA
    rw [hF, q4]; exact hS _ (by omega)
  have w := List.all_eq_true.1 pha_all k (List.mem_range.2 hk)
  unfold phaOk at w
  simp only [Bool.and_eq_true, beq_iff_eq] at w
  refine ⟨b, rfl, ⟨h1, h2⟩, ⟨?_, fun i hi => ?_⟩, ?_, ?_⟩
  · rw [phF_eq, h3]; exact q2
  · rw [phF_eq, h3]; exact q1 i hi
  · rw [← w.1, ← hs, ← hc]; rfl
  · rw [← w.2, ← hs, ← hc]; rfl

/-! Powers, angles, turns. -/
def gapC (a b : Option Nat) : Option Nat := if flt .f64 a b then fop .sub .f64 b a else fop .sub .f64 a b
def powOk (k : Nat) : Bool := fits (powC (widen (some (RW.getD k 0))) (widen (some (IW.getD k 0)))) && !fgt .f64 (gapC (widen (narrow (powC (widen (some (RW.getD k 0))) (widen (some (IW.getD k 0)))))) (cl .f64 4607182418800017408)) (cl .f64 4547007122018943789)
theorem pow_all : (List.range 64).all powOk = true := by decide +kernel
def angOk (k : Nat) : Bool := angR (some (IW.getD k 0)) (some (RW.getD k 0)) == some (AW.getD k 0)
theorem ang_all : (List.range 64).all angOk = true := by decide +kernel
def turnC (n : Nat) : Option Nat := fop .sub .f64 (fop .mul .f64 (widen (some (AW.getD (n % 64) 0))) (cl .f64 4634204016564240384)) (i2f ((n : Int) - 128))
def wholeI (n : Nat) : Int := match fop .add .f64 (turnC n) (cl .f64 4666723447345250304) with
  | some x => ((FloatKind.f64.format.read x).toInt .zero).getD 0
  | none => 0
def turnOk (n : Nat) : Bool := match fop .add .f64 (turnC n) (cl .f64 4666723447345250304) with
  | some x => (FloatKind.f64.format.read x).toInt .zero == some (wholeI n) && (decide (0 ≤ wholeI n) && (decide (wholeI n ≤ 100000) && (!fgt .f64 (gapC (turnC n) (i2f (wholeI n - 10000))) (cl .f64 4562254508917369340) && decide ((wholeI n - 10000) % 64 = 0))))
  | none => false
theorem turn_all : (List.range 256).all turnOk = true := by decide +kernel
def sixOk (k : Nat) : Bool := decide (k % 16 ≠ 0) || (feq .f64 (gapC (widen (some (RW.getD k 0))) (cl .f64 0)) (cl .f64 0) || feq .f64 (gapC (widen (some (RW.getD k 0))) (cl .f64 0)) (cl .f64 4607182418800017408))
theorem six_all : (List.range 64).all sixOk = true := by decide +kernel
theorem east : angR (cl .f32 1065353216) (cl .f32 0) = some 1048576000 := by decide +kernel

/-! Products of phasors, by intervals. -/
def LZ : List (Int × Int) := RZ.zip IZ
def oneOk (L H r : Int) : Bool := decide ((L / 4194304).natAbs < 16777216) && (decide ((H / 4194304 + 1).natAbs < 16777216) && (decide ((H / 4194304 + 1) * 4194304 - r ≤ 1759218604) && decide (r - L / 4194304 * 4194304 ≤ 1759218604)))
def nearOk (a b r : Int × Int) : Bool :=
  oneOk (a.1 * b.1 / 17592186044416 - (a.2 * b.2 / 17592186044416 + 1)) (a.1 * b.1 / 17592186044416 + 1 - a.2 * b.2 / 17592186044416) r.1 &&
  oneOk (a.1 * b.2 / 17592186044416 + a.2 * b.1 / 17592186044416) (a.1 * b.2 / 17592186044416 + 1 + (a.2 * b.1 / 17592186044416 + 1)) r.2
def nearRow (a : Int × Int) : List (Int × Int) → List (Int × Int) → Bool
  | b :: bs, r :: rs => nearOk a b r && nearRow a bs rs
  | [], _ => true
  | _, [] => false
def nearAll : List (Int × Int) → List (Int × Int) → Bool
  | a :: as, rs => nearRow a LZ rs && nearAll as rs.tail
  | [], _ => true
theorem near_all : nearAll LZ (LZ ++ LZ) = true := by decide +kernel
theorem nearRow_get {a b r : Int × Int} : ∀ (bs rs : List (Int × Int)) (m : Nat), nearRow a bs rs = true → bs[m]? = some b → rs[m]? = some r → nearOk a b r = true
  | [], _, m, _, h, _ => by simp at h
  | x :: xs, [], m, h, _, _ => by simp [nearRow] at h
  | x :: xs, y :: ys, m, h, hb, hr => by
    rw [nearRow, Bool.and_eq_true] at h
    cases m with
    | zero =>
      simp at hb hr
      subst hb hr
      exact h.1
    | succ m => exact nearRow_get xs ys m h.2 (by simpa using hb) (by simpa using hr)
theorem nearAll_get {a b r : Int × Int} : ∀ (as rs : List (Int × Int)) (k m : Nat), nearAll as rs = true → as[k]? = some a → LZ[m]? = some b → rs[k + m]? = some r → nearOk a b r = true
  | [], _, k, m, _, h, _, _ => by simp at h
  | x :: xs, rs, k, m, h, ha, hb, hr => by
    rw [nearAll, Bool.and_eq_true] at h
    cases k with
    | zero =>
      simp at ha
      subst ha
      exact nearRow_get _ _ m h.1 hb (by simpa using hr)
    | succ k =>
      refine nearAll_get xs rs.tail k m h.2 (by simpa using ha) hb ?_
      rw [List.getElem?_tail, show k + m + 1 = k + 1 + m by omega]
      exact hr
def ptOk (k : Nat) : Bool := match widen (some (RW.getD k 0)), widen (some (IW.getD k 0)) with
  | some b, some c => (decide (rung FloatKind.f64.format b < FloatKind.f64.format.infRung) && decide (vz .f64 b = RZ.getD k 0 * (gz .f64 : Int))) && (decide (rung FloatKind.f64.format c < FloatKind.f64.format.infRung) && (decide (vz .f64 c = IZ.getD k 0 * (gz .f64 : Int)) && (decide (LZ[k]? = some (RZ.getD k 0, IZ.getD k 0)) && (decide ((RZ.getD k 0).natAbs ≤ 17592186044416) && decide ((IZ.getD k 0).natAbs ≤ 17592186044416)))))
  | _, _ => false
theorem pt_all : (List.range 64).all ptOk = true := by decide +kernel
theorem pt {k : Nat} (hk : k < 64) : Iv .f64 (widen (some (RW.getD k 0))) (RZ.getD k 0) (RZ.getD k 0) ∧ Iv .f64 (widen (some (IW.getD k 0))) (IZ.getD k 0) (IZ.getD k 0) ∧ LZ[k]? = some (RZ.getD k 0, IZ.getD k 0) ∧ (RZ.getD k 0).natAbs ≤ 17592186044416 ∧ (IZ.getD k 0).natAbs ≤ 17592186044416 := by
  have h := List.all_eq_true.1 pt_all k (List.mem_range.2 hk)
  unfold ptOk at h
  split at h
  · rename_i b c hb hc
    simp only [Bool.and_eq_true, decide_eq_true_eq] at h
    obtain ⟨⟨h1, h2⟩, h3, h4, h5, h6, h7⟩ := h
    rw [hb, hc]
    exact ⟨⟨b, rfl, h1, by omega, by omega⟩, ⟨c, rfl, h3, by omega, by omega⟩, h5, h6, h7⟩
  · cases h
end Go.Fl
