/- Lists read from texts, piece by piece. -/
import Derived.Test.YthcgbpidnaimmaaGreatDoorHex
namespace Go.Fl
open Go.RowKit Go.Deep

def gOk (ok : ByteArray → Bool) (s : ByteArray) : Bool := isNone s || (decide ((pieces s).length ≤ 256) && (pieces s).all ok)
def gV (f : ByteArray → Value) (s : ByteArray) : List Value := if isNone s then [] else (pieces s).map f
def gC (f : ByteArray → Value) (ps : List ByteArray) (k : Nat) : List Value := (ps.take k).map f
theorem gC_snoc {f : ByteArray → Value} {ps : List ByteArray} {k : Nat} {p : ByteArray} (h : ps[k]? = some p) : gC f ps k ++ [f p] = gC f ps (k + 1) := by
  unfold gC
  rw [List.take_add_one, h, List.map_append]
  rfl
theorem gC_all (f : ByteArray → Value) (s : ByteArray) (h : isNone s = false) : gC f (pieces s) (pieces s).length = gV f s := by
  unfold gC gV
  rw [List.take_length, h, if_neg (by decide)]
theorem gV_len (f : ByteArray → Value) (s : ByteArray) (h : isNone s = false) : (gV f s).length = (pieces s).length := by
  unfold gV
  rw [h, if_neg (by decide), List.length_map]
theorem gall_take {ok : ByteArray → Bool} {ps : List ByteArray} (h : ∀ (j : Nat) p, j < ps.length → ps[j]? = some p → ok p = true) : ps.all ok = true := by
  rw [List.all_eq_true]
  intro p hp
  obtain ⟨k, hk, rfl⟩ := List.getElem_of_mem hp
  exact h k _ hk (List.getElem?_eq_getElem hk)
theorem gOk_yes {ok : ByteArray → Bool} {s : ByteArray} (h : isNone s = false) (hl : (pieces s).length ≤ 256) (ha : ∀ (j : Nat) p, j < (pieces s).length → (pieces s)[j]? = some p → ok p = true) : gOk ok s = true := by
  unfold gOk
  rw [h, gall_take ha, decide_eq_true hl]; rfl
theorem gOk_long {ok : ByteArray → Bool} {s : ByteArray} (h : isNone s = false) (hl : 256 < (pieces s).length) : gOk ok s = false := by
  unfold gOk
  rw [h, decide_eq_false (by omega)]; rfl
theorem gOk_bad {ok : ByteArray → Bool} {s : ByteArray} (h : isNone s = false) {k : Nat} {p : ByteArray} (hk : (pieces s)[k]? = some p) (hp : ok p = false) : gOk ok s = false := by
  unfold gOk
  have : (pieces s).all ok = false := by
    rw [List.all_eq_false]
    exact ⟨p, List.mem_of_getElem? hk, by rw [hp]; decide⟩
  rw [h, this, Bool.and_false]; rfl
theorem gOk_none {ok : ByteArray → Bool} {s : ByteArray} (h : isNone s = true) : gOk ok s = true := by
  unfold gOk
  rw [h]; rfl
theorem gV_none {f : ByteArray → Value} {s : ByteArray} (h : isNone s = true) : gV f s = [] := by
  unfold gV
  rw [h]; rfl
theorem gV_256 {ok : ByteArray → Bool} (f : ByteArray → Value) {s : ByteArray} (h : gOk ok s = true) : (gV f s).length ≤ 256 := by
  cases hn : isNone s
  · rw [gV_len f s hn]
    unfold gOk at h
    rw [hn] at h
    simp at h
    exact h.1
  · rw [gV_none hn]; simp
/-- What both readers return. -/
def RG (T : TypeId) (ok : ByteArray → Bool) (f : ByteArray → Value) (s : ByteArray) (w w' : World) (v : Value) : Prop :=
  (gOk ok s = true ∧ v ≠ .slice none 0 0 ∧ w'.ownsRow w.heap.size T 1 v (gV f s).length (gV f s)) ∨ (gOk ok s = false ∧ v = .slice none 0 0)
theorem own_rowV {w : World} {base : Nat} {T : TypeId} {v : Value} {L : List Value} (h : w.ownsRow base T 1 v L.length L) (hne : v ≠ .slice none 0 0) :
    ∃ g cap V, v = .slice (some ⟨g, 0, none⟩) L.length cap ∧ base ≤ g ∧ L.length ≤ cap ∧ cap ≤ maxLen ∧ w.rowIs g T cap V ∧ ∀ (j : Nat) x, L[j]? = some x → V j = x := by
  rcases h.2 with ⟨e, -⟩ | ⟨g, cap, cur, rfl, hb, hcur, hle, hmx, hsz, htk⟩
  · exact absurd e hne
  rw [Nat.mul_one] at hsz htk
  refine ⟨g, cap, fun j => cur.getD j undef, rfl, hb, hle, hmx, ⟨cur, hcur, hsz, fun i hi => ?_⟩, fun j x hj => ?_⟩
  · have : i < cur.size := by omega
    simp [Array.getD, this]
  · have hjl := (List.getElem?_eq_some_iff.1 hj).1
    have h1 : j < cur.size := by omega
    have h2 : (cur.toList.take L.length)[j]? = some cur[j] := by
      rw [List.getElem?_take, if_pos hjl]
      simp [h1]
    rw [htk, hj] at h2
    injection h2 with h2
    simp [Array.getD, h1, h2]
theorem row_SlAt {w : World} {g : Nat} {T : TypeId} {cap n : Nat} {V U : Nat → Value} (h : w.rowIs g T cap V) (hn : n ≤ cap) (hm : cap ≤ maxLen) (hV : ∀ j, j < n → V j = U j) : SlAt w (some ⟨g, 0, none⟩) n U :=
  ⟨Nat.le_trans hn hm, fun _ => ⟨g, 0, rfl, fun j hj => by rw [Nat.zero_add, ← hV j hj]; exact h.cell (by omega)⟩⟩

/-! Numbers. -/
def fH (p : ByteArray) : Value := .float .f32 (valH p)
def zH (s : ByteArray) (j : Nat) : Nat := if isNone s then 0 else ((pieces s).map valH).getD j 0
theorem gV_zH (s : ByteArray) (j : Nat) (h : j < (gV fH s).length) : (gV fH s)[j]? = some (.float .f32 (zH s j)) := by
  cases hn : isNone s
  · rw [gV_len fH s hn] at h
    unfold gV zH
    rw [hn]
    simp [List.getElem?_map, List.getElem?_eq_getElem h, List.getD, fH]
  · rw [gV_none hn] at h
    simp at h
theorem okH_hexN {p : ByteArray} (h : okH p = true) : ∃ m, hexN p.data.toList = some m ∧ nb m = m ∧ valH p = m ∧ p.size = 8 := by
  cases hn : hexN p.data.toList with
  | none => unfold okH at h; rw [hn] at h; cases h
  | some m =>
    refine ⟨m, rfl, ?_, by unfold valH; rw [hn], ?_⟩
    · unfold okH at h; rw [hn] at h; simpa using h
    · refine Decidable.byContradiction fun hs => ?_
      rw [hexN_len (by simpa using hs)] at hn
      cases hn
/-! The reference's way: digit by digit; the first k digits' number. -/
def hexT8 (p : ByteArray) (k acc : Nat) : Prop := hexF 0 p.data.toList = hexF acc (p.data.toList.drop k)
theorem hexT8.start (p : ByteArray) : hexT8 p 0 0 := rfl
theorem hexT8.step {p : ByteArray} {k acc d : Nat} (h : hexT8 p k acc) (hk : k < p.size) (hd : hexD p[k] = some d) : hexT8 p (k + 1) (16 * acc + d) := by
  unfold hexT8 at *
  rw [h, List.drop_eq_getElem_cons (by simpa using hk)]
  exact hexF_some hd
theorem hexT8.bad {p : ByteArray} {k acc : Nat} (h : hexT8 p k acc) (hk : k < p.size) (hd : hexD p[k] = none) : okH p = false := by
  unfold hexT8 at h
  rw [List.drop_eq_getElem_cons (by simpa using hk)] at h
  have h2 := h.trans (hexF_none hd)
  unfold okH hexN
  rw [h2, ite_self]
theorem hexT8.full {p : ByteArray} {acc : Nat} (h : hexT8 p p.size acc) (h8 : p.size = 8) : hexN p.data.toList = some acc := by
  unfold hexT8 at h
  rw [List.drop_of_length_le (by simp)] at h
  unfold hexN
  rw [if_pos (by simpa using h8), h]
  rfl
theorem okH_full {p : ByteArray} {m : Nat} (h : hexN p.data.toList = some m) : okH p = (nb m == m) ∧ valH p = m := by
  unfold okH valH
  rw [h]
  exact ⟨rfl, rfl⟩
theorem hexF_bound : ∀ (l : List UInt8) (a m : Nat), hexF a l = some m → a * 16 ^ l.length ≤ m ∧ m < (a + 1) * 16 ^ l.length
  | [], a, m, h => by injection h with h; subst h; simp
  | c :: r, a, m, h => by
    rw [hexF] at h
    cases hd : hexD c with
    | none => rw [hd] at h; cases h
    | some d =>
      rw [hd] at h
      have hlt := hexD_lt hd
      obtain ⟨h1, h2⟩ := hexF_bound r _ m h
      rw [List.length_cons, Nat.pow_succ, Nat.mul_comm (16 ^ r.length) 16, ← Nat.mul_assoc, ← Nat.mul_assoc]
      constructor
      · exact Nat.le_trans (Nat.mul_le_mul_right _ (by omega)) h1
      · exact Nat.lt_of_lt_of_le h2 (Nat.mul_le_mul_right _ (by omega))
theorem hexD_dig {c : UInt8} (h : 48 ≤ c.toNat ∧ c.toNat ≤ 57) : hexD c = some (c.toNat - 48) := by unfold hexD; rw [if_pos h]
theorem hexD_low {c : UInt8} (h : 97 ≤ c.toNat ∧ c.toNat ≤ 102) : hexD c = some (c.toNat - 87) := by unfold hexD; rw [if_neg (by omega), if_pos h]
theorem hexD_not {c : UInt8} (h : ¬ (48 ≤ c.toNat ∧ c.toNat ≤ 57)) (h1 : ¬ (97 ≤ c.toNat ∧ c.toNat ≤ 102)) : hexD c = none := by unfold hexD; rw [if_neg h, if_neg h1]
/-! Marks. -/
def mkF (j : Nat) : Nat := floatOfInt .f32 (1 + (j : Int))
theorem mkF_all : ∀ j : Fin 256, (match cl .f32 (mkF j.1) with | some _ => true | none => false) = true := by decide +kernel
theorem mkF_some {j : Nat} (h : j < 256) : cl .f32 (mkF j) = some (mkF j) := by
  have := mkF_all ⟨j, h⟩
  dsimp only at this
  cases hc : cl .f32 (mkF j) with
  | none => rw [hc] at this; cases this
  | some c => obtain ⟨rfl, -⟩ := cl_some hc; rfl
end Go.Fl
