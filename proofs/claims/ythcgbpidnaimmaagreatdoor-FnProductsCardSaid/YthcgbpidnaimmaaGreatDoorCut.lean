/- Texts cut at commas: the library's pieces and the reference's are the same. -/
import Derived.Test.YthcgbpidnaimmaaGreatDoorLst
import Derived.Lib.SplitLaws
namespace Go.Fl
open Go.RowKit Go.Deep

/-- The pieces between commas. -/
def cutL : List UInt8 → List (List UInt8)
  | [] => [[]]
  | c :: r => if c = 44 then [] :: cutL r else match cutL r with
    | [] => [[c]]
    | p :: ps => (c :: p) :: ps
theorem cutL_none : ∀ (l : List UInt8), (∀ c ∈ l, c ≠ 44) → cutL l = [l]
  | [], _ => rfl
  | c :: r, h => by
    rw [cutL, if_neg (h c (List.mem_cons_self ..)), cutL_none r fun x hx => h x (List.mem_cons_of_mem _ hx)]
theorem cutL_hit : ∀ (a b : List UInt8), (∀ c ∈ a, c ≠ 44) → cutL (a ++ 44 :: b) = a :: cutL b
  | [], b, _ => by rw [List.nil_append, cutL, if_pos rfl]
  | c :: r, b, h => by
    rw [List.cons_append, cutL, if_neg (h c (List.mem_cons_self ..)), cutL_hit r b fun x hx => h x (List.mem_cons_of_mem _ hx)]
theorem index_cons (c : UInt8) (r : List UInt8) (h : c ≠ 44) : Lib.index (c :: r) [44] = if Lib.index r [44] == -1 then -1 else Lib.index r [44] + 1 := by
  rw [Lib.index]
  have : List.isPrefixOf [44] (c :: r) = false := by
    simp [List.isPrefixOf]
    exact fun e => h e.symm
  rw [this]
  simp only [Bool.false_eq_true, if_false]
theorem splitK_cut : ∀ (l : List UInt8), Lib.splitK [44] 0 (Lib.count l [44]) l = cutL l
  | [] => rfl
  | c :: r => by
    have ih := splitK_cut r
    by_cases h : c = 44
    · subst h
      rw [Lib.count_cons_eq, Nat.add_comm, Lib.splitK, cutL, if_pos rfl]
      have h0 : Lib.index (44 :: r) [44] = 0 := by
        rw [Lib.index, if_pos (by simp [List.isPrefixOf])]
      rw [h0, if_neg (by decide)]
      simp only [Int.toNat_zero, Nat.add_zero, Nat.zero_add, List.length_cons, List.length_nil, List.take_zero, List.drop_succ_cons, List.drop_zero]
      rw [ih]
    · rw [Lib.count_cons_ne _ _ _ h, cutL, if_neg h, ← ih]
      cases hk : Lib.count r [44] with
      | zero => rfl
      | succ k =>
        rw [Lib.splitK, Lib.splitK, index_cons c r h]
        by_cases h1 : (Lib.index r [44] == -1) = true
        · rw [if_pos h1, if_pos h1, if_pos (by decide)]
        · have h2 : ¬ ((if Lib.index r [44] == -1 then -1 else Lib.index r [44] + 1) == -1) = true := by
            rw [if_neg h1]
            rcases Lib.index_spec r [44] with ⟨e, -⟩ | ⟨i, e, -⟩
            · rw [e] at h1; exact absurd (by decide) h1
            · rw [e, beq_iff_eq]; omega
          rw [if_neg h2, if_neg h1, if_neg h1]
          rcases Lib.index_spec r [44] with ⟨e, -⟩ | ⟨i, e, -⟩
          · rw [e] at h1; exact absurd (by decide) h1
          · rw [e]
            have e1 : ((i : Int) + 1).toNat = i + 1 := by omega
            have e2 : (i : Int).toNat = i := by omega
            simp only [e1, e2, Nat.add_zero, List.length_cons, List.length_nil, List.take_succ_cons, Nat.zero_add, List.drop_succ_cons]
/-- The same as strings. -/
def pieces (s : ByteArray) : List ByteArray := (cutL s.data.toList).map fun l => ⟨l.toArray⟩
theorem split_pieces (s : ByteArray) : Lib.splitB ⟨#[44]⟩ 0 (Lib.countB s ⟨#[44]⟩) s = pieces s := by
  have h := Lib.splitB_data ⟨#[44]⟩ 0 (Lib.countB s ⟨#[44]⟩) s
  have e : Lib.countB s ⟨#[44]⟩ = Lib.count s.data.toList [44] := rfl
  have e2 : (⟨#[44]⟩ : ByteArray).data.toList = [44] := rfl
  rw [e2, e, splitK_cut] at h
  unfold pieces
  rw [← h, List.map_map]
  have : ((fun l : List UInt8 => (⟨l.toArray⟩ : ByteArray)) ∘ fun x : ByteArray => x.data.toList) = id := by
    funext x
    simp
  rw [this, List.map_id, e]
theorem pieces_len (s : ByteArray) : Lib.countB s ⟨#[44]⟩ + 1 = (pieces s).length := by
  rw [← split_pieces]
  exact (Lib.splitB_all ⟨#[44]⟩ (by decide) 0 _ s rfl).symm

/-- The reference's way: 'done' has been cut off, up to 'from'; no comma stands from there to i. -/
def CutInv (s : ByteArray) (done : List ByteArray) (fr i : Nat) : Prop :=
  fr ≤ i ∧ i ≤ s.size ∧ cutL s.data.toList = done.map (·.data.toList) ++ cutL (s.data.toList.drop fr) ∧ ∀ j (hj : j < s.size), fr ≤ j → j < i → s[j] ≠ 44
theorem CutInv.start (s : ByteArray) : CutInv s [] 0 0 := ⟨Nat.le_refl _, Nat.zero_le _, rfl, fun _ _ _ h => absurd h (Nat.not_lt_zero _)⟩
theorem CutInv.skip {s : ByteArray} {done : List ByteArray} {fr i : Nat} (h : CutInv s done fr i) (hi : i < s.size) (hc : s[i] ≠ 44) : CutInv s done fr (i + 1) := by
  obtain ⟨h1, h2, h3, h4⟩ := h
  refine ⟨by omega, hi, h3, fun j hj hf hlt => ?_⟩
  rcases Nat.lt_or_eq_of_le (Nat.le_of_lt_succ hlt) with g | rfl
  · exact h4 j hj hf g
  · exact hc
theorem piece_data (s : ByteArray) (fr i : Nat) : (s.extract fr i).data.toList = (s.data.toList.drop fr).take (i - fr) := by
  simp [ByteArray.data_extract]
theorem no_comma {s : ByteArray} {fr i : Nat} (hi : i ≤ s.size) (h4 : ∀ j (hj : j < s.size), fr ≤ j → j < i → s[j] ≠ 44) : ∀ c ∈ (s.data.toList.drop fr).take (i - fr), c ≠ 44 := by
  intro c hc
  obtain ⟨k, hk, rfl⟩ := List.getElem_of_mem hc
  have hk2 : k < i - fr := by
    rw [List.length_take] at hk; omega
  rw [List.getElem_take, List.getElem_drop]
  exact h4 (fr + k) (by omega) (by omega) (by omega)
theorem CutInv.cut {s : ByteArray} {done : List ByteArray} {fr i : Nat} (h : CutInv s done fr i) (hi : i < s.size) (hc : s[i] = 44) : CutInv s (done ++ [s.extract fr i]) (i + 1) (i + 1) := by
  obtain ⟨h1, h2, h3, h4⟩ := h
  refine ⟨Nat.le_refl _, hi, ?_, fun _ _ hf hlt => absurd hf (by omega)⟩
  have hl : s.data.toList.length = s.size := by simp
  have e : s.data.toList.drop fr = (s.data.toList.drop fr).take (i - fr) ++ 44 :: s.data.toList.drop (i + 1) := by
    have e1 := (List.take_append_drop (i - fr) (s.data.toList.drop fr)).symm
    rw [List.drop_drop, show fr + (i - fr) = i by omega] at e1
    have e2 : s.data.toList.drop i = 44 :: s.data.toList.drop (i + 1) := by
      rw [List.drop_eq_getElem_cons (by omega)]
      congr 1
    rw [e2] at e1
    exact e1
  rw [h3, e, cutL_hit _ _ (no_comma h2 h4), List.map_append, List.append_assoc]
  rw [List.map_cons, List.map_nil, piece_data]
  rfl
theorem CutInv.last {s : ByteArray} {done : List ByteArray} {fr : Nat} (h : CutInv s done fr s.size) : done ++ [s.extract fr s.size] = pieces s := by
  obtain ⟨h1, h2, h3, h4⟩ := h
  have hl : s.data.toList.length = s.size := by simp
  have hn := no_comma h2 h4
  rw [List.take_of_length_le (by rw [List.length_drop]; omega)] at hn
  rw [cutL_none _ hn] at h3
  unfold pieces
  rw [h3, List.map_append, List.map_map]
  have : ((fun l : List UInt8 => (⟨l.toArray⟩ : ByteArray)) ∘ fun x : ByteArray => x.data.toList) = id := by
    funext x
    simp
  rw [this, List.map_id]
  congr 1
  rw [List.map_cons, List.map_nil]
  congr 1
  apply ByteArray.ext
  rw [← Array.toList_inj, piece_data, List.take_of_length_le (by rw [List.length_drop]; omega)]
theorem pieces_size (s : ByteArray) : ∀ p ∈ pieces s, p.size ≤ s.size := by
  have key : ∀ (l : List UInt8), ∀ p ∈ cutL l, p.length ≤ l.length := by
    intro l
    induction l with
    | nil => intro p hp; simp [cutL] at hp; simp [hp]
    | cons c r ih =>
      intro p hp
      rw [cutL] at hp
      split at hp
      · rcases List.mem_cons.1 hp with rfl | hp
        · simp
        · have := ih p hp; simp; omega
      · split at hp
        · simp at hp; simp [hp]
        · rename_i q ps e
          rcases List.mem_cons.1 hp with rfl | hp
          · have := ih q (by rw [e]; exact List.mem_cons_self ..)
            simp; omega
          · have := ih p (by rw [e]; exact List.mem_cons_of_mem _ hp)
            simp; omega
  intro p hp
  unfold pieces at hp
  obtain ⟨l, hl, rfl⟩ := List.mem_map.1 hp
  have := key _ l hl
  have hs : s.data.toList.length = s.size := by simp
  show (l.toArray).size ≤ s.size
  rw [List.size_toArray]
  omega
/-! The numbers of a list with a text. -/
def okP (p : ByteArray) : Bool := (rdR p.data.toList).2
def valP (p : ByteArray) : Int := (rdR p.data.toList).1
def isNone (s : ByteArray) : Bool := s.data.toList == [110, 111, 110, 101]
def rlOk (s : ByteArray) : Bool := isNone s || (decide ((pieces s).length ≤ 64) && (pieces s).all okP)
def rlV (s : ByteArray) : List Int := if isNone s then [] else (pieces s).map valP
def rlC (ps : List ByteArray) (k : Nat) : List Value := (ps.take k).map fun p => .int .i64 (valP p)
theorem rlC_snoc {ps : List ByteArray} {k : Nat} {p : ByteArray} (h : ps[k]? = some p) : rlC ps k ++ [.int .i64 (valP p)] = rlC ps (k + 1) := by
  unfold rlC
  rw [List.take_add_one, h, List.map_append]
  rfl
theorem rlC_len {ps : List ByteArray} {k : Nat} (h : k ≤ ps.length) : (rlC ps k).length = k := by
  unfold rlC
  rw [List.length_map, List.length_take]; omega
theorem rlC_all (s : ByteArray) (h : isNone s = false) : rlC (pieces s) (pieces s).length = (rlV s).map fun n => .int .i64 n := by
  unfold rlC rlV
  rw [List.take_length, h, if_neg (by decide), List.map_map]
  rfl
theorem rlV_len (s : ByteArray) (h : isNone s = false) : (rlV s).length = (pieces s).length := by
  unfold rlV
  rw [h, if_neg (by decide), List.length_map]
theorem all_take {ps : List ByteArray} (h : ∀ (j : Nat) p, j < ps.length → ps[j]? = some p → okP p = true) : ps.all okP = true := by
  rw [List.all_eq_true]
  intro p hp
  obtain ⟨k, hk, rfl⟩ := List.getElem_of_mem hp
  exact h k _ hk (List.getElem?_eq_getElem hk)
theorem rlOk_yes {s : ByteArray} (h : isNone s = false) (hl : (pieces s).length ≤ 64) (ha : ∀ (j : Nat) p, j < (pieces s).length → (pieces s)[j]? = some p → okP p = true) : rlOk s = true := by
  unfold rlOk
  rw [h, all_take ha, decide_eq_true hl]; rfl
theorem rlOk_long {s : ByteArray} (h : isNone s = false) (hl : 64 < (pieces s).length) : rlOk s = false := by
  unfold rlOk
  rw [h, decide_eq_false (by omega)]; rfl
theorem rlOk_bad {s : ByteArray} (h : isNone s = false) {k : Nat} {p : ByteArray} (hk : (pieces s)[k]? = some p) (hp : okP p = false) : rlOk s = false := by
  unfold rlOk
  have : (pieces s).all okP = false := by
    rw [List.all_eq_false]
    exact ⟨p, List.mem_of_getElem? hk, by rw [hp]; decide⟩
  rw [h, this, Bool.and_false]; rfl
/-- What both readers return. -/
def RL (T : TypeId) (s : ByteArray) (w w' : World) (v : Value) : Prop :=
  (rlOk s = true ∧ v ≠ .slice none 0 0 ∧ w'.ownsRow w.heap.size T 1 v (rlV s).length ((rlV s).map fun n => .int .i64 n)) ∨ (rlOk s = false ∧ v = .slice none 0 0)
theorem rdR_int {l : List UInt8} : -9223372036854775808 ≤ (rdR l).1 ∧ (rdR l).1 ≤ 9223372036854775807 := by
  unfold rdR
  split
  · rename_i h
    have := h.1
    unfold inR at this
    dsimp only
    omega
  · decide
theorem isNone_eq {s : ByteArray} (h : isNone s = true) : s = noneB := by
  unfold isNone at h
  apply ByteArray.ext
  rw [← Array.toList_inj]
  simpa [noneB] using h
theorem own_ne {w : World} {base : Nat} {e : TypeId} {size : Nat} {v : Value} {n : Nat} {xs : List Value} {g : Nat} {cur : Array Value} {t : TypeId} {fz : Nat × Nat} (h : w.ownsRow base e size v n xs) (hg : w.heap[g]? = some (.cells cur t fz)) (ht : e ≠ t) : v.ownBlock ≠ some g := by
  rcases h.2 with ⟨rfl, -⟩ | ⟨b, cap, c, rfl, -, hb, -⟩
  · simp [Value.ownBlock]
  · intro e1
    have e2 : b = g := by simpa [Value.ownBlock] using e1
    subst e2
    rw [hb] at hg
    injection hg with hg
    injection hg with _ hg
    exact ht hg
theorem cell_block {w w' : World} {g o : Nat} (h : w'.heap[g]? = w.heap[g]?) : w'.cell? ⟨g, o, none⟩ = w.cell? ⟨g, o, none⟩ := by
  unfold World.cell?
  simp only [h]
theorem block_gro {w w' : World} (h : Gro w w') {g : Nat} {x : Obj} (hg : w.heap[g]? = some x) : w'.heap[g]? = w.heap[g]? := RowKit.Below.block h g (Array.getElem?_eq_some_iff.1 hg).1
/-- Behind an append to another row a block stays. -/
theorem block_append {w w2 w' : World} {base : Nat} {e : TypeId} {v : Value} {n : Nat} {xs : List Value} {g : Nat} {cur : Array Value} {t : TypeId} {fz : Nat × Nat} {o : Obj} (h0 : w2.heap[g]? = some (.cells cur t fz)) (hown : w.ownsRow base e 1 v n xs) (hw : w.heap[g]? = some (.cells cur t fz)) (ht : e ≠ t)
    (hgrow : (w2.alloc o).grownBy w' v.ownBlock) : w'.heap[g]? = some (.cells cur t fz) := by
  have h1 : (w2.alloc o).heap[g]? = some (.cells cur t fz) := by
    rw [heap_alloc_old w2 o (Array.getElem?_eq_some_iff.1 h0).1]
    exact h0
  rw [hgrow.block g (Array.getElem?_eq_some_iff.1 h1).1 (fun e1 => own_ne hown hw ht e1.symm)]
  exact h1
theorem own_row {w : World} {base : Nat} {T : TypeId} {v : Value} {L : List Int} (h : w.ownsRow base T 1 v L.length (L.map fun n => .int .i64 n)) (hne : v ≠ .slice none 0 0) :
    ∃ g cap V, v = .slice (some ⟨g, 0, none⟩) L.length cap ∧ base ≤ g ∧ L.length ≤ cap ∧ cap ≤ maxLen ∧ w.rowIs g T cap V ∧ ∀ j, j < L.length → V j = .int .i64 (L.getD j 0) := by
  rcases h.2 with ⟨e, -⟩ | ⟨g, cap, cur, rfl, hb, hcur, hle, hmx, hsz, htk⟩
  · exact absurd e hne
  rw [Nat.mul_one] at hsz htk
  refine ⟨g, cap, fun j => cur.getD j undef, rfl, hb, hle, hmx, ⟨cur, hcur, hsz, fun i hi => ?_⟩, fun j hj => ?_⟩
  · have : i < cur.size := by omega
    simp [Array.getD, this]
  · have h1 : j < cur.size := by omega
    have h2 : (cur.toList.take L.length)[j]? = some cur[j] := by
      rw [List.getElem?_take, if_pos hj]
      simp [h1]
    rw [htk] at h2
    rw [List.getElem?_map, List.getElem?_eq_getElem hj] at h2
    simp at h2
    simp [Array.getD, h1, List.getD, List.getElem?_eq_getElem hj, ← h2]
theorem row_SlI {w : World} {g : Nat} {T : TypeId} {cap n : Nat} {V : Nat → Value} {Z : Nat → Int} (h : w.rowIs g T cap V) (hn : n ≤ cap) (hm : cap ≤ maxLen) (hV : ∀ j, j < n → V j = .int .i64 (Z j)) : SlI .i64 w (some ⟨g, 0, none⟩) n Z :=
  ⟨Nat.le_trans hn hm, fun _ => ⟨g, 0, rfl, fun j hj => by show w.cell? _ = some (.int .i64 (Z j)); rw [Nat.zero_add, ← hV j hj]; exact h.cell (by omega)⟩⟩
theorem rlV_64 {s : ByteArray} (h : rlOk s = true) : (rlV s).length ≤ 64 := by
  unfold rlOk at h
  cases hn : isNone s
  · rw [rlV_len s hn]
    rw [hn] at h
    simp at h
    exact h.1
  · unfold rlV; rw [hn]; simp
end Go.Fl
