/- Mazes as plain data. No program. -/
namespace Go.Proofs.Ytkdncpglgdiicaa

abbrev Door := Int × Int × Int
/-- A maze as it comes, valid or not. -/
structure Mz where
  size : Int
  doors : List Door
  keys : List Int

def dlt (a b : Door) : Bool := decide (a.1 < b.1) || decide (a.1 = b.1) && (decide (a.2.1 < b.2.1) || decide (a.2.1 = b.2.1) && decide (a.2.2 < b.2.2))
def setB (n : Int) : Bool := decide (0 ≤ n) && decide (n ≤ 63)
/-- Door i is good: its nodes, its need, its place behind the one ahead. -/
def doorB (sz : Int) (ds : List Door) (i : Nat) : Bool :=
  match ds[i]? with
  | none => true
  | some d => decide (0 ≤ d.1) && decide (d.1 < d.2.1) && decide (d.2.1 < sz) && setB d.2.2 && (i == 0 || match ds[i - 1]? with | some e => dlt e d | none => true)
def Mz.ok (m : Mz) : Bool :=
  decide (1 ≤ m.size) && decide (m.size ≤ 12) && decide (m.doors.length ≤ 30) && decide ((m.keys.length : Int) = m.size) && (List.range m.doors.length).all (doorB m.size m.doors) && m.keys.all setB

abbrev ND := Nat × Nat × Nat
/-- A valid maze, over numbers that are not negative. -/
structure NM where
  size : Nat
  doors : List ND
  keys : List Nat

def upD (d : ND) : Door := ((d.1 : Int), (d.2.1 : Int), (d.2.2 : Int))
def upN (n : Nat) : Int := (n : Int)
def NM.up (m : NM) : Mz := ⟨(m.size : Int), m.doors.map upD, m.keys.map upN⟩
def ltD (a b : ND) : Prop := a.1 < b.1 ∨ a.1 = b.1 ∧ (a.2.1 < b.2.1 ∨ a.2.1 = b.2.1 ∧ a.2.2 < b.2.2)
structure NM.Ok (m : NM) : Prop where
  size_pos : 1 ≤ m.size
  size_le : m.size ≤ 12
  doors_len : m.doors.length ≤ 30
  keys_len : m.keys.length = m.size
  door : ∀ d ∈ m.doors, d.1 < d.2.1 ∧ d.2.1 < m.size ∧ d.2.2 ≤ 63
  sorted : ∀ i (h : i + 1 < m.doors.length), ltD m.doors[i] m.doors[i + 1]
  key : ∀ k ∈ m.keys, k ≤ 63

theorem upD_dn (d : Door) (h1 : 0 ≤ d.1) (h2 : 0 ≤ d.2.1) (h3 : 0 ≤ d.2.2) : upD (d.1.toNat, d.2.1.toNat, d.2.2.toNat) = d := by
  obtain ⟨a, b, c⟩ := d
  simp only at h1 h2 h3
  simp [upD, Int.toNat_of_nonneg h1, Int.toNat_of_nonneg h2, Int.toNat_of_nonneg h3]

theorem Mz.ok_nm {m : Mz} (h : m.ok = true) : ∃ n : NM, n.Ok ∧ m = n.up := by
  obtain ⟨sz, ds, ks⟩ := m
  simp only [Mz.ok, Bool.and_eq_true, decide_eq_true_eq, List.all_eq_true, List.mem_range] at h
  obtain ⟨⟨⟨⟨⟨h1, h2⟩, h3⟩, h4⟩, h5⟩, h6⟩ := h
  have hd : ∀ i (hi : i < ds.length), 0 ≤ ds[i].1 ∧ ds[i].1 < ds[i].2.1 ∧ ds[i].2.1 < sz ∧ 0 ≤ ds[i].2.2 ∧ ds[i].2.2 ≤ 63 := by
    intro i hi
    have := h5 i hi
    unfold doorB at this
    rw [List.getElem?_eq_getElem hi] at this
    simp only [Bool.and_eq_true, decide_eq_true_eq, setB] at this
    exact ⟨this.1.1.1.1, this.1.1.1.2, this.1.1.2, this.1.2.1, this.1.2.2⟩
  have hup : ds = (ds.map fun d => (d.1.toNat, d.2.1.toNat, d.2.2.toNat)).map upD := by
    apply List.ext_getElem (by simp)
    intro i hi _
    have := hd i hi
    rw [List.getElem_map, List.getElem_map, upD_dn _ this.1 (by omega) this.2.2.2.1]
  have hku : ks = (ks.map Int.toNat).map upN := by
    rw [List.map_map]
    conv => lhs; rw [← List.map_id ks]
    apply List.map_congr_left
    intro k hk
    have := h6 k hk
    simp only [setB, Bool.and_eq_true, decide_eq_true_eq] at this
    show k = ((k.toNat : Nat) : Int)
    omega
  refine ⟨⟨sz.toNat, ds.map fun d => (d.1.toNat, d.2.1.toNat, d.2.2.toNat), ks.map Int.toNat⟩, ⟨?_, ?_, ?_, ?_, ?_, ?_, ?_⟩, ?_⟩
  · show 1 ≤ sz.toNat; omega
  · show sz.toNat ≤ 12; omega
  · simpa using h3
  · simp only [List.length_map]; omega
  · intro d hm
    obtain ⟨e, he, rfl⟩ := List.mem_map.1 hm
    obtain ⟨i, hi, rfl⟩ := List.mem_iff_getElem.1 he
    have := hd i hi
    show ds[i].1.toNat < ds[i].2.1.toNat ∧ ds[i].2.1.toNat < sz.toNat ∧ ds[i].2.2.toNat ≤ 63
    omega
  · intro i hi
    have hi' : i + 1 < ds.length := by simpa using hi
    have hb := h5 (i + 1) hi'
    unfold doorB at hb
    rw [List.getElem?_eq_getElem hi'] at hb
    simp only [Bool.and_eq_true, Nat.add_sub_cancel, List.getElem?_eq_getElem (show i < ds.length by omega)] at hb
    have hb2 := hb.2
    have a := hd i (by omega)
    have b := hd (i + 1) hi'
    simp only [List.getElem_map]
    simp only [dlt, Bool.or_eq_true, Bool.and_eq_true, decide_eq_true_eq, beq_iff_eq] at hb2
    unfold ltD
    show ds[i].1.toNat < ds[i + 1].1.toNat ∨ ds[i].1.toNat = ds[i + 1].1.toNat ∧ (ds[i].2.1.toNat < ds[i + 1].2.1.toNat ∨ ds[i].2.1.toNat = ds[i + 1].2.1.toNat ∧ ds[i].2.2.toNat < ds[i + 1].2.2.toNat)
    omega
  · intro k hk
    obtain ⟨e, he, rfl⟩ := List.mem_map.1 hk
    have := h6 e he
    simp only [setB, Bool.and_eq_true, decide_eq_true_eq] at this
    omega
  · unfold NM.up
    rw [← hup, ← hku, Int.toNat_of_nonneg (by omega)]

theorem ltD_up (a b : ND) : dlt (upD a) (upD b) = true ↔ ltD a b := by
  obtain ⟨a1, a2, a3⟩ := a
  obtain ⟨b1, b2, b3⟩ := b
  show dlt ((a1 : Int), (a2 : Int), (a3 : Int)) ((b1 : Int), (b2 : Int), (b3 : Int)) = true ↔ _
  simp only [dlt, ltD, Bool.or_eq_true, Bool.and_eq_true, decide_eq_true_eq]
  omega

theorem NM.Ok.up_ok {n : NM} (h : n.Ok) : n.up.ok = true := by
  obtain ⟨sz, ds, ks⟩ := n
  obtain ⟨h1, h2, h3, h4, h5, h6, h7⟩ := h
  simp only at h1 h2 h3 h4 h5 h6 h7
  show Mz.ok ⟨(sz : Int), ds.map upD, ks.map upN⟩ = true
  simp only [Mz.ok, Bool.and_eq_true, decide_eq_true_eq, List.all_eq_true, List.mem_range, List.length_map]
  refine ⟨⟨⟨⟨⟨by omega, by omega⟩, h3⟩, by omega⟩, ?_⟩, ?_⟩
  · intro i hi
    unfold doorB
    rw [List.getElem?_map, List.getElem?_eq_getElem hi]
    have a := h5 ds[i] (List.getElem_mem hi)
    have hc : (i == 0 || match (ds.map upD)[i - 1]? with | some e => dlt e (upD ds[i]) | none => true) = true := by
      cases i with
      | zero => rfl
      | succ j =>
        rw [List.getElem?_map, Nat.add_sub_cancel, List.getElem?_eq_getElem (by omega)]
        simp only [Option.map_some, Bool.or_eq_true]
        exact .inr ((ltD_up _ _).2 (h6 j hi))
    simp only [Option.map_some, hc, Bool.and_true]
    generalize ds[i] = d at a
    obtain ⟨d1, d2, d3⟩ := d
    show (decide (0 ≤ (d1 : Int)) && decide ((d1 : Int) < (d2 : Int)) && decide ((d2 : Int) < (sz : Int)) && setB (d3 : Int)) = true
    simp only at a
    simp only [Bool.and_eq_true, decide_eq_true_eq, setB]
    omega
  · intro k hk
    obtain ⟨e, he, rfl⟩ := List.mem_map.1 hk
    have := h7 e he
    show setB (e : Int) = true
    simp only [setB, Bool.and_eq_true, decide_eq_true_eq]
    omega

end Go.Proofs.Ytkdncpglgdiicaa
