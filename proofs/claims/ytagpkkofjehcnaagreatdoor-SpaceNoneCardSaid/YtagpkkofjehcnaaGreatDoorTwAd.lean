/-
  What a slice of Asks, read as the statement reads it, holds: plain reading, no code of the program in sight.
-/
import Derived.Test.YtagpkkofjehcnaaGreatDoorTwAa
import Derived.Test.YtagpkkofjehcnaaGreatDoorTwAb
import Derived.Deep.Slices
import Derived.Deep.Fields
import Derived.ChangeSame
import Derived.SizedLaws
set_option linter.all false
namespace Go.Proofs.YtagpkkofjehcnaaGreatDoor
open Go Go.RowKit Go.ChangeShapes Go.WideShapes Go.Deep

section
variable {H : Type} {enc : TypeId × Value → H} {P : Program} {w : World}

/-- Nothing that is read weighs more than the reach. -/
def Sized (P : Program) (t : TypeId) (d : DataW H) : Prop := ∀ n ∈ DataW.weights P t d, n ≤ reachBytes

abbrev trd (enc : TypeId × Value → H) (P : Program) (w : World) (fuel : Nat) (t : TypeId) (cs : List Value) := DataW.trod enc P w 0 (fun _ => true) true fuel t cs

theorem weightsAll_mem {e : TypeId} : ∀ {l : List (DataW H)} {d : DataW H}, d ∈ l → ∀ n ∈ DataW.weights P e d, n ∈ DataW.weightsAll P e l
  | [], d, h, _, _ => by cases h
  | x :: l, d, h, n, hn => by
    simp only [DataW.weightsAll, List.mem_append]
    rcases List.mem_cons.1 h with rfl | h
    · exact .inl hn
    · exact .inr (weightsAll_mem h n hn)

theorem slice_read {t e : TypeId} (ht : P.underlying t = some (.slice e)) (hC : 0 < P.cellsOf e) {fuel : Nat} {cs : List Value} {x : DataW H × List MemPlace} (h : trd enc P w fuel t cs = some x) (hs : Sized P t x.1) :
    (∃ q, cs = [.slice q 0 0]) ∨ ∃ b off len cap, cs = [.slice (some ⟨b, off, none⟩) len cap] ∧ b < w.heap.size ∧ len * P.bytesOf e ≤ reachBytes ∧
      ∀ i, i < len → ∃ cs' n y, cs'.length = P.cellsOf e ∧ (∀ j, j < P.cellsOf e → w.cell? ⟨b, off + i * P.cellsOf e + j, none⟩ = cs'[j]?) ∧ trd enc P w n e cs' = some y ∧ Sized P e y.1 := by
  rcases open_slice ht h with ⟨h0, _⟩ | ⟨a, len, cap, m, n, D, Pl, hcs, _, hl, _, hm, hx, hi⟩
  · exact .inl ⟨none, h0⟩
  · simp only [if_true] at hm
    subst hm
    by_cases hc0 : m = 0
    · subst hc0
      obtain rfl : len = 0 := by omega
      exact .inl ⟨some a, hcs⟩
    · have hat : ∀ i, i < m → ∀ j, j < P.cellsOf e → ∃ v, w.cell? ((a.add (i * P.cellsOf e)).add j) = some v := by
        intro i him j hj
        obtain ⟨cs', hc, _⟩ := hi i him
        obtain ⟨_, hcl, hat⟩ := World.cells?_some hc
        exact ⟨cs'[j]'(by omega), by rw [hat j hj]; exact List.getElem?_eq_getElem (by omega)⟩
      obtain ⟨v0, hv0⟩ := hat 0 (by omega) 0 hC
      obtain ⟨b, off, spot⟩ := a
      have hspot : spot = none := by simpa [Addr.add] using World.cell?_spot hv0
      subst hspot
      refine .inr ⟨b, off, len, m, hcs, ?_, ?_, ?_⟩
      · have hv0' : w.cell? ⟨b, off, none⟩ = some v0 := by simpa [Addr.add] using hv0
        by_cases hb : b < w.heap.size
        · exact hb
        · rw [World.cell?, Array.getElem?_eq_none (by simpa using hb)] at hv0'
          cases hv0'
      · subst hx
        have := hs ((((List.range len).map D).length + ((List.range (m - len)).map fun j => D (len + j)).length) * P.bytesOf e) (by simp [DataW.weights, ht])
        simp only [List.length_map, List.length_range] at this
        exact Nat.le_trans (Nat.mul_le_mul_right _ (by omega)) this
      · intro i hil
        obtain ⟨cs', hc, ht'⟩ := hi i (by omega)
        obtain ⟨_, hcl, hat'⟩ := World.cells?_some hc
        refine ⟨cs', n, _, hcl, fun j hj => ?_, ht', ?_⟩
        · have := hat' j hj
          rw [add_add] at this
          simpa [Addr.add_lit, Nat.add_assoc] using this
        · subst hx
          intro k hk
          refine hs k ?_
          simp only [DataW.weights, ht, List.mem_cons, List.mem_append]
          exact .inr (.inl (weightsAll_mem (List.mem_map.2 ⟨i, List.mem_range.2 hil, rfl⟩) k hk))

theorem struct_read {t : TypeId} {fs : Array Field} (ht : P.underlying t = some (.struct fs)) {fuel : Nat} {cs : List Value} {x : DataW H × List MemPlace} (h : trd enc P w fuel t cs = some x) (hs : Sized P t x.1) :
    ∃ n, ∀ (i : Nat) (f : Field), fs[i]? = some f → ∃ y, trd enc P w n f.type ((cs.drop f.offset).take (P.cellsOf f.type)) = some y ∧ Sized P f.type y.1 := by
  obtain ⟨xs, n, _, rfl, _, hxl, hf⟩ := DataW.trod_struct ht h
  refine ⟨n, fun i f hi => ?_⟩
  have hil : i < fs.size := (Array.getElem?_eq_some_iff.1 hi).1
  have hys : xs[i]? = some (xs[i]'(by omega)) := List.getElem?_eq_getElem (by omega)
  refine ⟨_, (hf i f hi).trans hys, fun k hk => ?_⟩
  refine hs k ?_
  simp only [DataW.weights, ht]
  refine DataW.weights_mem_each (j := i) (t := f.type) (by simp [hi]) (by rw [List.getElem?_map, hys]; rfl) k hk

theorem int_read {k : IntKind} {t : TypeId} (ht : P.underlying t = some (.int k)) {fuel : Nat} {v : Value} {x : DataW H × List MemPlace} (h : trd enc P w fuel t [v] = some x) : ∃ n, v = .int k n ∧ k.min ≤ n ∧ n ≤ k.max := by
  obtain ⟨n, h1, _, h2⟩ := DataW.trod_int ht h
  cases h1
  simp only [Lit.wf, Bool.and_eq_true, decide_eq_true_eq] at h2
  exact ⟨n, rfl, h2⟩
theorem bool_read {t : TypeId} (ht : P.underlying t = some .bool) {fuel : Nat} {v : Value} {x : DataW H × List MemPlace} (h : trd enc P w fuel t [v] = some x) : ∃ n, v = .bool n := by
  obtain ⟨n, h1, _⟩ := DataW.trod_bool ht h
  cases h1
  exact ⟨n, rfl⟩
theorem string_read {t : TypeId} (ht : P.underlying t = some .string) {fuel : Nat} {v : Value} {x : DataW H × List MemPlace} (h : trd enc P w fuel t [v] = some x) : ∃ n, v = .string n := by
  obtain ⟨n, h1, _⟩ := DataW.trod_string ht h
  cases h1
  exact ⟨n, rfl⟩
theorem float_read {k : FloatKind} {t : TypeId} (ht : P.underlying t = some (.float k)) {fuel : Nat} {v : Value} {x : DataW H × List MemPlace} (h : trd enc P w fuel t [v] = some x) : ∃ n, v = .float k n := by
  cases fuel with
  | zero => simp [DataW.trod] at h
  | succ n =>
    unfold trd DataW.trod at h
    rw [ht] at h
    split at h <;> simp_all

theorem row1_read {t e : TypeId} (ht : P.underlying t = some (.slice e)) (he : P.underlying e = some .string) (hC : P.cellsOf e = 1) (hB : P.bytesOf e = 16) {fuel : Nat} {v : Value} {x : DataW H × List MemPlace} (h : trd enc P w fuel t [v] = some x) (hs : Sized P t x.1) :
    ∃ n f, Row1At w v n (strs f) ∧ n * 16 ≤ 140737488351232 := by
  rcases slice_read ht (by omega) h hs with ⟨q, hq⟩ | ⟨b, off, len, cap, hq, hb, hl, hi⟩
  · exact ⟨0, fun _ => default, .inl ⟨⟨q, by simpa using hq⟩, rfl⟩, by omega⟩
  · rw [hC] at hi
    rw [hB] at hl
    have : ∀ i, i < len → ∃ s : ByteArray, w.cell? ⟨b, off + i, none⟩ = some (.string s) := by
      intro i hil
      obtain ⟨cs', n, y, hcl, hat, hy, _⟩ := hi i hil
      match cs', hcl with
      | [c], _ =>
        obtain ⟨s, rfl⟩ := string_read he hy
        exact ⟨s, by simpa using hat 0 (by omega)⟩
    obtain ⟨f, hf⟩ := choose_lt this
    exact ⟨len, f, .inr ⟨b, off, cap, by simpa using hq, hb, hf⟩, hl⟩

theorem row2_read {t e : TypeId} {f0 f1 : Field} (ht : P.underlying t = some (.slice e)) (he : P.underlying e = some (.struct #[f0, f1])) (hC : P.cellsOf e = 2) (ho0 : f0.offset = 0) (ho1 : f1.offset = 1) (hc0 : P.cellsOf f0.type = 1) (hc1 : P.cellsOf f1.type = 1)
    {α : Type} [Inhabited α] {mk : α → Value} (h0 : P.underlying f0.type = some .string) (h1 : ∀ (fuel : Nat) (v : Value) (x : DataW H × List MemPlace), trd enc P w fuel f1.type [v] = some x → ∃ a, v = mk a)
    {fuel : Nat} {v : Value} {x : DataW H × List MemPlace} (h : trd enc P w fuel t [v] = some x) (hs : Sized P t x.1) :
    ∃ (n : Nat) (f : Nat → ByteArray) (g : Nat → α), Row2At w v n (strs f) (fun j => mk (g j)) ∧ n * P.bytesOf e ≤ 140737488351232 := by
  rcases slice_read ht (by omega) h hs with ⟨q, hq⟩ | ⟨b, off, len, cap, hq, hb, hl, hi⟩
  · exact ⟨0, fun _ => default, fun _ => default, .inl ⟨⟨q, by simpa using hq⟩, rfl⟩, by omega⟩
  · rw [hC] at hi
    have : ∀ i, i < len → ∃ s : ByteArray × α, w.cell? ⟨b, off + i * 2, none⟩ = some (.string s.1) ∧ w.cell? ⟨b, off + i * 2 + 1, none⟩ = some (mk s.2) := by
      intro i hil
      obtain ⟨cs', n, y, hcl, hat, hy, hys⟩ := hi i hil
      obtain ⟨n', hf⟩ := struct_read he hy hys
      match cs', hcl with
      | [c, d], _ =>
        obtain ⟨y0, hy0, _⟩ := hf 0 f0 rfl
        obtain ⟨y1, hy1, _⟩ := hf 1 f1 rfl
        rw [ho0, hc0] at hy0
        rw [ho1, hc1] at hy1
        obtain ⟨s, rfl⟩ := string_read h0 hy0
        obtain ⟨g, rfl⟩ := h1 _ _ _ hy1
        exact ⟨(s, g), by simpa using hat 0 (by omega), by simpa using hat 1 (by omega)⟩
    obtain ⟨f, hf⟩ := choose_lt this
    exact ⟨len, fun j => (f j).1, fun j => (f j).2, .inr ⟨b, off, cap, by simpa using hq, hb, hf⟩, hl⟩
end

end Go.Proofs.YtagpkkofjehcnaaGreatDoor
