/-
  What a slice of texts, read as the statement reads it, holds: plain reading, no code of the program in sight.
-/
import Derived.Test.YtgmljeeeomjooaaGreatDoorQj
import Derived.Test.YtgmljeeeomjooaaGreatDoorEvD
import Derived.Deep.Slices
import Derived.Deep.Fields
import Derived.ChangeSame
import Derived.SizedLaws
set_option linter.all false
namespace Go.Q
open Go Go.RowKit Go.ChangeShapes Go.WideShapes Go.Deep

section
variable {H : Type} {enc : TypeId × Value → H} {P : Program} {w : World}

theorem strings_read {t e : TypeId} (ht : P.underlying t = some (.slice e)) (he : P.underlying e = some .string) (hC : P.cellsOf e = 1) {fuel : Nat} {a : Option Addr} {n cap : Nat} {x : DataW H × List MemPlace} (h : DataW.trod enc P w 0 (fun _ => true) true fuel t [.slice a n cap] = some x) (hn : 0 < n) :
    ∃ (g off : Nat) (xs : List ByteArray), a = some ⟨g, off, none⟩ ∧ xs.length = n ∧ g < w.heap.size ∧ ∀ k (hk : k < xs.length), w.cell? ⟨g, off + k, none⟩ = some (.string xs[k]) := by
  rcases open_slice ht h with ⟨h0, _⟩ | ⟨a', len, cap', m, fu, D, Pl, hcs, _, hl, _, hm, hx, hi⟩
  · simp only [List.cons.injEq, Value.slice.injEq] at h0
    omega
  · simp only [if_true] at hm
    simp only [List.cons.injEq, Value.slice.injEq, and_true] at hcs
    obtain ⟨rfl, rfl, rfl⟩ := hcs
    subst hm
    have hat : ∀ i, i < m → ∃ s : ByteArray, w.cell? (a'.add i) = some (.string s) := by
      intro i him
      obtain ⟨cs', hc, hy⟩ := hi i him
      rw [hC, Nat.mul_one] at hc
      obtain ⟨_, hcl, hat⟩ := World.cells?_some hc
      match cs', hcl with
      | [c], _ =>
        obtain ⟨s, h1, _⟩ := DataW.trod_string he hy
        cases h1
        exact ⟨s, by simpa [Addr.add] using hat 0 (by omega)⟩
    obtain ⟨s0, hs0⟩ := hat 0 (by omega)
    obtain ⟨b, off, spot⟩ := a'
    have hspot : spot = none := by simpa [Addr.add] using World.cell?_spot hs0
    subst hspot
    have hb : b < w.heap.size := by
      have hv0' : w.cell? ⟨b, off, none⟩ = some (.string s0) := by simpa [Addr.add] using hs0
      by_cases hb : b < w.heap.size
      · exact hb
      · rw [World.cell?, Array.getElem?_eq_none (by simpa using hb)] at hv0'
        cases hv0'
    refine ⟨b, off, (List.range n).map (fun i => if hi : i < m then (hat i hi).choose else ⟨#[]⟩), rfl, by simp, hb, fun k hk => ?_⟩
    simp only [List.length_map, List.length_range] at hk
    have hkm : k < m := by omega
    have := (hat k hkm).choose_spec
    simp only [List.getElem_map, List.getElem_range, hkm, dif_pos]
    simpa [Addr.add_lit] using this

end

variable [Ev.Gho]
theorem laid_iface2 {P : Program} {laid : List (String × DataW Unit)} {w : World} (h : laidMetH P laid w) (hp : (laid.filter fun x => x.2.handleName?.isSome) = []) {k : Nat} {n : String} {d : DataW Unit} (hk : laid[k]? = some (n, d)) {g : Nat}
    (hg : P.globalNamed n = some g) {t : TypeId} (ht : (P.globals[g]?).map (·.type) = some t) {ms} (hu : P.underlying t = some (.interface ms)) :
    ∃ v el fz, w.heap[g]? = some (.cells #[v] el fz) ∧ (v = .nilIface ∨ ∃ te pe, v = .iface te pe) := by
  unfold laidMetH at h
  rw [hp] at h
  obtain ⟨ps, hv, _⟩ := h
  obtain ⟨g', t', cs, fuel, p, h1, h2, h3, h4⟩ := Ev.laidVars_get laid ps hv k n d hk
  rw [hg] at h1; cases h1
  rw [ht] at h2; cases h2
  have hone : ∃ v, cs = #[v] ∧ (v = .nilIface ∨ ∃ te pe, v = .iface te pe) := by
    cases fuel with
    | zero => simp [DataW.trod] at h4
    | succ fuel =>
      unfold DataW.trod at h4
      rw [hu] at h4
      obtain ⟨l⟩ := cs
      rcases l with _ | ⟨v, _ | ⟨u, l⟩⟩
      · simp at h4
      · refine ⟨v, rfl, ?_⟩
        cases v <;> first | exact .inl rfl | exact .inr ⟨_, _, rfl⟩ | simp at h4
      · cases v <;> simp at h4
  obtain ⟨v, rfl, ho⟩ := hone
  unfold World.var? at h3
  rw [hg] at h3
  simp only [Option.bind_some] at h3
  split at h3
  · rename_i c el fz hc
    cases h3
    exact ⟨v, el, fz, hc, ho⟩
  · cases h3

end Go.Q
