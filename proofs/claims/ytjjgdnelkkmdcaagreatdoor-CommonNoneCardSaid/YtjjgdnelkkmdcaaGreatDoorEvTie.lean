/-
  The tie of a list of package-level variables to the program's text, by closed facts that look at names byte by byte.
-/
import Derived.Test.YtjjgdnelkkmdcaaGreatDoorEvInt
import Derived.LaidByTextLater
import GoSem.ClaimGoes
set_option linter.all false
namespace Go.Ev

theorem utf8_inj {a b : String} (h : a.toUTF8.data.toList = b.toUTF8.data.toList) : a = b :=
  String.toByteArray_inj.1 (show a.toUTF8 = b.toUTF8 from ByteArray.ext (Array.ext' h))

theorem strBeq (a b : String) : (a == b) = eqB a.toUTF8.data.toList b.toUTF8.data.toList := by
  rw [eqB_eq, Bool.eq_iff_iff, beq_iff_eq, beq_iff_eq]
  exact ⟨fun h => by rw [h], utf8_inj⟩

/-- The places of a list where something holds. -/
def placesIn {α : Type} (p : α → Bool) : List α → Nat → List Nat
  | [], _ => []
  | x :: r, i => bif p x then i :: placesIn p r (i + 1) else placesIn p r (i + 1)

theorem filter_range' {α : Type} (p : α → Bool) : ∀ (l : List α) (k : Nat), ((List.range' k l.length).filter fun i => (l[i - k]?).any p) = placesIn p l k
  | [], k => rfl
  | x :: r, k => by
    have ih := filter_range' p r (k + 1)
    simp only [List.length_cons, List.range'_succ, placesIn]
    have e : ((List.range' (k + 1) r.length).filter fun i => ((x :: r)[i - k]?).any p) = ((List.range' (k + 1) r.length).filter fun i => (r[i - (k + 1)]?).any p) := by
      apply List.filter_congr
      intro i hi
      have hk : k + 1 ≤ i := by simp [List.mem_range'] at hi; omega
      obtain ⟨j, rfl⟩ : ∃ j, i = k + 1 + j := ⟨i - (k + 1), by omega⟩
      have e1 : k + 1 + j - k = j + 1 := by omega
      have e2 : k + 1 + j - (k + 1) = j := by omega
      rw [e1, e2, List.getElem?_cons_succ]
    rw [List.filter_cons, e, ih]
    simp only [Nat.sub_self, List.getElem?_cons_zero, Option.any_some]
    cases p x <;> rfl

theorem filter_range {α : Type} (p : α → Bool) (l : List α) : ((List.range l.length).filter fun i => (l[i]?).any p) = placesIn p l 0 := by
  have := filter_range' p l 0
  rw [← List.range_eq_range'] at this
  simpa using this

theorem funcNamed_bytes {P : Program} {name : String} {g : Nat} (h : placesIn (fun fn : Func => eqB fn.name.toUTF8.data.toList name.toUTF8.data.toList) P.funcs.toList 0 = [g]) :
    P.funcNamed name = some g := by
  unfold Program.funcNamed
  have e : ((List.range P.funcs.size).filter fun i => (P.funcs[i]?).any (·.name == name)) = [g] := by
    have := filter_range (fun fn : Func => eqB fn.name.toUTF8.data.toList name.toUTF8.data.toList) P.funcs.toList
    rw [h] at this
    rw [← this]
    simp only [Array.length_toList, Array.getElem?_toList, strBeq]
  rw [e]

theorem globalNamed_bytes {P : Program} {name : String} {g : Nat} (h : placesIn (fun v : Global => eqB v.name.toUTF8.data.toList name.toUTF8.data.toList) P.globals.toList 0 = [g]) :
    P.globalNamed name = some g := by
  unfold Program.globalNamed
  have e : ((List.range P.globals.size).filter fun i => (P.globals[i]?).any (·.name == name)) = [g] := by
    have := filter_range (fun v : Global => eqB v.name.toUTF8.data.toList name.toUTF8.data.toList) P.globals.toList
    rw [h] at this
    rw [← this]
    simp only [Array.length_toList, Array.getElem?_toList, strBeq]
  rw [e]

theorem worded_bytes {P : Program} {word : String} {b : Bool} (h : (P.funcs.toList.any fun fn => fn.body.isNone && eqB fn.name.toUTF8.data.toList word.toUTF8.data.toList) = b) : P.worded word = b := by
  rw [← h]
  unfold Program.worded
  simp only [strBeq, Array.any_toList]

/-- Does a function start a goroutine? Its name looked at byte by byte. -/
def goesB (fn : Func) : Bool :=
  match fn.body with
  | some c => c.goes
  | none => (entryGoes.any fun w => eqB fn.name.toUTF8.data.toList w.toUTF8.data.toList) || (entryGoes.any fun w => eqB fn.origin.toUTF8.data.toList w.toUTF8.data.toList)
theorem goesB_eq (fn : Func) : goesB fn = fn.goes := by
  unfold goesB Func.goes
  cases fn.body with
  | some c => rfl
  | none => simp only [List.contains_eq_any_beq, strBeq]
theorem goesBy_of {P : Program} {c : OpenClaim} (hs : c.start = .entering) (h : P.funcs.toList.any goesB = false) : false = c.goesBy P := by
  have e : ∀ (g : Nat), (P.funcs[g]?).any Func.goes = false := by
    intro g
    cases hg : P.funcs[g]? with
    | none => rfl
    | some fn =>
      have hm : fn ∈ P.funcs.toList := by
        rw [← Array.getElem?_toList] at hg
        exact List.mem_of_getElem? hg
      have := List.any_eq_false.1 h fn hm
      rw [goesB_eq] at this
      simpa using this
  have e2 : P.funcs.any Func.goes = false := by
    rw [← Array.any_toList, ← h]
    congr 1
    funext fn
    exact (goesB_eq fn).symm
  unfold OpenClaim.goesBy Program.goesAt Program.goesFrom
  rw [hs]
  simp only [Bool.or_false]
  cases P.funcNamed c.func with
  | none => rfl
  | some f =>
    simp only [Option.any_some, Program.goes, e, e2, Bool.and_false, Bool.or_false]
    simp

/-- The start of a witness: the settled world, its heap the one that the run of the variables' door leaves. -/
noncomputable def doorAt (P : Program) (n : Nat) (g : FuncId) (os : Os) : World :=
  { World.holding P os ⟨#[], #[], []⟩ with heap := (varsWorld P n g os (fun _ _ => 0)).heap }

end Go.Ev
