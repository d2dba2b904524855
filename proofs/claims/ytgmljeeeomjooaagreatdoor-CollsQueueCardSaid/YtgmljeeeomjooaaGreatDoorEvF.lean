/-
  The evaluator and what it says of the model: a part of it.
-/
import Derived.Test.YtgmljeeeomjooaaGreatDoorEvA
import Derived.LaidByTextLater
import GoSem.ClaimGoes
import Derived.Stop.Joined
import Derived.Deep.DeepHandedRow
set_option linter.all false

namespace Go.Ev

theorem utf8_inj {a b : String} (h : a.toUTF8.data.toList = b.toUTF8.data.toList) : a = b :=
  String.toByteArray_inj.1 (show a.toUTF8 = b.toUTF8 from ByteArray.ext (Array.ext' h))

theorem strBeq (a b : String) : (a == b) = eqB a.toUTF8.data.toList b.toUTF8.data.toList := by
  rw [eqB_eq, Bool.eq_iff_iff, beq_iff_eq, beq_iff_eq]
  exact ⟨fun h => by rw [h], utf8_inj⟩

/-- The places of a list where something holds. -/
def placesIn {α : Type} (p : α → Bool) : List α → Nat → List Nat
  | [], _ => []
  | x :: r, i => bif p x then i :: placesIn p r (i + 1) else placesIn p r (i + 1)

theorem filter_range' {α : Type} (p : α → Bool) : ∀ (l : List α) (k : Nat), ((List.range' k l.length).filter fun i => (l[i - k]?).any p) = placesIn p l k
  | [], k => rfl
  | x :: r, k => by
    have ih := filter_range' p r (k + 1)
    simp only [List.length_cons, List.range'_succ, placesIn]
    have e : ((List.range' (k + 1) r.length).filter fun i => ((x :: r)[i - k]?).any p) = ((List.range' (k + 1) r.length).filter fun i => (r[i - (k + 1)]?).any p) := by
      apply List.filter_congr
      intro i hi
      have hk : k + 1 ≤ i := by simp [List.mem_range'] at hi; omega
      obtain ⟨j, rfl⟩ : ∃ j, i = k + 1 + j := ⟨i - (k + 1), by omega⟩
      have e1 : k + 1 + j - k = j + 1 := by omega
      have e2 : k + 1 + j - (k + 1) = j := by omega
      rw [e1, e2, List.getElem?_cons_succ]
    rw [List.filter_cons, e, ih]
    simp only [Nat.sub_self, List.getElem?_cons_zero, Option.any_some]
    cases p x <;> rfl

theorem filter_range {α : Type} (p : α → Bool) (l : List α) : ((List.range l.length).filter fun i => (l[i]?).any p) = placesIn p l 0 := by
  have := filter_range' p l 0
  rw [← List.range_eq_range'] at this
  simpa using this

theorem funcNamed_bytes {P : Program} {name : String} {g : Nat} (h : placesIn (fun fn : Func => eqB fn.name.toUTF8.data.toList name.toUTF8.data.toList) P.funcs.toList 0 = [g]) :
    P.funcNamed name = some g := by
  unfold Program.funcNamed
  have e : ((List.range P.funcs.size).filter fun i => (P.funcs[i]?).any (·.name == name)) = [g] := by
    have := filter_range (fun fn : Func => eqB fn.name.toUTF8.data.toList name.toUTF8.data.toList) P.funcs.toList
    rw [h] at this
    rw [← this]
    simp only [Array.length_toList, Array.getElem?_toList, strBeq]
  rw [e]

theorem globalNamed_bytes {P : Program} {name : String} {g : Nat} (h : placesIn (fun v : Global => eqB v.name.toUTF8.data.toList name.toUTF8.data.toList) P.globals.toList 0 = [g]) :
    P.globalNamed name = some g := by
  unfold Program.globalNamed
  have e : ((List.range P.globals.size).filter fun i => (P.globals[i]?).any (·.name == name)) = [g] := by
    have := filter_range (fun v : Global => eqB v.name.toUTF8.data.toList name.toUTF8.data.toList) P.globals.toList
    rw [h] at this
    rw [← this]
    simp only [Array.length_toList, Array.getElem?_toList, strBeq]
  rw [e]

theorem worded_bytes {P : Program} {word : String} {b : Bool} (h : (P.funcs.toList.any fun fn => fn.body.isNone && eqB fn.name.toUTF8.data.toList word.toUTF8.data.toList) = b) : P.worded word = b := by
  rw [← h]
  unfold Program.worded
  simp only [strBeq, Array.any_toList]

/-- Does a function start a goroutine? Its name looked at byte by byte. -/
def goesB (fn : Func) : Bool :=
  match fn.body with
  | some c => c.goes
  | none => (entryGoes.any fun w => eqB fn.name.toUTF8.data.toList w.toUTF8.data.toList) || (entryGoes.any fun w => eqB fn.origin.toUTF8.data.toList w.toUTF8.data.toList)
theorem goesB_eq (fn : Func) : goesB fn = fn.goes := by
  unfold goesB Func.goes
  cases fn.body with
  | some c => rfl
  | none => simp only [List.contains_eq_any_beq, strBeq]
theorem goesBy_of {P : Program} {c : OpenClaim} (hs : c.start = .entering) (h : P.funcs.toList.any goesB = false) : false = c.goesBy P := by
  have e : ∀ (g : Nat), (P.funcs[g]?).any Func.goes = false := by
    intro g
    cases hg : P.funcs[g]? with
    | none => rfl
    | some fn =>
      have hm : fn ∈ P.funcs.toList := by
        rw [← Array.getElem?_toList] at hg
        exact List.mem_of_getElem? hg
      have := List.any_eq_false.1 h fn hm
      rw [goesB_eq] at this
      simpa using this
  have e2 : P.funcs.any Func.goes = false := by
    rw [← Array.any_toList, ← h]
    congr 1
    funext fn
    exact (goesB_eq fn).symm
  unfold OpenClaim.goesBy Program.goesAt Program.goesFrom
  rw [hs]
  simp only [Bool.or_false]
  cases P.funcNamed c.func with
  | none => rfl
  | some f =>
    simp only [Option.any_some, Program.goes, e, e2, Bool.and_false, Bool.or_false]
    simp

/-- The start of a witness: the settled world, its heap the one that the run of the variables' door leaves. -/
noncomputable def doorAt (P : Program) (n : Nat) (g : FuncId) (os : Os) : World :=
  { World.holding P os ⟨#[], #[], []⟩ with heap := (varsWorld P n g os (fun _ _ => 0)).heap }

end Go.Ev

namespace Go.Ev

def zipOk (P : Program) (w : World) : List Value → List TypeId → Bool
  | [], [] => true
  | v :: r, t :: q => Cell.okRefB P w t v && zipOk P w r q
  | _, _ => false

theorem zipOk_at {P : Program} {w : World} : ∀ {l : List Value} {q : List TypeId}, zipOk P w l q = true → l.length = q.length ∧ ∀ (i : Nat) v, l[i]? = some v → ∃ u, q[i]? = some u ∧ Cell.ok P w .any 0 u v
  | [], [], _ => ⟨rfl, fun i v h => by simp at h⟩
  | [], _ :: _, h => by cases h
  | _ :: _, [], h => by cases h
  | v :: r, t :: q, h => by
    simp only [zipOk, Bool.and_eq_true] at h
    obtain ⟨hl, ht⟩ := zipOk_at h.2
    refine ⟨by simp [hl], fun i u hi => ?_⟩
    cases i with
    | zero => simp at hi; subst hi; exact ⟨t, rfl, Cell.ok_of_okRefB h.1⟩
    | succ i => exact ht i u (by simpa using hi)

def rowFast (P : Program) (w : World) (t : TypeId) (cs : Array Value) : Bool :=
  match P.cellTypes P.depth t with
  | some ts => zipOk P w cs.toList ts
  | none => false

theorem rowFast_ok {P : Program} {w : World} {t : TypeId} {cs : Array Value} (h : rowFast P w t cs = true) : Row.ok P w .any 0 t cs := by
  unfold rowFast at h
  split at h
  · rename_i ts hts
    obtain ⟨hl, ha⟩ := zipOk_at h
    rw [Array.length_toList] at hl
    refine ⟨ts, hts, ⟨1, by omega⟩, fun i v hv => ?_⟩
    have hi : i < cs.size := (Array.getElem?_eq_some_iff.1 hv).1
    rw [Nat.mod_eq_of_lt (by omega)]
    exact ha i v (by simpa using hv)
  · cases h

/-- Has a block its cells, as many as a row, of its type, none of them frozen? -/
def objFast (P : Program) (w : World) (o : Option Obj) (zero : Array Value) (t : TypeId) : Bool :=
  match o with
  | some (.cells cs t' (a, b)) => Nat.beq t' t && Nat.beq a 0 && Nat.beq b 0 && Nat.beq cs.toList.length zero.toList.length && (rowFast P w t cs || !P.buildable t)
  | _ => false

/-- Is one package-level variable's block as it may be? -/
def varFast (P : Program) (w w₀ : World) (g : Nat) : Bool :=
  match (w₀.heap[g]?).bind Obj.row? with
  | none => true
  | some (zero, t) => objFast P w w.heap[g]? zero t

theorem shaped_of_fast {P : Program} {w : World} (hv : ((List.range P.globals.size).all (varFast P w (begin P (fun _ _ => 0) default).world)) = true)
    (hr : (w.heap.toList.drop P.globals.size).take ((begin P (fun _ _ => 0) default).world.heap.size - P.globals.size) =
      (begin P (fun _ _ => 0) default).world.heap.toList.drop P.globals.size) : w.Shaped P := by
  refine ⟨fun g zero t hg hz => ?_, fun k h1 h2 => ?_⟩
  case refine_2 =>
    have := congrArg (·[k - P.globals.size]?) hr
    simp only [List.getElem?_take, List.getElem?_drop, Array.getElem?_toList] at this
    rw [if_pos (by omega), Nat.add_sub_cancel' h1] at this
    exact this
  have hg' := List.all_eq_true.1 hv g (List.mem_range.2 hg)
  unfold varFast at hg'
  rw [hz] at hg'
  simp only at hg'
  unfold objFast at hg'
  split at hg'
  · rename_i cs t' a b ho
    simp only [Bool.and_eq_true] at hg'
    obtain ⟨⟨⟨⟨h1, h2⟩, h3⟩, h4⟩, h5⟩ := hg'
    have e1 := Nat.eq_of_beq_eq_true h1
    have e2 := Nat.eq_of_beq_eq_true h2
    have e3 := Nat.eq_of_beq_eq_true h3
    have e4 := Nat.eq_of_beq_eq_true h4
    subst e1 e2 e3
    refine ⟨cs, ho, by simpa using e4, fun hb => ?_⟩
    rw [hb, Bool.not_true, Bool.or_false] at h5
    exact rowFast_ok h5
  · cases hg'

section
variable {H : Type} {enc : TypeId × Value → H}
/-- There is an input that fits, at a world that is shaped. -/
theorem witness_shaped {C : Checked} {os : Os} {f : FuncId} {fn : Func} {s : OpenSpec} {conds : List PathCond} {apart : Bool} {laid : List (String × DataW Unit)} (modest : Bool) (w0 : World) (args : Array Value) (hos : w0.os = os)
    (hsh : (w0.forCall (fun _ _ => 0) ⟨#[], args, []⟩).Shaped C.prog)
    (hok : Input.okWideB C.prog (w0.forCall (fun _ _ => 0) ⟨#[], args, []⟩) f ⟨#[], args, []⟩ = true)
    (hrow : s.preRow enc C.prog fn conds apart laid (w0.forCall (fun _ _ => 0) ⟨#[], args, []⟩).memory args) :
    ∃ (w : World) (tape : Tape) (i : Input), w.os = os ∧ (w.forCall tape i).Shaped C.prog ∧ i.vars = [] ∧ Input.okWide C.prog (w.forCall tape i) .any w.heap.size f i ∧
      s.preRow enc C.prog fn conds apart laid (w.forCall tape i).memory i.args ∧ ({ modest := modest } : Assume).holds C.prog (lone (Frame.enter C.prog f i.args .normal) [] (w.forCall tape i)) :=
  ⟨w0, fun _ _ => 0, ⟨#[], args, []⟩, hos, hsh, (Input.okWide_of_okWideB (base := 0) hok).1, (Input.okWide_of_okWideB hok).2, hrow, by
    simp only [Assume.holds]
    exact ⟨by simp, by simp, fun _ => Modest.zero, by simp, by simp⟩⟩
end

end Go.Ev
