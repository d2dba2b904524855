/-
  A start for a row's witness where great tables lie among the package-level variables: their cells are looked at one behind the other.
-/
import Derived.Test.YtjjgdnelkkmdcaaGreatDoorEvTie
import Derived.Stop.Joined
import Derived.Deep.DeepHandedRow
set_option linter.all false
namespace Go.Ev

def zipOk (P : Program) (w : World) : List Value → List TypeId → Bool
  | [], [] => true
  | v :: r, t :: q => Cell.okRefB P w t v && zipOk P w r q
  | _, _ => false

theorem zipOk_at {P : Program} {w : World} : ∀ {l : List Value} {q : List TypeId}, zipOk P w l q = true → l.length = q.length ∧ ∀ (i : Nat) v, l[i]? = some v → ∃ u, q[i]? = some u ∧ Cell.ok P w .any 0 u v
  | [], [], _ => ⟨rfl, fun i v h => by simp at h⟩
  | [], _ :: _, h => by cases h
  | _ :: _, [], h => by cases h
  | v :: r, t :: q, h => by
    simp only [zipOk, Bool.and_eq_true] at h
    obtain ⟨hl, ht⟩ := zipOk_at h.2
    refine ⟨by simp [hl], fun i u hi => ?_⟩
    cases i with
    | zero => simp at hi; subst hi; exact ⟨t, rfl, Cell.ok_of_okRefB h.1⟩
    | succ i => exact ht i u (by simpa using hi)

def rowFast (P : Program) (w : World) (t : TypeId) (cs : Array Value) : Bool :=
  match P.cellTypes P.depth t with
  | some ts => zipOk P w cs.toList ts
  | none => false

theorem rowFast_ok {P : Program} {w : World} {t : TypeId} {cs : Array Value} (h : rowFast P w t cs = true) : Row.ok P w .any 0 t cs := by
  unfold rowFast at h
  split at h
  · rename_i ts hts
    obtain ⟨hl, ha⟩ := zipOk_at h
    rw [Array.length_toList] at hl
    refine ⟨ts, hts, ⟨1, by omega⟩, fun i v hv => ?_⟩
    have hi : i < cs.size := (Array.getElem?_eq_some_iff.1 hv).1
    rw [Nat.mod_eq_of_lt (by omega)]
    exact ha i v (by simpa using hv)
  · cases h

/-- Has a block its cells, as many as a row, of its type, none of them frozen? -/
def objFast (P : Program) (w : World) (o : Option Obj) (zero : Array Value) (t : TypeId) : Bool :=
  match o with
  | some (.cells cs t' (a, b)) => Nat.beq t' t && Nat.beq a 0 && Nat.beq b 0 && Nat.beq cs.toList.length zero.toList.length && (rowFast P w t cs || !P.buildable t)
  | _ => false

/-- Is one package-level variable's block as it may be? -/
def varFast (P : Program) (w w₀ : World) (g : Nat) : Bool :=
  match (w₀.heap[g]?).bind Obj.row? with
  | none => true
  | some (zero, t) => objFast P w w.heap[g]? zero t

theorem shaped_of_fast {P : Program} {w : World} (hv : ((List.range P.globals.size).all (varFast P w (begin P (fun _ _ => 0) default).world)) = true)
    (hr : (w.heap.toList.drop P.globals.size).take ((begin P (fun _ _ => 0) default).world.heap.size - P.globals.size) =
      (begin P (fun _ _ => 0) default).world.heap.toList.drop P.globals.size) : w.Shaped P := by
  refine ⟨fun g zero t hg hz => ?_, fun k h1 h2 => ?_⟩
  case refine_2 =>
    have := congrArg (·[k - P.globals.size]?) hr
    simp only [List.getElem?_take, List.getElem?_drop, Array.getElem?_toList] at this
    rw [if_pos (by omega), Nat.add_sub_cancel' h1] at this
    exact this
  have hg' := List.all_eq_true.1 hv g (List.mem_range.2 hg)
  unfold varFast at hg'
  rw [hz] at hg'
  simp only at hg'
  unfold objFast at hg'
  split at hg'
  · rename_i cs t' a b ho
    simp only [Bool.and_eq_true] at hg'
    obtain ⟨⟨⟨⟨h1, h2⟩, h3⟩, h4⟩, h5⟩ := hg'
    have e1 := Nat.eq_of_beq_eq_true h1
    have e2 := Nat.eq_of_beq_eq_true h2
    have e3 := Nat.eq_of_beq_eq_true h3
    have e4 := Nat.eq_of_beq_eq_true h4
    subst e1 e2 e3
    refine ⟨cs, ho, by simpa using e4, fun hb => ?_⟩
    rw [hb, Bool.not_true, Bool.or_false] at h5
    exact rowFast_ok h5
  · cases hg'

section
variable {H : Type} {enc : TypeId × Value → H}
/-- There is an input that fits, at a world that is shaped. -/
theorem witness_shaped {C : Checked} {os : Os} {f : FuncId} {fn : Func} {s : OpenSpec} {conds : List PathCond} {apart : Bool} {laid : List (String × DataW Unit)} (modest : Bool) (w0 : World) (args : Array Value) (hos : w0.os = os)
    (hsh : (w0.forCall (fun _ _ => 0) ⟨#[], args, []⟩).Shaped C.prog)
    (hok : Input.okWideB C.prog (w0.forCall (fun _ _ => 0) ⟨#[], args, []⟩) f ⟨#[], args, []⟩ = true)
    (hrow : s.preRow enc C.prog fn conds apart laid (w0.forCall (fun _ _ => 0) ⟨#[], args, []⟩).memory args) :
    ∃ (w : World) (tape : Tape) (i : Input), w.os = os ∧ (w.forCall tape i).Shaped C.prog ∧ i.vars = [] ∧ Input.okWide C.prog (w.forCall tape i) .any w.heap.size f i ∧
      s.preRow enc C.prog fn conds apart laid (w.forCall tape i).memory i.args ∧ ({ modest := modest } : Assume).holds C.prog (lone (Frame.enter C.prog f i.args .normal) [] (w.forCall tape i)) :=
  ⟨w0, fun _ _ => 0, ⟨#[], args, []⟩, hos, hsh, (Input.okWide_of_okWideB (base := 0) hok).1, (Input.okWide_of_okWideB hok).2, hrow, by
    simp only [Assume.holds]
    exact ⟨by simp, by simp, fun _ => Modest.zero, by simp, by simp⟩⟩
end

end Go.Ev
