/-
  From a run with unknown arguments to a law's row: arguments that are structs of cells, taken apart and put together.
-/
import Derived.Test.YtjjgdnelkkmdcaaGreatDoorEvSym
import Derived.WideKeyArgs
import Derived.OpenShut
import Derived.JoinedOf
set_option linter.all false
namespace Go.Ev
open Go.ChangeShapes

theorem op_lss (k : IntKind) (a b : Int) : intOp .lss k a b = some (.bool (decide (a < b))) := by simp only [intOp, intLt_eq]
theorem op_gtr (k : IntKind) (a b : Int) : intOp .gtr k a b = some (.bool (decide (b < a))) := by simp only [intOp, intLt_eq]
theorem op_geq (k : IntKind) (a b : Int) : intOp .geq k a b = some (.bool (!decide (a < b))) := by simp only [intOp, intLt_eq]
theorem op_leq (k : IntKind) (a b : Int) : intOp .leq k a b = some (.bool (!decide (b < a))) := by simp only [intOp, intLt_eq]

theorem Kept.cell {w w' : World} (h : Kept w w') {a : Addr} (ha : a.block < w.heap.size) : w'.cell? a = w.cell? a := by
  unfold World.cell?
  rw [h.same _ ha]
theorem Kept.sameAt {w w' : World} (h : Kept w w') {p : MemPlace} (hp : p.block < w.heap.size) : w.sameAt w' p := by
  cases p with
  | cell b off => exact h.cell (a := ⟨b, off, none⟩) hp
  | map b => exact h.same b hp

/-- Names for the cells of a struct. -/
def symCells (b k n : Nat) : List Value := (List.range n).map fun i => .chan (some (b + (k + i)))

theorem sym_agg {n b : Nat} {l : List Value} (h : n ≤ b) (k : Nat) (cs : List Value) (hcs : ∀ i, i < cs.length → l[k + i]? = cs[i]?) (ho : ∀ v ∈ cs, ∀ c, v ≠ .agg c ∧ v ≠ .tuple c) :
    VRel (globS n b l) (.agg ⟨symCells b k cs.length⟩) (.agg ⟨cs⟩) := by
  refine .agg (by simp [symCells]) fun i x y hx hy => ?_
  have hy' : cs[i]? = some y := by simpa using hy
  have hi : i < cs.length := (List.getElem?_eq_some_iff.1 hy').1
  have hx' : x = .chan (some (b + (k + i))) := by
    have : (symCells b k cs.length)[i]? = some x := by simpa using hx
    simp [symCells, hi] at this
    exact this.symm
  subst hx'
  exact sym_rel h (by rw [hcs i hi]; exact hy') (ho y (List.mem_of_getElem? hy'))

theorem structCells {P : Program} {w : World} {r : Reach} {base : Nat} {t : TypeId} {fs : Array Field} {v : Value} (ht : P.underlying t = some (.struct fs)) (h : Value.okWide P w r base t v) :
    ∃ cs, v = .agg cs ∧ cs.size = P.cellsOf t ∧ Row.okWide P w r base t cs := by
  unfold Value.okWide at h
  rw [ht] at h
  exact h

theorem okWide_ones {P : Program} {w : World} {r : Reach} {base : Nat} {t : TypeId} {cs : Array Value} {ts : List TypeId} (h : Row.okWide P w r base t cs) (hts : P.cellTypes P.depth t = some ts) (hn : cs.size = ts.length) :
    ∀ v ∈ cs.toList, ∀ c, v ≠ .agg c ∧ v ≠ .tuple c := by
  intro v hv
  obtain ⟨i, hi⟩ := List.mem_iff_getElem?.1 hv
  have hi' : cs[i]? = some v := by simpa using hi
  have hlt : i < cs.size := (Array.getElem?_eq_some_iff.1 hi').1
  obtain ⟨u, hu, hc⟩ := okWide_cell h hts hn (i := i) (u := ts[i]'(by omega)) (List.getElem?_eq_getElem _)
  rw [hi'] at hu; cases hu
  exact cell_one hc

theorem arr_of {cs : Array Value} {l : List Value} (hn : cs.size = l.length) (h : ∀ i, i < l.length → cs[i]? = l[i]?) : cs = ⟨l⟩ := by
  apply Array.ext_getElem?
  intro i
  by_cases hi : i < l.length
  · rw [h i hi]; simp
  · rw [Array.getElem?_eq_none (by omega)]
    simp [hi]

/-- Arguments read behind the call as they read before. -/
theorem Kept.trod {H : Type} {enc : TypeId × Value → H} {P : Program} {t : TypeId} (hl : laidOutB P = true) (hr : P.readableRec t = true) (hrow : t < P.types.size) {W W' : World} {base : Nat} {sp : Nat → Bool} {v : Value} {d : DataW H} {ps : List MemPlace}
    (h : DataW.Trod enc P W base (fun _ => true) true t v d ps) (hk : Kept W W') (hlt : ∀ x ∈ ps, x.block < W.heap.size) (hs : ∀ x ∈ ps, sp x.block = true) : DataW.Trod enc P W' base sp true t v d ps :=
  WideElems.Trod_stays hl hr hrow h (fun x hx => hk.sameAt (hlt x hx)) hs

/-- One of a row's closed facts: its integer kinds. -/
def jfKinds (P : Program) (fn : Func) (c : OpenClaim) : Bool := (c.kinds == (if c.domain.isEmpty then [] else fn.params.toList.map fun t => match P.underlying t with | some (.int k) => some k | _ => none))
/-- A row's closed facts, one by one. -/
theorem joinedFacts_of {P : Program} {f : FuncId} {fn : Func} {s : ChangeSpec} {c : OpenClaim}
    (h1 : (c.wf (OpenSpec.ofChange s)) = true) (h2 : (laidOutB P) = true) (h3 : (mapsRowed P) = true) (h4 : (fn.params.all (P.readableRec ·)) = true) (h5 : (namedTie P c.named s.vars) = true) (h6 : ((c.stops == [])) = true) (h7 : ((P.stops == [])) = true) (h8 : ((c.knobs == [])) = true) (h9 : ((P.stopKnobs == [])) = true) (h10 : ((c.inPlace == P.inPlace f)) = true) (h11 : ((c.unfollowed == P.unfollowed f)) = true) (h12 : ((c.recurses == P.recurses f)) = true) (h13 : ((c.named == P.varsNamed f)) = true) (h14 : ((c.maps == (fn.params.toList ++ s.plain.varTypes P).any (P.mapsRec ·))) = true) (h15 : ((c.ifaces == (fn.params.toList ++ s.plain.varTypes P).any (P.ifacesRec ·))) = true) (h16 : ((c.mapsOut == P.mapsAmong fn.resultTypes.toList)) = true) (h17 : ((c.loops == (fn.params.toList ++ s.plain.varTypes P).any (P.loopsFrom ·))) = true) (h18 : ((c.wideKeys == (fn.params.toList ++ s.plain.varTypes P ++ fn.resultTypes.toList).any (P.wideKeysFrom ·))) = true) (h19 : (s.vars.all (P.varReadable ·)) = true) (h20 : (fn.resultTypes.all (fun t => P.readableRec t && decide (t < P.types.size))) = true) (h21 : ((c.ifacesOut == fn.resultTypes.toList.any (P.ifacesRec ·))) = true) (h22 : ((c.loopsOut == fn.resultTypes.toList.any (P.loopsFrom ·))) = true) (h23 : ((c.plainKeys == P.plainKeys)) = true) (h24 : (c.shortTexts.isNone) = true) (h25 : (P.stopsHeard) = true) (h26 : (P.mayEnter) = true) (h27 : ((c.lifted == P.liftsFinal)) = true) (h28 : ((P.make == some c.make)) = true) (h29 : (jfKinds P fn c) = true) (h30 : ((c.pinned == c.pinnedBy)) = true) (h31 : ((c.veiled == (fn.params.toList ++ s.plain.varTypes P ++ fn.resultTypes.toList).any (P.veiledRec ·))) = true) (h32 : (c.veiledFits P fn.params.toList (fn.params.toList ++ s.plain.varTypes P ++ fn.resultTypes.toList)) = true) : joinedFacts P f fn s c = true := by
  unfold joinedFacts
  unfold jfKinds at h29
  simp only [Bool.and_eq_true]
  exact ⟨⟨⟨⟨⟨⟨⟨⟨⟨⟨⟨⟨⟨⟨⟨⟨⟨⟨⟨⟨⟨⟨⟨⟨⟨⟨⟨⟨⟨⟨⟨h1, h2⟩, h3⟩, h4⟩, h5⟩, h6⟩, h7⟩, h8⟩, h9⟩, h10⟩, h11⟩, h12⟩, h13⟩, h14⟩, h15⟩, h16⟩, h17⟩, h18⟩, h19⟩, h20⟩, h21⟩, h22⟩, h23⟩, h24⟩, h25⟩, h26⟩, h27⟩, h28⟩, h29⟩, h30⟩, h31⟩, h32⟩

end Go.Ev
