/-
  One Ask, whatever it asks, at a Space that is not there and at one that was never made.
-/
import Derived.Test.YtagpkkofjehcnaaGreatDoorTwY
import Derived.Test.YtagpkkofjehcnaaGreatDoorTwZ
set_option linter.all false
namespace Go.Proofs.YtagpkkofjehcnaaGreatDoor
open Go Go.RowKit Go.Ev

/-- An Ask, its lists by their content. -/
structure AskD where
  kind : Nat
  db : Int
  key : Value
  V : Val
  a : Value
  b : Value
  c : Value
  d : Value
  e : Value
  keep : Value
  now : Value
  most : Value
  pol : Value
  cur : Value

def one1 (v : Value) : Prop := ∀ c, v ≠ .agg c ∧ v ≠ .tuple c

structure AskOk (w : World) (A : AskD) : Prop where
  kind : A.kind < 256
  short : A.V.short
  val : ValAt w A.V A.a A.b A.c A.d A.e
  key : one1 A.key
  keep : one1 A.keep
  now : one1 A.now
  most : one1 A.most
  pol : one1 A.pol
  cur : one1 A.cur

theorem AskOk.below {w w' : World} {A : AskD} (h : AskOk w A) (hb : Below w.heap.size w w') : AskOk w' A := { h with val := h.val.below hb }

def AskD.rest (A : AskD) : List Value := [A.key, .int .u8 A.V.kind, .string A.V.text, A.a, A.b, A.c, A.d, A.e, .int .u64 A.V.ms, .int .u64 A.V.seq, A.keep, A.now, A.most, A.pol, A.cur]

theorem AskOk.ones {w : World} {A : AskD} (h : AskOk w A) : ∀ v ∈ A.rest, ∀ c, v ≠ .agg c ∧ v ≠ .tuple c := by
  obtain ⟨p1, l1, c1, e1⟩ := h.val.a.form
  obtain ⟨p2, l2, c2, e2⟩ := h.val.b.form
  obtain ⟨p3, l3, c3, e3⟩ := h.val.c.form
  obtain ⟨p4, l4, c4, e4⟩ := h.val.d.form
  obtain ⟨p5, l5, c5, e5⟩ := h.val.e.form
  intro v hv
  simp only [AskD.rest, List.mem_cons, List.not_mem_nil, or_false] at hv
  rcases hv with rfl | rfl | rfl | rfl | rfl | rfl | rfl | rfl | rfl | rfl | rfl | rfl | rfl | rfl | rfl
  · exact h.key
  · exact fun c => ⟨by simp, by simp⟩
  · exact fun c => ⟨by simp, by simp⟩
  · rw [e1]; exact fun c => ⟨by simp, by simp⟩
  · rw [e2]; exact fun c => ⟨by simp, by simp⟩
  · rw [e3]; exact fun c => ⟨by simp, by simp⟩
  · rw [e4]; exact fun c => ⟨by simp, by simp⟩
  · rw [e5]; exact fun c => ⟨by simp, by simp⟩
  · exact fun c => ⟨by simp, by simp⟩
  · exact fun c => ⟨by simp, by simp⟩
  · exact h.keep
  · exact h.now
  · exact h.most
  · exact h.pol
  · exact h.cur

set_option maxRecDepth 100000 in
theorem asks_nil_row (A : AskD) (w : World) (h : AskOk w A) :
    Calls Tryz.prog 4 #[.pointer none, .pointer none, .agg #[.int .u8 A.kind, .int .i64 A.db, A.key, .int .u8 A.V.kind, .string A.V.text, A.a, A.b, A.c, A.d, A.e, .int .u64 A.V.ms, .int .u64 A.V.seq, A.keep, A.now, A.most, A.pol, A.cur]] w fun e w' => e = .returned (.bool true) ∧ Below w.heap.size w w' := by
  by_cases hk : A.kind = 0
  · rw [hk]
    exact asksPut_nil A.V h.short _ _ _ _ _ _ _ _ _ _ _ _ w h.val
  · refine asks_nil A.kind (by omega) h.kind (.int .i64 A.db :: A.rest) rfl ?_ w
    intro v hv
    rcases List.mem_cons.1 hv with rfl | hv
    · exact fun c => ⟨by simp, by simp⟩
    · exact h.ones v hv

set_option maxRecDepth 100000 in
theorem asks_z_row (z : Nat) (A : AskD) (w : World) (h : AskOk w A) (hz : w.heap[z]? = some (.cells zCells 27 (0, 0))) :
    Calls Tryz.prog 4 #[.pointer (some ⟨z, 0, none⟩), .pointer none, .agg #[.int .u8 A.kind, .int .i64 A.db, A.key, .int .u8 A.V.kind, .string A.V.text, A.a, A.b, A.c, A.d, A.e, .int .u64 A.V.ms, .int .u64 A.V.seq, A.keep, A.now, A.most, A.pol, A.cur]] w fun e w' => e = .returned (.bool true) ∧ Below w.heap.size w w' := by
  by_cases hk : A.kind = 0
  · rw [hk]
    exact asksPut_z z A.V h.short _ _ _ _ _ _ _ _ _ _ _ _ w h.val (Array.getElem?_eq_some_iff.1 hz).1 (by simp [World.cell?, hz, zCells])
  · exact asks_z z A.kind (by omega) h.kind A.db A.rest rfl h.ones w hz

end Go.Proofs.YtagpkkofjehcnaaGreatDoor
