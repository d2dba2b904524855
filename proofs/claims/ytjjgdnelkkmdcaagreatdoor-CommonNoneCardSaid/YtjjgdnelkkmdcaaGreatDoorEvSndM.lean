/-
  Operations that write: the whole.
-/
import Derived.Test.YtjjgdnelkkmdcaaGreatDoorEvSndL
set_option linter.all false
namespace Go.Ev

section
variable {X : Cx} {ρ : Rn}

theorem scalEq_eq {a b : Value} (h : scalEq a b = true) : a = b := by
  unfold scalEq at h
  split at h
  · rw [beq_iff_eq] at h; rw [h]
  · simp only [Bool.and_eq_true, decide_eq_true_eq, intEq_eq, beq_iff_eq] at h; rw [h.1, h.2]
  · rw [← bytes_beq] at h
    rename_i x y
    have e0 : (x == y) = (x.data == y.data) := by cases x; cases y; rfl
    rw [e0, beq_iff_eq] at h
    congr 1
    exact ByteArray.ext h
  · cases h

theorem scalsEq_eq : ∀ {a b : List Value}, scalsEq a b = true → a = b
  | [], [], _ => rfl
  | [], _ :: _, h => by simp [scalsEq] at h
  | _ :: _, [], h => by simp [scalsEq] at h
  | x :: a, y :: b, h => by
    simp only [scalsEq, Bool.and_eq_true] at h
    rw [scalEq_eq h.1, scalsEq_eq h.2]

theorem bytes_refl (s : ByteArray) : (s == s) = true := by
  rw [bytes_beq, eqB_eq]; simp

theorem scalEq_bits {n : Nat} {a b : Value} (h : scalEq a b = true) : Instr.sameBits n a b = true := by
  have := scalEq_eq h
  subst this
  unfold scalEq at h
  split at h <;> first | (cases h; done) | skip
  · simp [Instr.sameBits]
  · simp [Instr.sameBits]
  · simp only [Instr.sameBits]; exact bytes_refl _

theorem scals_zip {n : Nat} : ∀ {a b : List Value}, scalsEq a b = true → ((a.zip b).all fun (x, y) => Instr.sameBits n x y) = true
  | [], [], _ => rfl
  | [], _ :: _, h => by simp [scalsEq] at h
  | _ :: _, [], h => by simp [scalsEq] at h
  | x :: a, y :: b, h => by
    simp only [scalsEq, Bool.and_eq_true] at h
    simp only [List.zip_cons_cons, List.all_cons, Bool.and_eq_true]
    exact ⟨scalEq_bits h.1, scals_zip h.2⟩

theorem keyEq_bits {a b : Value} (h : keyEq a b = true) : Instr.sameBits 10000 a b = true ∧ a = b := by
  unfold keyEq at h
  split at h
  · rename_i x y
    have he := scalsEq_eq h
    have hxy : x = y := Array.ext' he
    refine ⟨?_, by rw [hxy]⟩
    show (x.size == y.size && (x.toList.zip y.toList).all fun (x, y) => Instr.sameBits 9999 x y) = true
    rw [scals_zip h, hxy]; simp
  · exact ⟨scalEq_bits h, scalEq_eq h⟩

theorem setKV_get (k v : Value) : ∀ (es : List MapEntry) (i j : Nat), (setKV k v es i)[j]? = if j = i then (es[j]?).map (fun e => { key := k, val := v, born := e.born }) else es[j]?
  | [], i, j => by simp [setKV]
  | e :: es, 0, j => by
    cases j with
    | zero => simp [setKV]
    | succ j => simp [setKV]
  | e :: es, i + 1, j => by
    cases j with
    | zero => simp [setKV]
    | succ j => simp [setKV, setKV_get k v es i j]
theorem setKV_length (k v : Value) : ∀ (es : List MapEntry) (i : Nat), (setKV k v es i).length = es.length
  | [], _ => rfl
  | _ :: _, 0 => rfl
  | _ :: es, i + 1 => by simp [setKV, setKV_length k v es i]

theorem dropAt_eq : ∀ (es : List MapEntry) (i : Nat), dropAt es i = es.eraseIdx i
  | [], i => by simp [dropAt]
  | _ :: _, 0 => rfl
  | e :: es, i + 1 => by simp [dropAt, dropAt_eq es i]

theorem orel_map {L : Loc} {es : List MapEntry} {es' : Array MapEntry} {clock : Nat} (h : ERel ρ es es'.toList) : ORel ρ L (.map es clock) (.map es' clock) := by
  simp only [ORel]
  exact ⟨trivial, by simpa using h.1, fun i e e' h1 h2 => h.2 i e e' h1 (by simpa using h2)⟩

theorem setObj_run {P : Program} {w : World} {r : Nat} {o o' : Obj} (h : w.heap[r]? = some o) (hc : (match o with | .cells .. => false | _ => true) = true) :
    (setObj r o').run P w = .ok () { w with heap := w.heap.setIfInBounds r o' } := by
  unfold setObj
  cases o <;> first | (simp at hc; done) | simp [Sem.run, h]

theorem getObj_run {P : Program} {w : World} {r : Nat} {o : Obj} (h : w.heap[r]? = some o) (hc : (match o with | .cells .. => false | _ => true) = true) :
    (getObj r).run P w = .ok o w := by
  unfold getObj
  cases o <;> first | (simp at hc; done) | simp [Sem.run, h]

theorem write_of {H H' : Heap} {w : World} {o : Oper} {r : Operand → Value} {n : Nat} {v v' : Value} {w' : World} {s : Sem Value} (hs : execOp r o = (do pure (.value (← s))))
    (hrun : s.run X.P w = .ok v' w') {ρ' : Rn} (hv : VRel ρ' v v') (hg : Goes ρ H w ρ' H' w') (hne : ∀ m, m ≠ n → ρ' m = ρ m) : WriteSaid X ρ H w o r n v H' :=
  ⟨ρ', .value v', v', w', by rw [hs]; simp [hrun], .inl rfl, hv, hg, hne⟩
theorem write_skip {H H' : Heap} {w : World} {o : Oper} {r : Operand → Value} {n : Nat} {w' : World} {s : Sem Unit} (hs : execOp r o = (do s; pure .skip))
    (hrun : s.run X.P w = .ok () w') (hg : Goes ρ H w ρ H' w') : WriteSaid X ρ H w o r n (.tuple #[]) H' :=
  ⟨ρ, .skip, undef, w', by rw [hs]; simp [hrun], .inr ⟨rfl, rfl⟩, .tupA ⟨rfl, fun i x y h => by simp at h⟩, hg, fun _ _ => rfl⟩

/-- An entry's store, and a new one's. -/
theorem mapUpdate_ok (ok : X.Ok) {H : Heap} {w : World} (hw : WRel ρ H w) {t kt el : TypeId} {m : Nat} {k v k' v' : Value} {es : List MapEntry} {clock : Nat} {L : Loc}
    (hu : X.under t = some (.map kt el)) (hL : ρ m = some L) (hH : H.get m = some (.map es clock)) (hk : VRel ρ k k') (hv : VRel ρ v v') {H' : Heap}
    (h : (match X.look kt k es with
        | some (some (i, _)) => match es[i]? with
          | some x => bif keyEq x.key k then some (H.set m (.map (setKV k v es i) clock)) else none
          | none => none
        | some none => some (H.set m (.map (es ++ [{ key := k, val := v, born := clock }]) (clock + 1)))
        | none => none) = some H') :
    ∃ w', (Instr.mapUpdate t (.map (some L.block)) k' v').run X.P w = .ok () w' ∧ Goes ρ H w ρ H' w' := by
  obtain ⟨K, o', hK, hko, hrel⟩ := hw.obj m _ hH
  rw [hL] at hK; cases hK
  obtain ⟨es', rfl, he⟩ := hrel.mapInv
  have hgo := getObj_run (P := X.P) hko rfl
  split at h
  · rename_i i u hl
    split at h
    · rename_i e hei
      cases hkq : keyEq e.key k with
      | false => rw [hkq, cond_false] at h; cases h
      | true =>
        rw [hkq, cond_true] at h; cases h
        obtain ⟨hkk, q1, q2, r', hr', hrel'⟩ := look_ok ok hk he hl w
        cases r' with
        | none => cases hrel'
        | some q =>
          obtain ⟨j, u'⟩ := q
          obtain ⟨rfl, _⟩ := hrel'
          obtain ⟨e', he', hborn, hkr, hvr⟩ := he.get hei
          obtain ⟨hbits, hkeq⟩ := keyEq_bits hkq
          have hek : e'.key = e.key := keyFits_same (by rw [hkeq]; exact q2) hkr
          have hei' : es'[j]? = some e' := by simpa using he'
          have hsame : Instr.sameBits 10000 e'.key k' = true := by rw [hek, hkk]; exact hbits
          refine ⟨{ w with heap := w.heap.setIfInBounds L.block (.map (es'.modify j fun e => { e with key := k', val := v' }) clock) }, ?_, ?_⟩
          · unfold Instr.mapUpdate
            rw [hkk] at hr' hsame ⊢
            simp only [Sem.run_bind, run_under ok hu, Result.andThen_ok, hgo, checkKey_ok ok q1 q2, hr']
            simp only [Instr.keyThatStays, hei', Option.map_some, Option.getD_some, hsame, if_true, Sem.run_pure, Result.andThen_ok, setObj_run hko rfl]
          · refine Goes.update hw hH hL rfl rfl rfl (orel_map ⟨by rw [setKV_length]; simpa using he.1, fun a x y hx hy => ?_⟩)
            rw [setKV_get] at hx
            simp only [Array.getElem?_toList, Array.getElem?_modify] at hy
            by_cases e1 : a = j
            · subst e1
              rw [if_pos rfl, hei] at hx
              rw [if_pos rfl, hei'] at hy
              simp at hx hy
              subst hx hy
              exact ⟨hborn, by rw [hkk]; rw [hkk] at hk; exact hk, hv⟩
            · rw [if_neg e1] at hx
              rw [if_neg (fun e => e1 e.symm)] at hy
              exact he.2 a x y hx (by simpa using hy)
    · cases h
  · rename_i hl
    cases h
    obtain ⟨hkk, q1, q2, r', hr', hrel'⟩ := look_ok ok hk he hl w
    cases r' with
    | some q => cases hrel'
    | none =>
      refine ⟨{ w with heap := w.heap.setIfInBounds L.block (.map (es'.push { key := k', val := v', born := clock }) (clock + 1)) }, ?_, ?_⟩
      · unfold Instr.mapUpdate
        rw [hkk] at hr' ⊢
        simp only [Sem.run_bind, run_under ok hu, Result.andThen_ok, hgo, checkKey_ok ok q1 q2, hr', setObj_run hko rfl]
      · refine Goes.update hw hH hL rfl rfl rfl (orel_map ?_)
        have hlen := he.1
        refine ⟨by simpa using he.1, fun a x y hx hy => ?_⟩
        rw [Array.toList_push] at hy
        by_cases hlt : a < es.length
        · rw [List.getElem?_append_left hlt] at hx
          rw [List.getElem?_append_left (by omega)] at hy
          exact he.2 a x y hx hy
        · rw [List.getElem?_append_right (by omega)] at hx
          rw [List.getElem?_append_right (by omega), ← hlen] at hy
          cases ha : a - es.length with
          | zero =>
            rw [ha] at hx hy
            simp at hx hy
            subst hx hy
            exact ⟨rfl, hk, hv⟩
          | succ b => rw [ha] at hx; simp at hx
  · cases h

end
end Go.Ev
