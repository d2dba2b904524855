/-
  Operations that write: case by case.
-/
import Derived.Test.YtjjgdnelkkmdcaaGreatDoorEvSndM
set_option linter.all false
namespace Go.Ev

section
variable {X : Cx} {ρ : Rn}

theorem ptr_add_new {n : Nat} {L : Loc} (h : L.shift = 0) : VRel (ρ.add n L) (.pointer (some ⟨n, 0, none⟩)) (.pointer (some ⟨L.block, 0, none⟩)) :=
  .ptr (L := L) (Rn.add_same ..) rfl (by simp [h]) rfl

theorem addr_eta {a : Addr} {b : Nat} (h1 : a.block = b) (h2 : a.off = 0) : a = ⟨b, 0, a.spot⟩ := by
  obtain ⟨x, y, z⟩ := a
  simp only at h1 h2
  subst h1 h2; rfl

theorem filter0 (f : MapEntry → Bool) : (#[] : Array MapEntry).filter f = #[] := rfl
theorem filter1 (f : MapEntry → Bool) (e : MapEntry) : (#[e] : Array MapEntry).filter f = if f e = true then #[e] else #[] := by
  apply Array.ext'
  simp only [Array.toList_filter]
  cases h : f e <;> simp [h]

theorem next_ok (ok : X.Ok) {H H' : Heap} {w : World} (hw : WRel ρ H w) {x : Operand} {isS : Bool} {v vx : Value} {ty : TypeId} {rr : Nat} {sp : Option Nat} (hx : VRel ρ (.pointer (some ⟨rr, 0, sp⟩)) vx)
    (h : (match H.get rr, isS with
      | some (.siter s pos), true => bif Nat.blt pos s.data.toList.length then
          let cw := Utf8.decode s pos
          some (Value.tuple #[.bool true, .int .i64 (.ofNat pos), .int .i32 cw.1], H.set rr (.siter s (pos + cw.2)))
        else some (.tuple #[.bool false], H)
      | some (.miter none _ _ _), false => some (.tuple #[.bool false], H)
      | some (.miter (some m) since seen stepped), false => match H.get m with
        | some (.map es clock) =>
          match es with
          | [] => some (.tuple #[.bool false], H)
          | [x] =>
            bif Nat.blt x.born since then
              (bif seen.contains x.born then (bif Nat.blt x.born stepped then some (.tuple #[.bool false], H) else none)
               else bif seen.isEmpty then some (.tuple #[.bool true, x.key, x.val], H.set rr (.miter (some m) since (seen ++ [x.born]) clock)) else none)
            else none
          | _ => none
        | _ => none
      | _, _ => none) = some (v, H')) :
    ∃ v' w', (Instr.next vx isS ty).run X.P w = .ok v' w' ∧ VRel ρ v v' ∧ Goes ρ H w ρ H' w' := by
  obtain ⟨a', L, rfl, p1, p2, p3, p4⟩ := hx.unptr
  have tup1 : ∀ b, VRel ρ (.tuple #[.bool b]) (.tuple #[.bool b]) := fun b => .tupA (LRel.arr (.cons (.bool b) (.nil ρ)))
  have base : ∀ o o', H.get rr = some o → (∃ L', ρ rr = some L' ∧ w.heap[L'.block]? = some o' ∧ ORel ρ L' o o') → w.heap[L.block]? = some o' ∧ ORel ρ L o o' := by
    rintro o o' _ ⟨L', q1, q2, q3⟩
    rw [p1] at q1; cases q1; exact ⟨q2, q3⟩
  split at h
  · rename_i s pos hH
    obtain ⟨K, o', hK, hko, hrel⟩ := hw.obj rr _ hH
    rw [p1] at hK; cases hK
    cases o' with
    | stringIter s' pos' =>
      simp only [ORel] at hrel
      obtain ⟨hsh, rfl, rfl⟩ := hrel
      have ha := addr_eta p2 (by simp at p3; omega)
      rw [ha]
      cases hb : Nat.blt pos' s'.data.toList.length with
      | true =>
        rw [hb, cond_true] at h
        simp only at h; cases h
        have hlt : pos' < s'.size := by rw [size_data]; simpa [Nat.blt_eq] using hb
        refine ⟨_, _, ?_, .tupA (LRel.arr (.cons (.bool true) (.cons (.int _ _) (.cons (.int _ _) (.nil ρ))))), Goes.update hw hH p1 (p' := .stringIter s' (pos' + (Utf8.decode s' pos').2)) (w' := { w with heap := w.heap.setIfInBounds L.block (.stringIter s' (pos' + (Utf8.decode s' pos').2)) }) rfl rfl rfl ⟨hsh, rfl, rfl⟩⟩
        unfold Instr.next
        simp only [Sem.run_bind, getObj_run hko rfl, Result.andThen_ok, if_pos hlt, setObj_run hko rfl, Sem.run_pure]
        rfl
      | false =>
        rw [hb, cond_false] at h; cases h
        have hlt : ¬ pos' < s'.size := by
          intro hc
          rw [size_data] at hc
          have : Nat.blt pos' s'.data.toList.length = true := by simpa [Nat.blt_eq] using hc
          rw [hb] at this; cases this
        refine ⟨_, w, ?_, tup1 false, .refl hw⟩
        unfold Instr.next
        simp only [Sem.run_bind, getObj_run hko rfl, Result.andThen_ok, if_neg hlt, Sem.run_pure]
    | _ => simp [ORel] at hrel
  · rename_i s1 s2 s3 hH
    cases h
    obtain ⟨K, o', hK, hko, hrel⟩ := hw.obj rr _ hH
    rw [p1] at hK; cases hK
    cases o' with
    | mapIter mm si se st =>
      simp only [ORel] at hrel
      obtain ⟨hsh, rfl, rfl, rfl, hmm⟩ := hrel
      cases mm with
      | some b => exact hmm.elim
      | none =>
        have ha := addr_eta p2 (by simp at p3; omega)
        rw [ha]
        refine ⟨_, w, ?_, tup1 false, .refl hw⟩
        unfold Instr.next
        simp only [Sem.run_bind, getObj_run hko rfl, Result.andThen_ok, Sem.run_pure]
    | _ => simp [ORel] at hrel
  · rename_i m since seen s3 hH
    obtain ⟨K, o', hK, hko, hrel⟩ := hw.obj rr _ hH
    rw [p1] at hK; cases hK
    cases o' with
    | mapIter mm si se st =>
      simp only [ORel] at hrel
      obtain ⟨hsh, rfl, rfl, rfl, hmm⟩ := hrel
      cases mm with
      | none => exact hmm.elim
      | some bb =>
        obtain ⟨M, hM, rfl⟩ := hmm
        have ha := addr_eta p2 (by simp at p3; omega)
        rw [ha]
        split at h
        · rename_i es clock hHm
          obtain ⟨M', om, hM', hkm, hrelm⟩ := hw.obj m _ hHm
          rw [hM] at hM'; cases hM'
          obtain ⟨es', rfl, he⟩ := hrelm.mapInv
          split at h
          · cases h
            have hes : es' = #[] := by apply Array.ext'; simpa using he.unnil
            subst hes
            refine ⟨_, w, ?_, tup1 false, .refl hw⟩
            unfold Instr.next
            simp only [Sem.run_bind, getObj_run hko rfl, getObj_run hkm rfl, Result.andThen_ok, filter0]
            simp [Question.forced]
          · rename_i e
            obtain ⟨e', t, het, hborn, hkr, hvr, ht⟩ := he.uncons
            have := ht.unnil
            subst this
            have hes : es' = #[e'] := by apply Array.ext'; simpa using het
            subst hes
            cases hb : Nat.blt e.born si with
            | false => rw [hb, cond_false] at h; cases h
            | true =>
              rw [hb, cond_true] at h
              have hlt : e'.born < si := by rw [hborn]; simpa [Nat.blt_eq] using hb
              have hge : ¬ si ≤ e'.born := by omega
              cases hc : seen.contains e.born with
              | true =>
                rw [hc, cond_true] at h
                cases hst : Nat.blt e.born st with
                | false => rw [hst, cond_false] at h; cases h
                | true =>
                rw [hst, cond_true] at h; cases h
                have hlst : e'.born < st := by rw [hborn]; simpa [Nat.blt_eq] using hst
                have hcc : seen.toArray.contains e'.born = true := by rw [hborn]; simpa using hc
                refine ⟨_, w, ?_, tup1 false, .refl hw⟩
                unfold Instr.next
                have hnl : ¬ st ≤ e'.born := by omega
                simp only [Sem.run_bind, getObj_run hko rfl, getObj_run hkm rfl, Result.andThen_ok, filter1, hcc, Bool.not_true, Bool.false_eq_true, if_false, filter0]
                simp [Question.forced, hnl]
              | false =>
                rw [hc, cond_false] at h
                cases hse : seen.isEmpty with
                | false => rw [hse, cond_false] at h; cases h
                | true =>
                  rw [hse, cond_true] at h; cases h
                  have hs0 : seen = [] := by simpa using hse
                  subst hs0
                  refine ⟨.tuple #[.bool true, e'.key, e'.val], { w with heap := w.heap.setIfInBounds L.block (.mapIter (some M.block) si #[e'.born] clock) }, ?_,
                    .tupA (LRel.arr (.cons (.bool true) (.cons hkr (.cons hvr (.nil ρ))))), Goes.update hw hH p1 rfl rfl rfl ?_⟩
                  · unfold Instr.next
                    simp only [Sem.run_bind, getObj_run hko rfl, getObj_run hkm rfl, Result.andThen_ok]
                    simp [hlt, hge, Question.forced, setObj_run hko rfl]
                  · simp only [ORel]
                    exact ⟨hsh, trivial, by rw [hborn]; rfl, trivial, M, hM, rfl⟩
          · cases h
        · cases h
    | _ => simp [ORel] at hrel
  · cases h

theorem evWrite_ok (ok : X.Ok) {o : Oper} {e : Operand → Option Value} {r : Operand → Value} (hr : OpRel ρ e r) {H H' : Heap} {w : World} (hw : WRel ρ H w) {v : Value} {n : Nat} (hn : ρ n = none)
    (h : evWrite X e o.op n H = some (v, H')) : WriteSaid X ρ H w o r n v H' := by
  obtain ⟨dst, op, ty, pos, after, guard⟩ := o
  simp only at h
  have mu : ∀ (t : TypeId) (m k x : Operand) (op : Op), (op = .mapUpdate t m k x ∨ op = .insert t m k x) →
      evWrite X e (.mapUpdate t m k x) n H = some (v, H') → WriteSaid X ρ H w ⟨dst, op, ty, pos, after, guard⟩ r n v H' := by
    intro t m k x op hop h
    simp only [evWrite] at h
    split at h
    · rename_i kt el rr kv xv hu hm hk hx
      split at h
      · rename_i es clock hH
        have hmr := hr m _ hm
        generalize hrm : r m = y at hmr
        cases hmr with
        | @map _ L hL =>
        have key : ∀ H2, (match X.look kt kv es with
            | some (some (i, _)) => match es[i]? with
              | some x => bif keyEq x.key kv then some (H.set rr (.map (setKV kv xv es i) clock)) else none
              | none => none
            | some none => some (H.set rr (.map (es ++ [{ key := kv, val := xv, born := clock }]) (clock + 1)))
            | none => none) = some H2 → WriteSaid X ρ H w ⟨dst, op, ty, pos, after, guard⟩ r n (.tuple #[]) H2 := by
          intro H2 h2
          obtain ⟨w', hrun, hg⟩ := mapUpdate_ok ok hw hu hL hH (hr k _ hk) (hr x _ hx) h2
          refine write_skip (s := Instr.mapUpdate t (r m) (r k) (r x)) ?_ (by rw [hrm]; exact hrun) hg
          rcases hop with rfl | rfl <;> rfl
        cases hl : X.look kt kv es with
        | none => rw [hl] at h; cases h
        | some q =>
          rw [hl] at h key
          cases q with
          | none =>
            simp only at h; cases h
            exact key _ rfl
          | some iv =>
            obtain ⟨i, u⟩ := iv
            simp only at h key
            cases hei : es[i]? with
            | none => rw [hei] at h; cases h
            | some ee =>
              rw [hei] at h key
              simp only at h key
              cases hkq : keyEq ee.key kv with
              | false => rw [hkq, cond_false] at h; cases h
              | true =>
                rw [hkq, cond_true] at h key; cases h
                exact key _ rfl
      · cases h
    · cases h
  cases op with
  | store t x y =>
    simp only [evWrite] at h
    split at h
    · rename_i a u s hx hy hs
      cases hc : Nat.beq u.cells.toList.length s with
      | false => rw [hc, cond_false] at h; cases h
      | true =>
        rw [hc, cond_true] at h
        simp only [Option.map_eq_some_iff] at h
        obtain ⟨K, hK, he⟩ := h
        cases he
        have hlen := Nat.eq_of_beq_eq_true hc
        obtain ⟨a', L, hea, p1, p2, p3, p4⟩ := (hr x _ hx).unptr
        have hcr := (hr y _ hy).cells
        obtain ⟨w', hrun, hg⟩ := storeA_ok (X := X) hw hK hcr p1 p2 p3 p4
        refine write_skip (s := Instr.storeAt t (r x) (r y)) rfl ?_ hg
        rw [hea]
        unfold Instr.storeAt storeVar
        have hsz : (r y).cells.size = s := by have := hcr.1; simp at this hlen; omega
        simp [sure_ok, run_size ok hs, hsz, hrun]
    · cases h
  | mapUpdate t m k x => exact mu t m k x _ (.inl rfl) h
  | insert t m k x => exact mu t m k x _ (.inr rfl) h
  | range t x =>
    simp only [evWrite] at h
    have fin : ∀ (ob : AObj) (o' : Obj), (Instr.range t (r x)).run X.P w = .ok (.pointer (some ⟨w.heap.size, 0, none⟩)) { w with heap := w.heap.push o' } →
        ORel (ρ.add n (newLoc w)) (newLoc w) ob o' → WriteSaid X ρ H w ⟨dst, .range t x, ty, pos, after, guard⟩ r n (.pointer (some ⟨n, 0, none⟩)) (H.set n ob) := by
      intro ob o' hrun hrel
      exact write_of (s := Instr.range t (r x)) rfl hrun ptr_new (Goes.alloc hw hn rfl hrel) (fun m hm => Rn.add_ne hm)
    split at h
    · rename_i s hu hx
      cases h
      have hx' := (hr x _ hx).unstr
      exact fin _ (.stringIter s 0) (by rw [hx']; unfold Instr.range; simp [run_under ok hu]) ⟨rfl, rfl, rfl⟩
    · rename_i kt el hu hx
      cases h
      have hxr := hr x _ hx
      generalize hrx : r x = y at hxr
      cases hxr with
      | mapNil =>
      exact fin _ (.mapIter none 0 #[] 0) (by rw [hrx]; unfold Instr.range; simp [run_under ok hu]) ⟨rfl, rfl, rfl, rfl, trivial⟩
    · rename_i kt el m hu hx
      have hxr := hr x _ hx
      generalize hrx : r x = y at hxr
      cases hxr with
      | @map _ L hL =>
      split at h
      · rename_i es clock hH
        cases h
        obtain ⟨K, o', hK, hko, hrel⟩ := hw.obj m _ hH
        rw [hL] at hK; cases hK
        obtain ⟨es', rfl, he⟩ := hrel.mapInv
        exact fin _ (.mapIter (some L.block) clock #[] clock) (by rw [hrx]; unfold Instr.range; simp [run_under ok hu, getObj_run hko rfl])
          ⟨rfl, rfl, rfl, rfl, L, Rn.ext_add hn _ _ hL, rfl⟩
      · cases h
    · cases h
  | next x isS =>
    simp only [evWrite] at h
    split at h
    · rename_i rr sp hx
      obtain ⟨v', w', hrun, hv, hg⟩ := next_ok ok (x := x) (ty := ty) hw (hr x _ hx) h
      exact write_of (s := Instr.next (r x) isS ty) rfl hrun hv hg (fun _ _ => rfl)
    · cases h
  | call c =>
    simp only [evWrite] at h
    obtain ⟨callee, args, argTypes⟩ := c
    have bi : ∀ (b : Builtin) (s : Sem Value), callee = .builtin b → (∀ cs, builtin b argTypes ty cs (args.map r) = (do pure (.value (← s)))) →
        execOp r ⟨dst, .call ⟨callee, args, argTypes⟩, ty, pos, after, guard⟩ = (do pure (.value (← s))) := by
      intro b s hcal hbi
      subst hcal
      unfold execOp resolve
      simp [invoke, hbi]
    split at h
    · rename_i t u s x hcal hty hargs
      have hl := evL_ok hr args.toList _ hargs
      obtain ⟨s', m1, hxm, hs, hm⟩ := hl.uncons
      obtain ⟨x', m2, hxm2, hx, hm2⟩ := hm.uncons
      have := hm2.unnil
      subst this
      subst hxm2
      have ha : args.map r = #[s', x'] := by apply Array.ext'; simpa using hxm
      have ht0 : argTypes[0]? = some t := by rw [← Array.getElem?_toList, hty]; rfl
      have ht1 : argTypes[1]? = some u := by rw [← Array.getElem?_toList, hty]; rfl
      split at h
      · rename_i el du hu hdu
        split at h
        · rename_i size bytes z hsz hby hz
          cases hni : isIntD du with
          | true => rw [hni, cond_true] at h; cases h
          | false =>
            rw [hni, cond_false] at h
            obtain ⟨ρ', v', w', hrun, hv, hg, hne⟩ := appendA_ok ok (ty := ty) hw ht0 ht1 hu hdu hni hsz hby hz hn hs hx h
            exact write_of (bi .append (Builtin.append_ argTypes ty (args.map r)) hcal (fun _ => rfl)) (by rw [ha]; exact hrun) hv hg hne
        · cases h
      · cases h
    · rename_i t rest base dl dc src hcal hty hargs
      have hl := evL_ok hr args.toList _ hargs
      obtain ⟨d', m1, hxm, hd, hm⟩ := hl.uncons
      obtain ⟨s', m2, hxm2, hs, hm2⟩ := hm.uncons
      have := hm2.unnil
      subst this
      subst hxm2
      have ha : args.map r = #[d', s'] := by apply Array.ext'; simpa using hxm
      have ht0 : argTypes[0]? = some t := by rw [← Array.getElem?_toList, hty]; rfl
      split at h
      · rename_i el k hu hk
        split at h
        · rename_i size hsz
          split at h
          · rename_i cells hcells
            obtain ⟨l', hrl, hll⟩ := firstA_run (X := X) hw hcells hk (Nat.min_le_left _ _) hs
            have hlen := lenOf_ok (X := X) hk hs w
            cases base with
            | none =>
              simp only at h; cases h
              cases hd with
              | sliceNil _ _ =>
              refine write_of (bi .copy (Builtin.copy_ argTypes ty (args.map r)) hcal (fun _ => rfl)) (v' := goInt (Nat.min k dl : Nat)) (w' := w) ?_ (.int _ _) (.refl hw) (fun _ _ => rfl)
              rw [ha]
              unfold Builtin.copy_
              simp only [ht0]
              simp only [List.getElem?_toArray, List.getElem?_cons_zero, List.getElem?_cons_succ, Sem.run_bind, run_under ok hu, run_size ok hsz, Result.andThen_ok, hlen, hrl, Sem.run_pure]
            | some a =>
              simp only [Option.map_eq_some_iff] at h
              obtain ⟨K, hK, he⟩ := h
              cases he
              cases hd with
              | @slice _ a' _ _ cap' L p1 p2 p3 p3' p4 =>
              have hstore : ∃ w', (storeCells a' l'.toArray.toList).run X.P w = .ok () w' ∧ Goes ρ H w ρ H' w' := by
                by_cases hc0 : 0 < dc + dl
                · have ho : a'.off = a.off + L.shift := by
                    unfold SlRel at p4
                    split at p4
                    · exact p4.1
                    · exact p4.2.2 hc0
                  exact storeA_ok hw hK (vs' := l') hll p1 p2 ho (p3'.trans p3.symm)
                · have hdl : dl = 0 := by omega
                  subst hdl
                  have hne : cells = [] := by
                    have hmin : Nat.min k 0 = 0 := Nat.min_zero _
                    rw [hmin] at hcells
                    unfold firstA at hcells
                    split at hcells
                    · unfold cellsAt at hcells
                      split at hcells
                      · obtain ⟨_, rfl⟩ := cut_ok hcells; simp
                      · cases hcells
                    · cases hcells; rfl
                    · cases hcells; simp
                    · cases hcells
                  subst hne
                  have hne' := hll.unnil
                  subst hne'
                  exact ⟨w, by simp [storeCells], storeA_nil hw hK⟩
              obtain ⟨w', hst, hg⟩ := hstore
              refine write_of (bi .copy (Builtin.copy_ argTypes ty (args.map r)) hcal (fun _ => rfl)) (v' := goInt (Nat.min k dl : Nat)) (w' := w') ?_ (.int _ _) hg (fun _ _ => rfl)
              rw [ha]
              unfold Builtin.copy_
              simp only [ht0]
              simp only [List.getElem?_toArray, List.getElem?_cons_zero, List.getElem?_cons_succ, Sem.run_bind, run_under ok hu, run_size ok hsz, Result.andThen_ok, hlen, hrl, hst, Sem.run_pure]
          · cases h
        · cases h
      · cases h
    · rename_i t rest m k hcal hty hargs
      have hl := evL_ok hr args.toList _ hargs
      obtain ⟨m', m1, hxm, hmm, hm⟩ := hl.uncons
      obtain ⟨k', m2, hxm2, hk, hm2⟩ := hm.uncons
      have := hm2.unnil
      subst this
      subst hxm2
      have ha : args.map r = #[m', k'] := by apply Array.ext'; simpa using hxm
      have ht0 : argTypes[0]? = some t := by rw [← Array.getElem?_toList, hty]; rfl
      cases hmm with
      | @map _ L hL =>
      split at h
      · rename_i kt el es clock hu hH
        obtain ⟨K, o', hK, hko, hrel⟩ := hw.obj m _ hH
        rw [hL] at hK; cases hK
        obtain ⟨es', rfl, he⟩ := hrel.mapInv
        have hgo := getObj_run (P := X.P) hko rfl
        split at h
        · rename_i i u hlk
          cases h
          obtain ⟨hkk, q1, q2, r', hr', hrel'⟩ := look_ok ok hk he hlk w
          cases r' with
          | none => cases hrel'
          | some q =>
            obtain ⟨j, u'⟩ := q
            obtain ⟨rfl, _⟩ := hrel'
            refine write_of (bi .delete (Builtin.delete_ argTypes ty (args.map r)) hcal (fun _ => rfl)) (v' := .tuple #[]) (w' := { w with heap := w.heap.setIfInBounds L.block (.map (es'.eraseIdxIfInBounds j) clock) }) ?_
              (.tupA ⟨rfl, fun i x y h => by simp at h⟩) (Goes.update hw hH hL rfl rfl rfl (orel_map ?_)) (fun _ _ => rfl)
            · rw [ha, hkk]
              rw [hkk] at hr'
              unfold Builtin.delete_
              simp only [ht0]
              simp only [List.getElem?_toArray, List.getElem?_cons_zero, List.getElem?_cons_succ, Sem.run_bind, run_under ok hu, Result.andThen_ok, hgo, checkKey_ok ok q1 q2, hr', setObj_run hko rfl, Sem.run_pure]
            · rw [dropAt_eq]
              have hlen := he.1
              rw [Array.toList_eraseIdxIfInBounds]
              refine ⟨by rw [List.length_eraseIdx, List.length_eraseIdx, hlen], fun a x y hx hy => ?_⟩
              rw [List.getElem?_eraseIdx] at hx hy
              split at hx
              · rename_i hlt; rw [if_pos hlt] at hy; exact he.2 a x y hx hy
              · rename_i hlt; rw [if_neg hlt] at hy; exact he.2 _ x y hx hy
        · rename_i hlk
          cases h
          obtain ⟨hkk, q1, q2, r', hr', hrel'⟩ := look_ok ok hk he hlk w
          cases r' with
          | some q => cases hrel'
          | none =>
            refine write_of (bi .delete (Builtin.delete_ argTypes ty (args.map r)) hcal (fun _ => rfl)) (v' := .tuple #[]) (w' := w) ?_
              (.tupA ⟨rfl, fun i x y h => by simp at h⟩) (.refl hw) (fun _ _ => rfl)
            rw [ha, hkk]
            rw [hkk] at hr'
            unfold Builtin.delete_
            simp only [ht0]
            have hset : (setObj L.block (.map es' clock)).run X.P w = .ok () w := by
              rw [setObj_run hko rfl, set_same hko]
            simp only [List.getElem?_toArray, List.getElem?_cons_zero, List.getElem?_cons_succ, Sem.run_bind, run_under ok hu, Result.andThen_ok, hgo, checkKey_ok ok q1 q2, hr', hset, Sem.run_pure]
        · cases h
      · cases h
    · rename_i t rest m hcal hty hargs
      have hl := evL_ok hr args.toList _ hargs
      obtain ⟨m', m1, hxm, hmm, hm⟩ := hl.uncons
      have := hm.unnil
      subst this
      have ha : args.map r = #[m'] := by apply Array.ext'; simpa using hxm
      have ht0 : argTypes[0]? = some t := by rw [← Array.getElem?_toList, hty]; rfl
      cases hmm with
      | @map _ L hL =>
      split at h
      · rename_i kt el es clock hu hH
        cases h
        obtain ⟨K, o', hK, hko, hrel⟩ := hw.obj m _ hH
        rw [hL] at hK; cases hK
        obtain ⟨es', rfl, he⟩ := hrel.mapInv
        refine write_of (bi .clear (Builtin.clear_ argTypes ty (args.map r)) hcal (fun _ => rfl)) (v' := .tuple #[]) (w' := { w with heap := w.heap.setIfInBounds L.block (.map #[] clock) }) ?_
          (.tupA ⟨rfl, fun i x y h => by simp at h⟩) (Goes.update hw hH hL rfl rfl rfl (orel_map ⟨rfl, fun i x y h => by simp at h⟩)) (fun _ _ => rfl)
        rw [ha]
        unfold Builtin.clear_
        simp only [ht0]
        simp only [List.getElem?_toArray, List.getElem?_cons_zero, List.getElem?_cons_succ, Sem.run_bind, run_under ok hu, Result.andThen_ok, getObj_run hko rfl, setObj_run hko rfl, Sem.run_pure]
      · cases h
    · cases h
  | _ => simp [evWrite] at h

end
end Go.Ev
