import Derived.Test.YtkfkfpgnapncaaaGreatDoorSlI
/-! Slices: rows of elements, each of so many cells; what lies behind the length is spare. -/
namespace Go.SL
open Go Go.RowKit
variable {ro : Option Nat} {P : Program} {T : TT} {ops : Array Oper} {Q : Exit → Act → World → Prop} {w z : World} {ss : List HL} {nt : Nat} {ds : List Deferred} {env env' : Env} {Kp : Env → World → Prop} {k : Nat}

theorem drop_mid {α : Type} (A M B : List α) (off n : Nat) (h : off + n ≤ M.length) : ((A ++ (M ++ B)).drop (A.length + off)).take n = (M.drop off).take n := by
  rw [List.drop_append, List.drop_eq_nil_of_le (by omega), List.nil_append, show A.length + off - A.length = off by omega, List.drop_append_of_le_length (by omega),
    List.take_append_of_le_length (by rw [List.length_drop]; omega)]

theorem ldP_mid {t : TypeId} {A M B : List Value} {off : Nat} {v : Value} (h : ldP T t M.toArray off = some v) : ldP T t (A ++ (M ++ B)).toArray (A.length + off) = some v := by
  unfold ldP at h ⊢
  cases ht : T t with
  | none => simp [ht] at h
  | some e =>
    simp only [ht] at h ⊢
    cases ha : aggD e.d with
    | true =>
      simp only [ha] at h ⊢
      by_cases hle : off + e.size ≤ M.length
      · have h1 : off + e.size ≤ M.toArray.size := by simpa using hle
        have h2 : A.length + off + e.size ≤ (A ++ (M ++ B)).toArray.size := by simp; omega
        simp only [h1, decide_true, Option.some.injEq] at h
        simp only [h2, decide_true, Option.some.injEq]
        rw [← h]
        congr 1
        apply Array.ext'
        simp only [List.extract_toArray, List.extract_eq_take_drop]
        rw [show A.length + off + e.size - (A.length + off) = e.size by omega, show off + e.size - off = e.size by omega, drop_mid A M B off e.size hle]
      · have h1 : ¬ off + e.size ≤ M.toArray.size := by simpa using hle
        simp [hle] at h
    | false =>
      simp only [ha] at h ⊢
      have hlt : off < M.length := by
        have := (Array.getElem?_eq_some_iff.1 h).1
        simpa using this
      simp only [List.getElem?_toArray] at h ⊢
      rw [List.getElem?_append_right (by omega), show A.length + off - A.length = off by omega, List.getElem?_append_left hlt]
      exact h

theorem stP_mid {t : TypeId} {A M B : List Value} {off : Nat} {v : Value} {M' : Array Value} (h : stP T t M.toArray off v = some M') :
    stP T t (A ++ (M ++ B)).toArray (A.length + off) v = some (A ++ (M'.toList ++ B)).toArray := by
  unfold stP at h ⊢
  cases ht : T t with
  | none => simp [ht] at h
  | some e =>
    simp only [ht] at h ⊢
    by_cases h1 : v.cells.size = e.size
    · simp only [h1, decide_true] at h ⊢
      by_cases h2 : off + e.size ≤ M.length
      · have h3 : off + e.size ≤ M.toArray.size := by simpa using h2
        have h4 : A.length + off + e.size ≤ (A ++ (M ++ B)).toArray.size := by simp; omega
        simp only [h3, decide_true] at h
        simp only [h4, decide_true]
        cases h5 : v.cells.toList.all one with
        | false => simp [h5] at h
        | true =>
          simp only [h5, Option.some.injEq] at h ⊢
          subst h
          congr 1
          simp only [List.append_assoc]
          rw [List.take_append, List.take_of_length_le (by omega), show A.length + off - A.length = off by omega, List.take_append_of_le_length (by omega),
            List.drop_append, List.drop_eq_nil_of_le (by omega), List.nil_append, show A.length + off + e.size - A.length = off + e.size by omega, List.drop_append_of_le_length (by omega)]
          simp [List.append_assoc]
      · have h3 : ¬ off + e.size ≤ M.toArray.size := by simpa using h2
        simp [h2] at h
    · simp [h1] at h

/-! ### Rows -/
variable {α : Type} {enc : α → List Value} {size : Nat}
def rows (enc : α → List Value) (l : List α) (sp : List Value) : Array Value := (l.flatMap enc ++ sp).toArray

/-- How many cells. -/
theorem flat_len (hz : ∀ x, (enc x).length = size) (l : List α) : (l.flatMap enc).length = l.length * size := by
  induction l with
  | nil => simp
  | cons x l ih => simp [List.flatMap_cons, hz, ih, Nat.add_mul, Nat.add_comm]

theorem rows_split (l : List α) (sp : List Value) (i : Nat) {x : α} (hx : l[i]? = some x) :
    rows enc l sp = ((l.take i).flatMap enc ++ (enc x ++ ((l.drop (i + 1)).flatMap enc ++ sp))).toArray := by
  obtain ⟨hi, rfl⟩ := List.getElem?_eq_some_iff.1 hx
  unfold rows
  have e : l.flatMap enc = (l.take i ++ l[i] :: l.drop (i + 1)).flatMap enc := by rw [← List.drop_eq_getElem_cons hi, List.take_append_drop]
  rw [e, List.flatMap_append, List.flatMap_cons]
  simp only [List.append_assoc]

theorem ldP_rows (hz : ∀ x, (enc x).length = size) {t : TypeId} {l : List α} {sp : List Value} {i off : Nat} {v : Value} {x : α} (hx : l[i]? = some x) (h : ldP T t (enc x).toArray off = some v) :
    ldP T t (rows enc l sp) (i * size + off) = some v := by
  have hi := (List.getElem?_eq_some_iff.1 hx).1
  rw [rows_split l sp i hx]
  have hl : ((l.take i).flatMap enc).length = i * size := by rw [flat_len hz, List.length_take, Nat.min_eq_left (by omega)]
  rw [← hl]
  exact ldP_mid h

theorem stP_rows (hz : ∀ x, (enc x).length = size) {t : TypeId} {l : List α} {sp : List Value} {i off : Nat} {v : Value} {x y : α} (hx : l[i]? = some x) (h : stP T t (enc x).toArray off v = some (enc y).toArray) :
    stP T t (rows enc l sp) (i * size + off) v = some (rows enc (l.set i y) sp) := by
  have hi := (List.getElem?_eq_some_iff.1 hx).1
  have hy : (l.set i y)[i]? = some y := by simp [hi]
  rw [rows_split l sp i hx, rows_split (l.set i y) sp i hy]
  have hl : ((l.take i).flatMap enc).length = i * size := by rw [flat_len hz, List.length_take, Nat.min_eq_left (by omega)]
  rw [← hl, stP_mid h]
  congr 3
  · rw [List.take_set_of_le (Nat.le_refl _)]
  · simp [List.drop_set_of_lt]

/-- A slice's value and its row: 'p' where it begins, 'c' its capacity, 's' the block. -/
inductive Sl (et : TypeId) (size : Nat) (enc : α → List Value) : Option Addr → Nat → List α → HL → Prop
  | nil : Sl et size enc none 0 [] []
  | row (b : Nat) (sp : List Value) (c : Nat) (l : List α) (hc : l.length ≤ c) (hs : (c - l.length) * size ≤ sp.length) : Sl et size enc (some ⟨b, 0, none⟩) c l [(b, .cells (rows enc l sp) et (0, 0))]

theorem Sl.at {et : TypeId} {p : Option Addr} {c : Nat} {l : List α} {s : HL} (h : Sl et size enc p c l s) (hl : 0 < l.length) :
    ∃ b sp, p = some ⟨b, 0, none⟩ ∧ s = [(b, .cells (rows enc l sp) et (0, 0))] ∧ l.length ≤ c ∧ (c - l.length) * size ≤ sp.length := by
  cases h with
  | nil => simp at hl
  | row b sp c l hc hs => exact ⟨b, sp, rfl, rfl, hc, hs⟩

theorem Sl.some {et : TypeId} {b o : Nat} {sp' : Option Nat} {c : Nat} {l : List α} {s : HL} (h : Sl et size enc (some ⟨b, o, sp'⟩) c l s) :
    ∃ sp, s = [(b, .cells (rows enc l sp) et (0, 0))] ∧ l.length ≤ c ∧ (c - l.length) * size ≤ sp.length ∧ o = 0 ∧ sp' = none := by
  cases h with
  | row b sp c l hc hs => exact ⟨sp, rfl, hc, hs, rfl, rfl⟩

/-- &x[i] of a slice. -/
theorem O_idx (hT : TOK P T) (j : Nat) {n c : Nat} {o : Oper} {d : Nat} {t el : TypeId} {e g : TE} {x ix : Operand} {b off : Nat} {kk : IntKind} {i : Int} (hi : i = (j : Int)) (hj : j < n)
    (h : Kp ((d, .pointer (some ⟨b, off + j * g.size, none⟩)) :: env) w)
    (ho : ops[k]? = some o := by rfl) (hop : o.op = .indexAddr t x ix := by rfl) (hd : o.dst = some d := by rfl) (hlt : Nat.blt d nt = true := by rfl) (hw : wantE ops nt env o = some true := by as_aux_lemma => kernel_rfl)
    (hx : evO env x = some (.slice (some ⟨b, off, none⟩) n c) := by rfl) (hix : evO env ix = some (.int kk i) := by rfl)
    (ht : T t = some e := by rfl) (hde : e.d = .slice el := by rfl) (hg : T el = some g := by rfl) : OE ro P ops Q k nt ds env w Kp := by
  refine O_val ho hd hlt hw (fun a hf => ?_) h
  obtain ⟨dst, op, type, pos, after, guard⟩ := o
  simp only at hop
  subst hop
  have hu := run_und hT ht w
  rw [hde] at hu
  subst hi
  simp [execOp, Instr.indexAt, hf.ev hx, hf.ev hix, asIntOf, hu, run_size hT hg, hj, Addr.add_mid]
/-- &a[i] of an array behind a pointer. -/
theorem O_idxA (hT : TOK P T) (j : Nat) {n : Nat} {o : Oper} {d : Nat} {t el : TypeId} {e g : TE} {x ix : Operand} {b off : Nat} {kk : IntKind} {i : Int} (hi : i = (j : Int)) (hj : j < n)
    (h : Kp ((d, .pointer (some ⟨b, off + j * g.size, none⟩)) :: env) w)
    (ho : ops[k]? = some o := by rfl) (hop : o.op = .indexAddr t x ix := by rfl) (hd : o.dst = some d := by rfl) (hlt : Nat.blt d nt = true := by rfl) (hw : wantE ops nt env o = some true := by as_aux_lemma => kernel_rfl)
    (hx : evO env x = some (.pointer (some ⟨b, off, none⟩)) := by rfl) (hix : evO env ix = some (.int kk i) := by rfl)
    (ht : T t = some e := by rfl) (hde : e.d = .array n el := by rfl) (hg : T el = some g := by rfl) : OE ro P ops Q k nt ds env w Kp := by
  refine O_val ho hd hlt hw (fun a hf => ?_) h
  obtain ⟨dst, op, type, pos, after, guard⟩ := o
  simp only at hop
  subst hop
  have hu := run_und hT ht w
  rw [hde] at hu
  subst hi
  simp [execOp, Instr.indexAt, hf.ev hx, hf.ev hix, asIntOf, hu, run_size hT hg, hj, Addr.add_mid, Instr.sureAddr]
end Go.SL
