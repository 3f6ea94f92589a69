/- Maps: entries with their places for births. -/
import Derived.Test.YtmoplhbncjicbaaAoT
set_option linter.unusedSimpArgs false
set_option linter.unusedVariables false
namespace Go.Am
open Go
variable {E : Env} {h : Hp} {n : Nat}
/-- Entries that were born one after the other, from a number on. -/
def ents (b : Nat) : List (AVal × AVal) → List Ent
  | [] => []
  | e :: es => (e.1, e.2, b) :: ents (b + 1) es
theorem ents_len : ∀ (l : List (AVal × AVal)) (b : Nat), (ents b l).length = l.length
  | [], _ => rfl
  | _ :: l, b => by simp [ents, ents_len l]
theorem ents_get : ∀ (l : List (AVal × AVal)) (b i : Nat), (ents b l)[i]? = l[i]?.map fun e => (e.1, e.2, b + i)
  | [], _, _ => by simp [ents]
  | e :: l, b, 0 => by simp [ents]
  | e :: l, b, i + 1 => by
    simp only [ents, List.getElem?_cons_succ, ents_get l (b + 1) i]
    congr 1
    funext e
    rw [show b + 1 + i = b + (i + 1) by omega]
theorem ents_app : ∀ (l m : List (AVal × AVal)) (b : Nat), ents b (l ++ m) = ents b l ++ ents (b + l.length) m
  | [], m, b => by simp [ents]
  | e :: l, m, b => by simp only [List.cons_append, ents, ents_app l m (b + 1), List.length_cons]; rw [show b + 1 + l.length = b + (l.length + 1) by omega]
theorem born_at : ∀ (l : List (AVal × AVal)) (b i j : Nat), i < l.length → bornAt ((b + i : Nat) : Int) (ents b l) j = some (j + i)
  | [], _, i, _, h => by simp at h
  | e :: l, b, 0, j, _ => by simp [ents, bornAt]
  | e :: l, b, i + 1, j, h => by
    have : ((b : Int) == ((b + (i + 1) : Nat) : Int)) = false := by
      rw [beq_eq_false_iff_ne]; omega
    simp only [ents, bornAt, this]
    have := born_at l (b + 1) i (j + 1) (by simpa using h)
    rw [show b + (i + 1) = b + 1 + i by omega, this]
    congr 1; omega
theorem ents_set : ∀ (l : List (AVal × AVal)) (b i : Nat) (v : AVal), setVal (ents b l) i v = ents b (l.modify i fun e => (e.1, v))
  | [], _, i, _ => by cases i <;> rfl
  | e :: l, b, 0, v => by simp [ents, setVal]
  | e :: l, b, i + 1, v => by
    have := ents_set l (b + 1) i v
    simp only [setVal] at this
    simp only [ents, setVal, List.modify_succ_cons, this]
/-- The first entry of a key. -/
def at_key (p : AVal → Bool) : List (AVal × AVal) → Nat → Option (Nat × AVal)
  | [], _ => none
  | e :: es, i => if p e.1 then some (i, e.2) else at_key p es (i + 1)
theorem find_ents {kt : TypeId} {k : AVal} {p : AVal → Bool} : ∀ (l : List (AVal × AVal)) (b i : Nat), (∀ e ∈ l, equalTop E kt k e.1 = M.pure (p e.1)) → findA E kt k (ents b l) i = M.pure (at_key p l i)
  | [], _, _, _ => rfl
  | e :: l, b, i, h => by
    simp only [ents, findA, h e (List.mem_cons_self ..), bind_pure, at_key]
    cases p e.1 with
    | true => simp
    | false => simp only [Bool.false_eq_true, if_false]; exact find_ents l (b + 1) (i + 1) fun e he => h e (List.mem_cons_of_mem _ he)
theorem at_key_inv {p : AVal → Bool} : ∀ {l : List (AVal × AVal)} {i j : Nat} {v : AVal}, at_key p l i = some (j, v) → ∃ q k, j = i + q ∧ l[q]? = some (k, v) ∧ p k = true
  | [], _, _, _, h => by simp [at_key] at h
  | e :: l, i, j, v, h => by
    simp only [at_key] at h
    split at h
    · rename_i c
      injection h with h; injection h with h1 h2
      subst h1; subst h2
      exact ⟨0, e.1, rfl, rfl, c⟩
    · obtain ⟨q, k, h1, h2, h3⟩ := at_key_inv h
      exact ⟨q + 1, k, by omega, h2, h3⟩
section
variable {t kt et : TypeId} {k : AVal} {p : AVal → Bool} {id b ck : Nat} {l : List (AVal × AVal)}
/-- A map in memory. -/
def MapAt (h : Hp) (id b : Nat) (l : List (AVal × AVal)) : Prop := h id = some (.map (ents b l) (b + l.length))
theorem MapAt.keep {h' : Hp} (m : MapAt h id b l) (hk : h' id = h id) : MapAt h' id b l := hk.trans m
theorem MapAt.lookup (m : MapAt h id b l) (ht : und E t = M.pure (.map kt et)) (hk : keyB E 100 kt k = M.pure ()) (hp : ∀ e ∈ l, equalTop E kt k e.1 = M.pure (p e.1)) {z : AVal} (hz : zeroOf E et = M.pure z) :
    Rd (lookupM E t (.map id) k false) h n [id] (((at_key p l 0).map (·.2)).getD z) := by
  simp only [lookupM, ht, bind_pure, entsOf, bind_assoc]
  have : Rd ((getB id).bind fun a => (mapK (fun es _ => M.pure es) a).bind fun es => (keyB E 100 kt k).bind fun _ => (findA E kt k es 0).bind fun r => match r with
      | some p => M.pure (okV false p.2 true)
      | none => (zeroOf E et).bind fun z => M.pure (okV false z false)) h n ([] ++ [id]) (((at_key p l 0).map (·.2)).getD z) := by
    refine Rd.bind (Rd.get m) ?_
    simp only [mapK, bind_pure, hk, find_ents l b 0 hp]
    cases at_key p l 0 with
    | none => simp only [hz, bind_pure]; exact Rd.pure _
    | some x => exact Rd.pure _
  exact this
theorem MapAt.entry_old (m : MapAt h id b l) (ht : und E t = M.pure (.map kt et)) (hk : keyB E 100 kt k = M.pure ()) (hp : ∀ e ∈ l, equalTop E kt k e.1 = M.pure (p e.1)) {i : Nat} {v : AVal} (ha : at_key p l 0 = some (i, v)) (hs : ∀ e, l[i]? = some e → sameKey e.1 k = true) :
    Wr (mapEntryM E t (.map id) k) h n [id] [id] (AVal.tup [v, .int .i64 ((b + i : Nat) : Int)]) h := by
  have hu : Go.Am.upd h id (some (.map (ents b l) (b + l.length))) = h := upd_self m
  obtain ⟨q, kk, e1, e2, e3⟩ := at_key_inv ha
  rw [Nat.zero_add] at e1
  subst e1
  have key : Wr ((getB id).bind (mapK fun es ck => (keyB E 100 kt k).bind fun _ => (findA E kt k es 0).bind fun r => match r with
        | some p => (getO "entry" es[p.1]?).bind fun e => match sameKey e.1 k with
          | true => (setB id (.map es ck)).bind fun _ => M.pure (AVal.tup [p.2, .int .i64 e.2.2])
          | false => fail "a key that is not the same bit by bit"
        | none => (zeroOf E et).bind fun z => (setB id (.map (es ++ [(k, z, ck)]) (ck + 1))).bind fun _ => M.pure (AVal.tup [z, .int .i64 ck]))) h n ([] ++ [id]) [id] (AVal.tup [v, .int .i64 ((b + i : Nat) : Int)]) (Go.Am.upd h id (some (.map (ents b l) (b + l.length)))) := by
    refine Wr.bind (Rd.get m) ?_
    simp only [mapK, hk, bind_pure, find_ents l b 0 hp, ha, ents_get, e2, Option.map_some, getO, hs _ e2]
    exact (Wr.set m).ret
  rw [hu] at key
  simp only [mapEntryM, ht, bind_pure]
  exact key
theorem MapAt.entry_new (m : MapAt h id b l) (ht : und E t = M.pure (.map kt et)) (hk : keyB E 100 kt k = M.pure ()) (hp : ∀ e ∈ l, equalTop E kt k e.1 = M.pure (p e.1)) (ha : at_key p l 0 = none) {z : AVal} (hz : zeroOf E et = M.pure z) :
    ∃ h2, Wr (mapEntryM E t (.map id) k) h n [id] [id] (AVal.tup [z, .int .i64 ((b + l.length : Nat) : Int)]) h2 ∧ MapAt h2 id b (l ++ [(k, z)]) ∧ ∀ j, j ≠ id → h2 j = h j := by
  refine ⟨Go.Am.upd h id (some (.map (ents b l ++ [(k, z, b + l.length)]) (b + l.length + 1))), ?_, ?_, fun j hj => upd_ne _ _ hj⟩
  · have key : Wr ((getB id).bind (mapK fun es ck => (keyB E 100 kt k).bind fun _ => (findA E kt k es 0).bind fun r => match r with
        | some p => (getO "entry" es[p.1]?).bind fun e => match sameKey e.1 k with
          | true => (setB id (.map es ck)).bind fun _ => M.pure (AVal.tup [p.2, .int .i64 e.2.2])
          | false => fail "a key that is not the same bit by bit"
        | none => (zeroOf E et).bind fun z => (setB id (.map (es ++ [(k, z, ck)]) (ck + 1))).bind fun _ => M.pure (AVal.tup [z, .int .i64 ck]))) h n ([] ++ [id]) [id] (AVal.tup [z, .int .i64 ((b + l.length : Nat) : Int)]) (Go.Am.upd h id (some (.map (ents b l ++ [(k, z, b + l.length)]) (b + l.length + 1)))) := by
      refine Wr.bind (Rd.get m) ?_
      simp only [mapK, hk, bind_pure, find_ents l b 0 hp, ha, hz]
      exact (Wr.set m).ret
    simp only [mapEntryM, ht, bind_pure]
    exact key
  · unfold MapAt
    rw [upd_same, ents_app, List.length_append]
    rfl
theorem MapAt.store (m : MapAt h id b l) {i : Nat} (hi : i < l.length) {v : AVal} :
    ∃ h2, Wr (entryStoreM (.map id) (.int .i64 ((b + i : Nat) : Int)) v) h n [id] [id] undef h2 ∧ MapAt h2 id b (l.modify i fun e => (e.1, v)) ∧ ∀ j, j ≠ id → h2 j = h j := by
  refine ⟨Go.Am.upd h id (some (.map (setVal (ents b l) i v) (b + l.length))), ?_, ?_, fun j hj => upd_ne _ _ hj⟩
  · show Wr _ h n ([] ++ [id]) [id] undef _
    simp only [entryStoreM]
    refine Wr.bind (Rd.get m) ?_
    simp only [mapK, intK, born_at l b i 0 hi, getO, bind_pure, Nat.zero_add]
    exact (Wr.set m).ret
  · unfold MapAt
    rw [upd_same, ents_set, List.length_modify]
theorem MapAt.clear (m : MapAt h id b l) {ts : List TypeId} {t0 : TypeId} (ht : und E t0 = M.pure (.map kt et)) : ∃ h2, Wr (bClear E (t0 :: ts) (.map id)) h n [id] [id] (AVal.tup []) h2 ∧ MapAt h2 id (b + l.length) [] ∧ ∀ j, j ≠ id → h2 j = h j := by
  refine ⟨Go.Am.upd h id (some (.map [] (b + l.length))), ?_, upd_same _ _ _, fun j hj => upd_ne _ _ hj⟩
  have : Wr ((getB id).bind (mapK fun _ ck => (setB id (.map [] ck)).bind fun _ => M.pure (AVal.tup []))) h n ([] ++ [id]) [id] (AVal.tup []) (Go.Am.upd h id (some (.map [] (b + l.length)))) := by
    refine Wr.bind (Rd.get m) ?_
    simp only [mapK]
    exact (Wr.set m).ret
  simp only [bClear, ht, bind_pure]
  exact this
end
end Go.Am
