/- The abstract machine. -/
import Derived.Test.YtlgebaofkolkoaaAoT
set_option linter.unusedSimpArgs false
set_option linter.unusedVariables false
namespace Go.Am
open Go
variable {E : Env} {h : Hp} {n : Nat}
def gS (b : Nat) : List (a9 × a9) → List Ent
  | [] => []
  | e :: es => (e.1, e.2, b) :: gS (b + 1) es
theorem rM : ∀ (l : List (a9 × a9)) (b : Nat), (gS b l).length = l.length
  | [], _ => rfl
  | _ :: l, b => by simp [gS, rM l]
theorem BC : ∀ (l : List (a9 × a9)) (b i : Nat), (gS b l)[i]? = l[i]?.map fun e => (e.1, e.2, b + i)
  | [], _, _ => by simp [gS]
  | e :: l, b, 0 => by simp [gS]
  | e :: l, b, i + 1 => by
    simp only [gS, List.getElem?_cons_succ, BC l (b + 1) i]
    congr 1
    funext e
    rw [show b + 1 + i = b + (i + 1) by omega]
theorem BD : ∀ (l m : List (a9 × a9)) (b : Nat), gS b (l ++ m) = gS b l ++ gS (b + l.length) m
  | [], m, b => by simp [gS]
  | e :: l, m, b => by simp only [List.cons_append, gS, BD l m (b + 1), List.length_cons]; rw [show b + 1 + l.length = b + (l.length + 1) by omega]
theorem EW : ∀ (l : List (a9 × a9)) (b i j : Nat), i < l.length → qG ((b + i : Nat) : Int) (gS b l) j = some (j + i)
  | [], _, i, _, h => by simp at h
  | e :: l, b, 0, j, _ => by simp [gS, qG]
  | e :: l, b, i + 1, j, h => by
    have : ((b : Int) == ((b + (i + 1) : Nat) : Int)) = false := by
      rw [beq_eq_false_iff_ne]; omega
    simp only [gS, qG, this]
    have := EW l (b + 1) i (j + 1) (by simpa using h)
    rw [show b + (i + 1) = b + 1 + i by omega, this]
    congr 1; omega
theorem BB : ∀ (l : List (a9 × a9)) (b i : Nat) (v : a9), pW (gS b l) i v = gS b (l.modify i fun e => (e.1, v))
  | [], _, i, _ => by cases i <;> rfl
  | e :: l, b, 0, v => by simp [gS, pW]
  | e :: l, b, i + 1, v => by
    have := BB l (b + 1) i v
    simp only [pW] at this
    simp only [gS, pW, List.modify_succ_cons, this]
def fC (p : a9 → Bool) : List (a9 × a9) → Nat → Option (Nat × a9)
  | [], _ => none
  | e :: es, i => if p e.1 then some (i, e.2) else fC p es (i + 1)
theorem p9 {kt : TypeId} {k : a9} {p : a9 → Bool} : ∀ (l : List (a9 × a9)) (b i : Nat), (∀ e ∈ l, bG E kt k e.1 = M.pure (p e.1)) → mL E kt k (gS b l) i = M.pure (fC p l i)
  | [], _, _, _ => rfl
  | e :: l, b, i, h => by
    simp only [gS, mL, h e (List.mem_cons_self ..), bind_pure, fC]
    cases p e.1 with
    | true => simp
    | false => simp only [Bool.false_eq_true, if_false]; exact p9 l (b + 1) (i + 1) fun e he => h e (List.mem_cons_of_mem _ he)
theorem wK {p : a9 → Bool} : ∀ {l : List (a9 × a9)} {i j : Nat} {v : a9}, fC p l i = some (j, v) → ∃ q k, j = i + q ∧ l[q]? = some (k, v) ∧ p k = true
  | [], _, _, _, h => by simp [fC] at h
  | e :: l, i, j, v, h => by
    simp only [fC] at h
    split at h
    · rename_i c
      injection h with h; injection h with h1 h2
      subst h1; subst h2
      exact ⟨0, e.1, rfl, rfl, c⟩
    · obtain ⟨q, k, h1, h2, h3⟩ := wK h
      exact ⟨q + 1, k, by omega, h2, h3⟩
section
variable {t kt et : TypeId} {k : a9} {p : a9 → Bool} {id b ck : Nat} {l : List (a9 × a9)}
def gH (h : Hp) (id b : Nat) (l : List (a9 × a9)) : Prop := h id = some (.map (gS b l) (b + l.length))
theorem gH.aT {h' : Hp} (m : gH h id b l) (hk : h' id = h id) : gH h' id b l := hk.trans m
theorem gH.lookup (m : gH h id b l) (ht : und E t = M.pure (.map kt et)) (hk : iP E 100 kt k = M.pure ()) (hp : ∀ e ∈ l, bG E kt k e.1 = M.pure (p e.1)) {z : a9} (hz : zeroOf E et = M.pure z) :
    Rd (iS E t (.map id) k false) h n [id] (((fC p l 0).map (·.2)).getD z) := by
  simp only [iS, ht, bind_pure, DD, bind_assoc]
  have : Rd ((fI id).bind fun a => (lX (fun es _ => M.pure es) a).bind fun es => (iP E 100 kt k).bind fun _ => (mL E kt k es 0).bind fun r => match r with
      | some p => M.pure (okV false p.2 true)
      | none => (zeroOf E et).bind fun z => M.pure (okV false z false)) h n ([] ++ [id]) (((fC p l 0).map (·.2)).getD z) := by
    refine Rd.bind (Rd.get m) ?_
    simp only [lX, bind_pure, hk, p9 l b 0 hp]
    cases fC p l 0 with
    | none => simp only [hz, bind_pure]; exact Rd.pure _
    | some x => exact Rd.pure _
  exact this
theorem gH.GM (m : gH h id b l) (ht : und E t = M.pure (.map kt et)) (hk : iP E 100 kt k = M.pure ()) (hp : ∀ e ∈ l, bG E kt k e.1 = M.pure (p e.1)) {i : Nat} {v : a9} (ha : fC p l 0 = some (i, v)) (hs : ∀ e, l[i]? = some e → sameKey e.1 k = true) :
    Wr (iK E t (.map id) k) h n [id] [id] (a9.tup [v, .int .i64 ((b + i : Nat) : Int)]) h := by
  have hu : Go.Am.upd h id (some (.map (gS b l) (b + l.length))) = h := kQ m
  obtain ⟨q, kk, e1, e2, e3⟩ := wK ha
  rw [Nat.zero_add] at e1
  subst e1
  have key : Wr ((fI id).bind (lX fun es ck => (iP E 100 kt k).bind fun _ => (mL E kt k es 0).bind fun r => match r with
        | some p => (aV "entry" es[p.1]?).bind fun e => match sameKey e.1 k with
          | true => (jF id (.map es ck)).bind fun _ => M.pure (a9.tup [p.2, .int .i64 e.2.2])
          | false => fail "a key that is not the same bit by bit"
        | none => (zeroOf E et).bind fun z => (jF id (.map (es ++ [(k, z, ck)]) (ck + 1))).bind fun _ => M.pure (a9.tup [z, .int .i64 ck]))) h n ([] ++ [id]) [id] (a9.tup [v, .int .i64 ((b + i : Nat) : Int)]) (Go.Am.upd h id (some (.map (gS b l) (b + l.length)))) := by
    refine Wr.bind (Rd.get m) ?_
    simp only [lX, hk, bind_pure, p9 l b 0 hp, ha, BC, e2, Option.map_some, aV, hs _ e2]
    exact (Wr.set m).ret
  rw [hu] at key
  simp only [iK, ht, bind_pure]
  exact key
theorem gH.GN (m : gH h id b l) (ht : und E t = M.pure (.map kt et)) (hk : iP E 100 kt k = M.pure ()) (hp : ∀ e ∈ l, bG E kt k e.1 = M.pure (p e.1)) (ha : fC p l 0 = none) {z : a9} (hz : zeroOf E et = M.pure z) :
    ∃ h2, Wr (iK E t (.map id) k) h n [id] [id] (a9.tup [z, .int .i64 ((b + l.length : Nat) : Int)]) h2 ∧ gH h2 id b (l ++ [(k, z)]) ∧ ∀ j, j ≠ id → h2 j = h j := by
  refine ⟨Go.Am.upd h id (some (.map (gS b l ++ [(k, z, b + l.length)]) (b + l.length + 1))), ?_, ?_, fun j hj => aR _ _ hj⟩
  · have key : Wr ((fI id).bind (lX fun es ck => (iP E 100 kt k).bind fun _ => (mL E kt k es 0).bind fun r => match r with
        | some p => (aV "entry" es[p.1]?).bind fun e => match sameKey e.1 k with
          | true => (jF id (.map es ck)).bind fun _ => M.pure (a9.tup [p.2, .int .i64 e.2.2])
          | false => fail "a key that is not the same bit by bit"
        | none => (zeroOf E et).bind fun z => (jF id (.map (es ++ [(k, z, ck)]) (ck + 1))).bind fun _ => M.pure (a9.tup [z, .int .i64 ck]))) h n ([] ++ [id]) [id] (a9.tup [z, .int .i64 ((b + l.length : Nat) : Int)]) (Go.Am.upd h id (some (.map (gS b l ++ [(k, z, b + l.length)]) (b + l.length + 1)))) := by
      refine Wr.bind (Rd.get m) ?_
      simp only [lX, hk, bind_pure, p9 l b 0 hp, ha, hz]
      exact (Wr.set m).ret
    simp only [iK, ht, bind_pure]
    exact key
  · unfold gH
    rw [aU, BD, List.length_append]
    rfl
theorem gH.store (m : gH h id b l) {i : Nat} (hi : i < l.length) {v : a9} :
    ∃ h2, Wr (gE (.map id) (.int .i64 ((b + i : Nat) : Int)) v) h n [id] [id] undef h2 ∧ gH h2 id b (l.modify i fun e => (e.1, v)) ∧ ∀ j, j ≠ id → h2 j = h j := by
  refine ⟨Go.Am.upd h id (some (.map (pW (gS b l) i v) (b + l.length))), ?_, ?_, fun j hj => aR _ _ hj⟩
  · show Wr _ h n ([] ++ [id]) [id] undef _
    simp only [gE]
    refine Wr.bind (Rd.get m) ?_
    simp only [lX, cP, EW l b i 0 hi, aV, bind_pure, Nat.zero_add]
    exact (Wr.set m).ret
  · unfold gH
    rw [aU, BB, List.length_modify]
theorem gH.clear (m : gH h id b l) {ts : List TypeId} {t0 : TypeId} (ht : und E t0 = M.pure (.map kt et)) : ∃ h2, Wr (oN E (t0 :: ts) (.map id)) h n [id] [id] (a9.tup []) h2 ∧ gH h2 id (b + l.length) [] ∧ ∀ j, j ≠ id → h2 j = h j := by
  refine ⟨Go.Am.upd h id (some (.map [] (b + l.length))), ?_, aU _ _ _, fun j hj => aR _ _ hj⟩
  have : Wr ((fI id).bind (lX fun _ ck => (jF id (.map [] ck)).bind fun _ => M.pure (a9.tup []))) h n ([] ++ [id]) [id] (a9.tup []) (Go.Am.upd h id (some (.map [] (b + l.length)))) := by
    refine Wr.bind (Rd.get m) ?_
    simp only [lX]
    exact (Wr.set m).ret
  simp only [oN, ht, bind_pure]
  exact this
end
end Go.Am
