/- Operations that are read, from an argument or from memory. -/
-- env OpsEnv
import Derived.Test.YtfebaeelmnchiaaOpsI
import Derived.Test.YtfebaeelmnchiaaAoK
set_option linter.unusedSimpArgs false
set_option linter.unusedVariables false
set_option linter.defProp false
set_option maxRecDepth 10000
namespace Go.Am.Ytfebaeelmnchiaa
open Go Go.Am Go.Proofs
/-- The j-th of some operations, as it is read. -/
structure OpAt (N : Nat) (h : Hp) (n : Nat) (v : AVal) (j : Nat) (c : UInt8) (l : List UInt8) (p p0 p1 d : AVal) (ids : List Nat) : Prop where
  ix : ∀ h' n', Rd (indexAddr env 22 v (.int .i64 (j : Nat))) h' n' [] p
  m0 : moved 0 p = M.pure p0
  m1 : moved 1 p = M.pure p1
  code : Rd (load env 5 p0) h n ids (u8 c)
  data : Rd (load env 23 p1) h n ids d
  both : Rd (load env 32 p) h n ids (.agg [u8 c, d])
  bytes : Bytes h d l
  below : Below0 N d
  room : Roomy d
structure OpsR (N : Nat) (h : Hp) (n : Nat) (v : AVal) (os : List OpD) : Prop where
  len : ∀ ts, bLen env (22 :: ts) v = M.pure (.int .i64 (os.length : Nat))
  at_ : ∀ j (hj : j < os.length), ∃ p p0 p1 d ids, OpAt N h n v j os[j].1 os[j].2 p p0 p1 d ids
theorem roomyM {d : AVal} (hr : RoomyM d) : Roomy d := by cases d <;> first | exact hr | trivial
theorem OpsV.r {h : Hp} {n : Nat} {X : Nat → Prop} {v : AVal} {os : List OpD} (hv : OpsV h n X v os) (n' : Nat) : OpsR n h n' v os where
  len := fun ts => hv.bLen
  at_ := fun j hj => by
    obtain ⟨id, d, e, cs, a1, a2, a3, a4, a5, a6, a7, a8, a9⟩ := hv.at hj
    exact ⟨_, _, _, d, [id], a9, rfl, rfl, cell_rd a2 a3 ti5 rfl, cell_rd a2 a4 ti23 rfl, pair_rd a2 a3 a4, a5, a6, roomyM a7⟩
/-- An argument of operations. -/
inductive ArgOps : AVal → List OpD → Prop
  | nils : ArgOps .nils []
  | isl (f : Nat → AVal) (os : List OpD) (hl : os.length ≤ maxLen) (hc : ∀ j (hj : j < os.length), f (j * 2) = u8 os[j].1 ∧ ArgBytes (f (j * 2 + 1)) os[j].2 ∧ os[j].2.length ≤ maxLen) : ArgOps (.isl f 2 0 os.length) os
theorem argB_id {v : AVal} {l : List UInt8} (hv : ArgBytes v l) : ownId v = none := by
  cases hi : ownId v with
  | none => rfl
  | some j => exact absurd (below_own (hv.below 0) hi) (Nat.not_lt_zero j)
theorem argB_roomy {v : AVal} {l : List UInt8} (hv : ArgBytes v l) : Roomy v := by
  have := argB_id hv
  cases v <;> first | trivial | cases this
theorem ArgOps.r {v : AVal} {os : List OpD} (hv : ArgOps v os) (N : Nat) (h : Hp) (n : Nat) : OpsR N h n v os := by
  cases hv with
  | nils => exact ⟨fun ts => rfl, fun j hj => by cases hj⟩
  | isl f os hl hc =>
    refine ⟨fun ts => rfl, fun j hj => ?_⟩
    obtain ⟨a, b, c⟩ := hc j hj
    have hi : ti env 32 = M.pure ty32.i := rfl
    have ha : aggB ty32.i.desc = true := rfl
    refine ⟨.ip f (0 + os.length * 2) (0 + j * 2), _, _, f (j * 2 + 1), [], fun h' n' => ?_, rfl, rfl, ?_, ?_, ?_, b.bytes h, b.below N, argB_roomy b⟩
    · have hu : und env 22 = M.pure (.slice 32) := rfl
      have hz : sizeOf env 32 = M.pure 2 := rfl
      simp only [indexAddr, hu, hz, bind_pure, intK, slK, idx, bind_assoc, Nat.beq_refl, Int.toNat_natCast]
      exact Rd.bind (i2 := []) (Rd.ob (by simp; omega)) (Rd.pure _)
    · have : ti env 5 = M.pure ty5.i := rfl
      simp only [load, this, bind_pure, show aggB ty5.i.desc = false from rfl, readCells, bind_assoc]
      refine Rd.bind (i2 := []) (Rd.ob (ble_of (by show 0 + j * 2 + 0 + 1 ≤ _; omega))) ?_
      show Rd ((oneOf [f (0 + j * 2 + 0 + 0)])) h n [] _
      simp only [Nat.zero_add, Nat.add_zero, a]
      exact Rd.pure _
    · have : ti env 23 = M.pure ty23.i := rfl
      simp only [load, this, bind_pure, show aggB ty23.i.desc = false from rfl, readCells, bind_assoc]
      refine Rd.bind (i2 := []) (Rd.ob (ble_of (by show 0 + j * 2 + 1 + 1 ≤ _; omega))) ?_
      show Rd ((oneOf [f (0 + j * 2 + 1 + 0)])) h n [] _
      simp only [Nat.zero_add, Nat.add_zero]
      exact Rd.pure _
    · simp only [load, hi, bind_pure, ha, readCells, bind_assoc]
      refine Rd.bind (i2 := []) (Rd.ob (ble_of (by show 0 + j * 2 + 2 ≤ _; omega))) ?_
      show Rd (M.pure (AVal.agg [f (0 + j * 2 + 0), f (0 + j * 2 + 1)])) h n [] _
      simp only [Nat.zero_add, Nat.add_zero, a]
      exact Rd.pure _
theorem ArgOps.short {v : AVal} {os : List OpD} (hv : ArgOps v os) : os.length ≤ maxLen ∧ ∀ o, o ∈ os → o.2.length ≤ maxLen := by
  cases hv with
  | nils => exact ⟨Nat.zero_le _, fun o ho => by cases ho⟩
  | isl f os hl hc =>
    refine ⟨hl, fun o ho => ?_⟩
    obtain ⟨j, hj, rfl⟩ := List.getElem_of_mem ho
    exact (hc j hj).2.2
theorem arg_ops {v : AVal} (ha : Arg Try.prog 22 [v]) : ∃ os, ArgOps v os := by
  have hc : Try.prog.cellsOf 32 = 2 := by kernel_rfl
  have hc5 : Try.prog.cellsOf 5 = 1 := by kernel_rfl
  have hc23 : Try.prog.cellsOf 23 = 1 := by kernel_rfl
  rcases ha.slice_inv Try.underlying22 (by omega) with h | ⟨f, len, h, hl, hx⟩
  · injection h with h; subst h; exact ⟨[], .nils⟩
  · injection h with h
    subst h
    rw [hc] at hx ⊢
    have each : ∀ i, ∃ o : OpD, i < len → f (i * 2) = u8 o.1 ∧ ArgBytes (f (i * 2 + 1)) o.2 ∧ o.2.length ≤ maxLen := fun i => by
      by_cases hi : i < len
      · obtain ⟨_, q⟩ := (hx i hi).struct_inv Try.underlying32
        have q0 : Arg Try.prog 5 (((cut f (i * 2) 2).drop 0).take (Try.prog.cellsOf 5)) := q 0 _ rfl
        have q1 : Arg Try.prog 23 (((cut f (i * 2) 2).drop 1).take (Try.prog.cellsOf 23)) := q 1 _ rfl
        rw [hc5] at q0
        rw [hc23] at q1
        obtain ⟨z, e1, hw⟩ := Arg.int_inv Try.underlying5 q0
        obtain ⟨l, hb, hbl⟩ := arg_bytes (v := f (i * 2 + 1)) Try.underlying23 Try.underlying5 hc5 q1
        injection e1 with e1
        have e1 : f (i * 2) = .int .u8 z := e1
        exact ⟨(byteOf z, l), fun _ => ⟨by rw [e1, u8, byteOf_eq hw], hb, hbl⟩⟩
      · exact ⟨(0, []), fun q => absurd q hi⟩
    obtain ⟨b, hb⟩ := Classical.axiomOfChoice each
    have := ArgOps.isl f ((List.range len).map b) (by simpa using hl) (fun j hj => by
      simp only [List.length_map, List.length_range] at hj
      simp only [List.getElem_map, List.getElem_range]
      exact hb j hj)
    simp only [List.length_map, List.length_range] at this
    exact ⟨_, this⟩
end Go.Am.Ytfebaeelmnchiaa
