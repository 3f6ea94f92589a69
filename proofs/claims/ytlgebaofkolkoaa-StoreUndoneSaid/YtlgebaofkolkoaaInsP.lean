/- Outpoints, for the first tables. -/
import Derived.Test.YtlgebaofkolkoaaInsEnv
import Derived.Test.YtlgebaofkolkoaaAoV
set_option linter.unusedSimpArgs false
set_option linter.unusedVariables false
set_option linter.defProp false
set_option maxRecDepth 10000
namespace Go.Am.Ytlgebaofkolkoaa.Ins
open Go Go.Am Go.Proofs
def aX (hash : List UInt8) (pn : Int) : List a9 := hash.map u8 ++ [.int .u32 pn]
theorem bY {hash : List UInt8} {pn : Int} (h : hash.length = 32) : (aX hash pn).length = 33 := by simp [aX, h]
theorem gQ {hash : List UInt8} {pn : Int} (h : hash.length = 32) : (aX hash pn)[32]? = some (.int .u32 pn) := by
 unfold aX
 rw [List.getElem?_append_right (by rw [List.length_map]; omega), List.length_map, h]; rfl
theorem allM_pure {α : Type} {f : α → M Bool} {g : α → Bool} : ∀ (l : List α), (∀ x ∈ l, f x = M.pure (g x)) → allM f l = M.pure (l.all g)
 | [], _ => rfl
 | x :: l, h => by
  simp only [allM, h x (List.mem_cons_self), bind_pure, allM_pure l fun y hy => h y (List.mem_cons_of_mem _ hy), List.all_cons]
theorem uT {a : List UInt8} {i : Nat} (hi : i < a.length) : part env 5 (a.map u8) i = M.pure (u8 a[i]) := by
 simp only [part, ti5, bind_pure, eD, List.getElem?_map, List.getElem?_eq_getElem hi, Option.map_some, aV]
theorem eq5 (d : Nat) (x y : UInt8) : equal env (d + 1) 5 (u8 x) (u8 y) = M.pure (x == y) := by
 have : ((x.toNat : Int) == (y.toNat : Int)) = (x == y) := by
  by_cases e : x = y
  ·subst e; simp
  ·have h2 : ¬ ((x.toNat : Int) = (y.toNat : Int)) := fun q => e (UInt8.toNat_inj.1 (by omega))
   rw [beq_eq_false_iff_ne.2 h2, beq_eq_false_iff_ne.2 e]
 simp only [equal, u8, und, ti5, bind_pure, decide_true]
 rw [this]
theorem KD (d : Nat) (a b : List UInt8) (ha : a.length = 32) (hb : b.length = 32) : equal env (d + 1 + 1) 25 (.agg (a.map u8)) (.agg (b.map u8)) = M.pure (decide (a = b)) := by
 have hq : xA env env.eqs 25 = true := rfl
 have h1 : equal env (d + 1 + 1) 25 (.agg (a.map u8)) (.agg (b.map u8)) = allM (fun i => (part env 5 (a.map u8) (i * 1)).bind fun x => (part env 5 (b.map u8) (i * 1)).bind fun y => equal env (d + 1) 5 x y) (List.range 32) := by
  rw [equal]
  ·simp only [und, mR, bind_pure, hq, dQ, sizeOf, ti5]
  all_goals (intro k n h; cases h)
 rw [h1, allM_pure (g := fun i => (a.getD i 0 == b.getD i 0)) _ fun i hi => ?_]
 ·congr 1
  rw [Bool.eq_iff_iff, List.all_eq_true, decide_eq_true_iff]
  constructor
  ·intro h
   apply List.ext_getElem (by omega)
   intro i h1 h2
   have := h i (List.mem_range.2 (by omega))
   rw [List.getD_eq_getElem?_getD, List.getD_eq_getElem?_getD, List.getElem?_eq_getElem h1, List.getElem?_eq_getElem h2] at this
   simpa using this
  ·rintro rfl i _
   simp
 ·have hi := List.mem_range.1 hi
  rw [Nat.mul_one, uT (by omega), bind_pure, uT (by omega), bind_pure, eq5]
  rw [List.getD_eq_getElem?_getD, List.getD_eq_getElem?_getD, List.getElem?_eq_getElem (by omega), List.getElem?_eq_getElem (by omega)]
  rfl
theorem NW (d : Nat) (h1 h2 : List UInt8) (n1 n2 : Int) (l1 : h1.length = 32) (l2 : h2.length = 32) : equal env (d + 1 + 1 + 1) 28 (.agg (aX h1 n1)) (.agg (aX h2 n2)) = M.pure (decide (h1 = h2) && (n1 == n2)) := by
 have hq : xA env env.eqs 28 = true := rfl
 have p0 : ∀ (hh : List UInt8) (nn : Int), hh.length = 32 → part env 25 (aX hh nn) 0 = M.pure (.agg (hh.map u8)) := fun hh nn hl => by
  simp only [part, mR, bind_pure, eD, List.drop_zero]
  rw [show (aX hh nn).take 32 = hh.map u8 by unfold aX; rw [List.take_append_of_le_length (by simp [hl]), List.take_of_length_le (by simp [hl])]]
 have p1 : ∀ (hh : List UInt8) (nn : Int), hh.length = 32 → part env 26 (aX hh nn) 32 = M.pure (.int .u32 nn) := fun hh nn hl => by
  simp only [part, nH, bind_pure, eD, gQ hl, aV]
 have p2 : equal env (d + 1 + 1) 26 (.int .u32 n1) (.int .u32 n2) = M.pure (n1 == n2) := by
  simp only [equal, und, nH, bind_pure, decide_true]
 rw [equal]
 ·simp only [und, j3, bind_pure, hq, dQ]
  simp only [allM, show decide ("Tx" = "_") = false from rfl, show decide ("N" = "_") = false from rfl, p0 h1 n1 l1, p0 h2 n2 l2, p1 h1 n1 l1, p1 h2 n2 l2, bind_pure, KD d h1 h2 l1 l2, p2, Bool.and_true]
 all_goals (intro k n h; cases h)
abbrev Pt := List UInt8 × Int
def ptA (p : Pt) : a9 := .agg (aX p.1 p.2)
theorem C8 {a b : UInt8} (h : u8 a = u8 b) : a = b := by
 unfold u8 at h
 injection h with h1 h2
 exact UInt8.toNat_inj.1 (by omega)
theorem lA : ∀ {a b : List UInt8}, a.map u8 = b.map u8 → a = b
 | [], [], _ => rfl
 | [], _ :: _, h => by cases h
 | _ :: _, [], h => by cases h
 | x :: a, y :: b, h => by
  simp only [List.map_cons, List.cons.injEq] at h
  rw [C8 h.1, lA h.2]
theorem qT {p q : Pt} (h : ptA p = ptA q) : p = q := by
 unfold ptA aX at h
 injection h with h
 obtain ⟨h1, h2⟩ := List.append_inj' h rfl
 injection h2 with h2
 injection h2 with _ h2
 exact Prod.ext (lA h1) h2
noncomputable def isK (k a : a9) : Bool := @decide (a = k) (Classical.propDecidable _)
theorem lS {k a : a9} : isK k a = true ↔ a = k := by unfold isK; exact @decide_eq_true_iff _ (Classical.propDecidable _)
theorem vE {k a : a9} (h : a ≠ k) : isK k a = false := by
 cases e : isK k a with
 | false => rfl
 | true => exact absurd (lS.1 e) h
theorem uE (p q : Pt) (l1 : p.1.length = 32) (l2 : q.1.length = 32) : bG env 28 (ptA p) (ptA q) = M.pure (isK (ptA p) (ptA q)) := by
 have e : bG env 28 (ptA p) (ptA q) = M.pure (decide (p.1 = q.1) && (p.2 == q.2)) := NW 97 p.1 q.1 p.2 q.2 l1 l2
 rw [e]
 congr 1
 by_cases c : p = q
 ·subst c
  rw [lS.2 rfl]; simp
 ·rw [vE fun w => c (qT w).symm]
  by_cases d : p.1 = q.1
  ·rw [decide_eq_true d, Bool.true_and, beq_eq_false_iff_ne]
   exact fun w => c (Prod.ext d w)
  ·rw [decide_eq_false d]; rfl
theorem AA : ∀ l : List a9, (∀ a ∈ l, pN a a = true) → tU l l = true
 | [], _ => rfl
 | a :: l, h => by
  simp only [tU, h a (List.mem_cons_self ..), AA l fun x hx => h x (List.mem_cons_of_mem _ hx), Bool.and_self]
theorem E3 (p : Pt) : sameKey (ptA p) (ptA p) = true := by
 refine AA _ fun a ha => ?_
 unfold aX at ha
 rcases List.mem_append.1 ha with h | h
 ·obtain ⟨b, _, rfl⟩ := List.mem_map.1 h
  simp [u8, pN]
 ·rw [List.mem_singleton] at h
  subst h
  simp [pN]
theorem JH (d : Nat) (x : UInt8) : iP env (d + 1) 5 (u8 x) = M.pure () := by
 simp only [iP, und, ti5, bind_pure]
theorem mO {α : Type} {f : α → M Unit} : ∀ (l : List α), (∀ x ∈ l, f x = M.pure ()) → zZ f l = M.pure ()
 | [], _ => rfl
 | x :: l, h => by simp only [zZ, h x (List.mem_cons_self ..), bind_pure, mO l fun y hy => h y (List.mem_cons_of_mem _ hy)]
theorem D3 (d : Nat) (a : List UInt8) (ha : a.length = 32) : iP env (d + 1 + 1) 25 (.agg (a.map u8)) = M.pure () := by
 rw [iP]
 simp only [und, mR, bind_pure, dQ, sizeOf, ti5]
 refine mO _ fun i hi => ?_
 have hi := List.mem_range.1 hi
 rw [Nat.mul_one, uT (by omega), bind_pure, JH]
theorem sI (p : Pt) (l1 : p.1.length = 32) : iP env 100 28 (ptA p) = M.pure () := by
 have p0 : part env 25 (aX p.1 p.2) 0 = M.pure (.agg (p.1.map u8)) := by
  simp only [part, mR, bind_pure, eD, List.drop_zero]
  rw [show (aX p.1 p.2).take 32 = p.1.map u8 by unfold aX; rw [List.take_append_of_le_length (by simp [l1]), List.take_of_length_le (by simp [l1])]]
 have p1 : part env 26 (aX p.1 p.2) 32 = M.pure (.int .u32 p.2) := by
  simp only [part, nH, bind_pure, eD, gQ l1, aV]
 have p2 : iP env (97 + 1 + 1) 26 (.int .u32 p.2) = M.pure () := by
  rw [iP]; simp only [und, nH, bind_pure]
 unfold ptA
 show iP env (97 + 1 + 1 + 1) 28 (.agg (aX p.1 p.2)) = M.pure ()
 rw [iP]
 simp only [und, j3, bind_pure, dQ]
 simp only [zZ, show decide ("Tx" = "_") = false from rfl, show decide ("N" = "_") = false from rfl, p0, p1, bind_pure, D3 97 p.1 l1, p2]
theorem C9 : und env 161 = M.pure (.map 28 3) := rfl
theorem z3o : zeroOf env 3 = M.pure (.int .i64 0) := rfl
end Go.Am.Ytlgebaofkolkoaa.Ins
