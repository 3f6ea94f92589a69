/- m[k]++ with an outpoint as the key, in a region that draws its order. -/
import Derived.Test.YtlgebaofkolkoaaInsP
set_option linter.unusedSimpArgs false
set_option linter.unusedVariables false
set_option linter.defProp false
set_option maxRecDepth 10000
namespace Go.Am.Ytlgebaofkolkoaa.Ins
open Go Go.Am Go.Proofs
theorem HX {a b : a9} (h : pN a b = true) : a = b := by
 unfold pN at h
 split at h
 ·simp only [Bool.and_eq_true, decide_eq_true_eq, beq_iff_eq] at h
  rw [h.1, h.2]
 ·rw [beq_iff_eq] at h
  rw [h]
 ·cases h
theorem EZ : ∀ {a b : List a9}, tU a b = true → a = b
 | [], [], _ => rfl
 | [], _ :: _, h => by simp [tU] at h
 | _ :: _, [], h => by simp [tU] at h
 | x :: a, y :: b, h => by
  simp only [tU, Bool.and_eq_true] at h
  rw [HX h.1, EZ h.2]
def CH (l : List a9) : Option Pt := match l[32]? with
 | some v => match v with
  | .int .u32 z => match tU (aX ((l.take 32).map toByte) z) l && (((l.take 32).map toByte).length).beq 32 with
   | true => some ((l.take 32).map toByte, z)
   | false => none
  | _ => none
 | none => none
theorem xL {l : List a9} {p : Pt} (h : CH l = some p) : l = aX p.1 p.2 ∧ p.1.length = 32 := by
 unfold CH at h
 split at h
 ·split at h
  ·split at h
   ·rename_i e
    rw [Bool.and_eq_true] at e
    injection h with h
    subst h
    exact ⟨(EZ e.1).symm, Nat.eq_of_beq_eq_true e.2⟩
   ·cases h
  ·cases h
 ·cases h
theorem E6 {p : Pt} (h : p.1.length = 32) : CH (aX p.1 p.2) = some p := by
 have e1 : (aX p.1 p.2).take 32 = p.1.map u8 := by unfold aX; rw [List.take_append_of_le_length (by simp [h]), List.take_of_length_le (by simp [h])]
 unfold CH
 rw [gQ h, e1]
 have e2 : (p.1.map u8).map toByte = p.1 := kJ p.1
 rw [e2]
 have e3 : tU (aX p.1 p.2) (aX p.1 p.2) = true := E3 p
 simp only [e3, h, Bool.true_and]
def BE (e : Ent) : Option (Pt × Int) := match e.1 with
 | .agg l => match CH l with
  | some p => match e.2.1 with
   | .int .i64 z => some (p, z)
   | _ => none
  | none => none
 | _ => none
def cv (x : Pt × Int) : a9 × a9 := (ptA x.1, .int .i64 x.2)
theorem DF {e : Ent} {x : Pt × Int} (h : BE e = some x) : e.1 = ptA x.1 ∧ e.2.1 = .int .i64 x.2 ∧ x.1.1.length = 32 := by
 unfold BE at h
 split at h
 ·rename_i l e1
  split at h
  ·rename_i p hp
   split at h
   ·rename_i z e2
    injection h with h
    subst h
    obtain ⟨q1, q2⟩ := xL hp
    exact ⟨by rw [e1, q1]; rfl, e2, q2⟩
   ·cases h
  ·cases h
 ·cases h
def mZ (b : Nat) : List Ent → Option (List (Pt × Int))
 | [] => some []
 | e :: es => match BE e with
  | some x => match e.2.2.beq b with
   | true => match mZ (b + 1) es with
    | some l => some (x :: l)
    | none => none
   | false => none
  | none => none
theorem rN : ∀ {es : List Ent} {b : Nat} {l : List (Pt × Int)}, mZ b es = some l → es = gS b (l.map cv) ∧ ∀ x ∈ l, x.1.1.length = 32
 | [], b, l, h => by injection h with h; subst h; exact ⟨rfl, fun x hx => by cases hx⟩
 | e :: es, b, l, h => by
  unfold mZ at h
  split at h
  ·rename_i x hx
   split at h
   ·rename_i hb
    split at h
    ·rename_i l2 hl
     injection h with h
     subst h
     obtain ⟨q1, q2⟩ := rN hl
     obtain ⟨a1, a2, a3⟩ := DF hx
     refine ⟨?_, fun y hy => ?_⟩
     ·simp only [List.map_cons, gS, ← q1]
      congr 1
      exact Prod.ext a1 (Prod.ext a2 (Nat.eq_of_beq_eq_true hb))
     ·rcases List.mem_cons.1 hy with rfl | hy
      ·exact a3
      ·exact q2 y hy
    ·cases h
   ·cases h
  ·cases h
theorem rO : ∀ (l : List (Pt × Int)) (b : Nat), (∀ x ∈ l, x.1.1.length = 32) → mZ b (gS b (l.map cv)) = some l
 | [], b, _ => rfl
 | x :: l, b, h => by
  have e : BE (ptA x.1, a9.int .i64 x.2, b) = some x := by
   unfold BE ptA
   simp only [E6 (h x (List.mem_cons_self ..))]
  simp only [List.map_cons, gS, mZ, cv, e, Nat.beq_refl, rO l (b + 1) fun y hy => h y (List.mem_cons_of_mem _ hy)]
def idxOf (p : Pt) : List (Pt × Int) → Nat → Option (Nat × Int)
 | [], _ => none
 | x :: l, i => if x.1 = p then some (i, x.2) else idxOf p l (i + 1)
theorem xT {p : Pt} : ∀ (l : List (Pt × Int)) (i : Nat), fC (isK (ptA p)) (l.map cv) i = (idxOf p l i).map fun x => (x.1, a9.int .i64 x.2)
 | [], _ => rfl
 | x :: l, i => by
  by_cases c : x.1 = p
  ·simp only [List.map_cons, cv, fC, c, lS.2 rfl, if_pos, idxOf, Option.map_some]
  ·simp only [List.map_cons, cv, fC, vE fun w => c (qT w), idxOf, if_neg c, Bool.false_eq_true, if_false]
   exact xT l (i + 1)
theorem AX {p : Pt} : ∀ {l : List (Pt × Int)} {i j : Nat} {z : Int}, idxOf p l i = some (j, z) → i ≤ j ∧ j - i < l.length ∧ l[j - i]? = some (p, z)
 | [], _, _, _, h => by cases h
 | x :: l, i, j, z, h => by
  unfold idxOf at h
  split at h
  ·rename_i c
   injection h with h
   injection h with h1 h2
   subst h1; subst h2
   refine ⟨Nat.le_refl _, by simp, ?_⟩
   rw [Nat.sub_self, ← c]; rfl
  ·obtain ⟨h1, h2, h3⟩ := AX h
   refine ⟨by omega, by simp only [List.length_cons]; omega, ?_⟩
   rw [show j - i = (j - (i + 1)) + 1 by omega, List.getElem?_cons_succ]
   exact h3
def bump (p : Pt) (l : List (Pt × Int)) : List (Pt × Int) := match idxOf p l 0 with
 | some x => l.modify x.1 fun y => (y.1, IntKind.i64.wrap (x.2 + 1))
 | none => l ++ [(p, 1)]
def BS (bx bm : Blk) : Option (Pt × Nat × List (Pt × Int)) := match bx with
 | .row c _ => match c with
  | .l cells => match CH (cells.take 33) with
   | some p => match bm with
    | .map es ck => match mZ (ck - es.length) es with
     | some l => match es.length.ble ck with
      | true => some (p, ck - es.length, l)
      | false => none
     | none => none
    | _ => none
   | none => none
  | _ => none
 | _ => none
def tC (tm : List a9) : List Nat → List a9
 | [] => tm
 | t :: l => tC (put tm t .junk) l
def pE (m c : Nat) (ts : List Nat) (tm : List a9) : M (fQ × List a9) :=
 match nth tm m undef with
 | .map id => match nth tm c undef with
  | .ptr x off => match off.beq 0 && ts.all (fun t => t.blt tm.length) with
   | true => (fI x).bind fun bx => (fI id).bind fun bm => match BS bx bm with
     | some r => (jF id (.map (gS r.2.1 ((bump r.1 r.2.2).map cv)) (r.2.1 + (bump r.1 r.2.2).length))).bind fun _ => M.pure (.normal, tC tm ts)
     | none => fail "bump"
   | false => fail "bump"
  | _ => fail "bump"
 | _ => fail "bump"
theorem DN {bx bm : Blk} {r : Pt × Nat × List (Pt × Int)} (h : BS bx bm = some r) : ∃ cells t, bx = .row (.l cells) t ∧ cells.take 33 = aX r.1.1 r.1.2 ∧ r.1.1.length = 32 ∧ bm = .map (gS r.2.1 (r.2.2.map cv)) (r.2.1 + r.2.2.length) ∧ ∀ x ∈ r.2.2, x.1.1.length = 32 := by
 unfold BS at h
 split at h
 ·split at h
  ·split at h
   ·rename_i p hp
    split at h
    ·rename_i es ck
     split at h
     ·rename_i l hl
      split at h
      ·rename_i hle
       injection h with h
       subst h
       obtain ⟨q1, q2⟩ := xL hp
       obtain ⟨a1, a2⟩ := rN hl
       have hle := Nat.le_of_ble_eq_true hle
       refine ⟨_, _, rfl, q1, q2, ?_, a2⟩
       have e1 : es.length = l.length := by rw [a1, rM, List.length_map]
       rw [← a1]
       congr 1
       show ck = ck - es.length + l.length
       omega
      ·cases h
     ·cases h
    ·cases h
   ·cases h
  ·cases h
 ·cases h
end Go.Am.Ytlgebaofkolkoaa.Ins
