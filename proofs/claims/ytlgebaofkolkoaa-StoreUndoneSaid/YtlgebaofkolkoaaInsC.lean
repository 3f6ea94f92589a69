/- m[k]++ in whatever order: the model does what the action says. -/
import Derived.Test.YtlgebaofkolkoaaInsB
set_option linter.unusedSimpArgs false
set_option linter.unusedVariables false
set_option linter.defProp false
set_option maxRecDepth 10000
namespace Go.Am.Ytlgebaofkolkoaa.Ins
open Go Go.Am Go.Proofs
def dat (i : Nat) : Edge := ⟨i, .data⟩
def pha (i : Nat) : Edge := ⟨i, .phase⟩
def DO (b m c ty : Nat) (pos : String) : Array Oper := #[
 { dst := some b, op := .move (.tmp m), type := 161, pos := pos, after := #[], guard := none },
 { dst := some (b + 1), op := .fieldAddr ty (.tmp c) 0, type := 0, pos := pos, after := #[], guard := none },
 { dst := some (b + 2), op := .load 28 (.tmp (b + 1)), type := 28, pos := pos, after := #[dat 1], guard := none },
 { dst := some (b + 3), op := .lookup 161 (.tmp b) (.tmp (b + 2)) false, type := 3, pos := pos, after := #[dat 0, dat 2], guard := none },
 { dst := some (b + 4), op := .binOp .add 3 (.tmp (b + 3)) (.const (.int .i64 1)) 3, type := 3, pos := pos, after := #[dat 3], guard := none },
 { dst := some (b + 5), op := .mapEntry 161 (.tmp b) (.tmp (b + 2)), type := 0, pos := pos, after := #[dat 0, dat 2, pha 0, pha 1, pha 2, ⟨3, .textOnly .mapOpAssignEntry⟩, ⟨4, .textOnly .mapOpAssignEntry⟩], guard := none },
 { dst := some (b + 6), op := .extract (.tmp (b + 5)) 1, type := 3, pos := pos, after := #[dat 5], guard := none },
 { dst := none, op := .entryStore 161 (.tmp b) (.tmp (b + 6)) (.tmp (b + 4)), type := 0, pos := pos, after := #[dat 0, dat 6, dat 4, ⟨5, .chain⟩, pha 0, pha 1, pha 2, pha 3, pha 4, pha 5, pha 6], guard := none }]
def lI : Nat → List Nat
 | 2 => [1] | 3 => [0, 2] | 4 => [3] | 5 => [0, 1, 2] | 6 => [5] | 7 => [0, 1, 2, 3, 4, 5, 6] | _ => []
theorem NX {b m c ty : Nat} {pos : String} {i : Nat} {o : Oper} (hi : (DO b m c ty pos)[i]? = some o) {S : Nat → Prop} (h : ∀ e ∈ o.after, Region.binds .any e = true → S e.on) : ∀ k ∈ lI i, S k := by
 have hlt : i < 8 := by
  have := (Array.getElem?_eq_some_iff.1 hi).1
  exact this
 have hb1 : ∀ k, Region.binds .any (dat k) = true := fun k => rfl
 have hb2 : ∀ k, Region.binds .any (pha k) = true := fun k => rfl
 match i, hlt with
 | 0, _ => intro k hk; cases hk
 | 1, _ => intro k hk; cases hk
 | 2, _ =>
  injection hi with hi; subst hi; intro k hk
  simp only [lI, List.mem_cons, List.not_mem_nil, or_false] at hk
  subst hk
  ·exact h (dat 1) (Array.mem_def.2 (List.mem_of_getElem? (i := 0) rfl)) (hb1 _)
 | 3, _ =>
  injection hi with hi; subst hi; intro k hk
  simp only [lI, List.mem_cons, List.not_mem_nil, or_false] at hk
  rcases hk with rfl | rfl
  ·exact h (dat 0) (Array.mem_def.2 (List.mem_of_getElem? (i := 0) rfl)) (hb1 _)
  ·exact h (dat 2) (Array.mem_def.2 (List.mem_of_getElem? (i := 1) rfl)) (hb1 _)
 | 4, _ =>
  injection hi with hi; subst hi; intro k hk
  simp only [lI, List.mem_cons, List.not_mem_nil, or_false] at hk
  subst hk
  ·exact h (dat 3) (Array.mem_def.2 (List.mem_of_getElem? (i := 0) rfl)) (hb1 _)
 | 5, _ =>
  injection hi with hi; subst hi; intro k hk
  simp only [lI, List.mem_cons, List.not_mem_nil, or_false] at hk
  rcases hk with rfl | rfl | rfl
  ·exact h (pha 0) (Array.mem_def.2 (List.mem_of_getElem? (i := 2) rfl)) (hb2 _)
  ·exact h (pha 1) (Array.mem_def.2 (List.mem_of_getElem? (i := 3) rfl)) (hb2 _)
  ·exact h (pha 2) (Array.mem_def.2 (List.mem_of_getElem? (i := 4) rfl)) (hb2 _)
 | 6, _ =>
  injection hi with hi; subst hi; intro k hk
  simp only [lI, List.mem_cons, List.not_mem_nil, or_false] at hk
  subst hk
  ·exact h (dat 5) (Array.mem_def.2 (List.mem_of_getElem? (i := 0) rfl)) (hb1 _)
 | 7, _ =>
  injection hi with hi; subst hi; intro k hk
  simp only [lI, List.mem_cons, List.not_mem_nil, or_false] at hk
  rcases hk with rfl | rfl | rfl | rfl | rfl | rfl | rfl
  ·exact h (pha 0) (Array.mem_def.2 (List.mem_of_getElem? (i := 4) rfl)) (hb2 _)
  ·exact h (pha 1) (Array.mem_def.2 (List.mem_of_getElem? (i := 5) rfl)) (hb2 _)
  ·exact h (pha 2) (Array.mem_def.2 (List.mem_of_getElem? (i := 6) rfl)) (hb2 _)
  ·exact h (pha 3) (Array.mem_def.2 (List.mem_of_getElem? (i := 7) rfl)) (hb2 _)
  ·exact h (pha 4) (Array.mem_def.2 (List.mem_of_getElem? (i := 8) rfl)) (hb2 _)
  ·exact h (pha 5) (Array.mem_def.2 (List.mem_of_getElem? (i := 9) rfl)) (hb2 _)
  ·exact h (pha 6) (Array.mem_def.2 (List.mem_of_getElem? (i := 10) rfl)) (hb2 _)
structure J (b : Nat) (tm0 : List a9) (val : Nat → a9) (H0 H1 H2 : Hp) (l : Array Bool) (tm : List a9) (h : Hp) : Prop where
 sz : l.size = 8
 len : tm.length = tm0.length
 vals : ∀ k, k < 7 → l.getD k false = true → tm[b + k]? = some (val k)
 rest : ∀ x, x < b ∨ b + 7 ≤ x → tm[x]? = tm0[x]?
 dp : ∀ k, l.getD k false = true → ∀ j ∈ lI k, l.getD j false = true
 heap : h = if l.getD 7 false = true then H2 else if l.getD 5 false = true then H1 else H0
theorem J.put {b : Nat} {tm0 : List a9} {val : Nat → a9} {H0 H1 H2 : Hp} {l : Array Bool} {tm : List a9} {h : Hp} (j : J b tm0 val H0 H1 H2 l tm h) (hb : b + 7 ≤ tm0.length) {i : Nat} (hi : i < 8) (hn : l.getD i false = false) (hd : ∀ k ∈ lI i, l.getD k false = true)
  {d : Option Tmp} {v : a9} (hdst : (i < 7 ∧ d = some (b + i) ∧ v = val i) ∨ (i = 7 ∧ d = none)) {h' : Hp} (hh : h' = if (i = 7 ∨ l.getD 7 false = true) then H2 else if (i = 5 ∨ l.getD 5 false = true) then H1 else H0) :
  J b tm0 val H0 H1 H2 (l.setIfInBounds i true) (aC tm d v) h' := by
 have get : ∀ k, (l.setIfInBounds i true).getD k false = true ↔ (k = i ∨ l.getD k false = true) := fun k => by
  by_cases hk : k = i
  ·subst hk
   have : k < l.size := by rw [j.sz]; exact hi
   simp [Array.getD, this]
  ·have hk' : ¬ i = k := fun h => hk h.symm
   simp only [hk, false_or, Array.getD_eq_getD_getElem?, Array.getElem?_setIfInBounds, hk', if_false]; rw [if_neg (fun w => w)]
 refine ⟨by simpa using j.sz, by rw [nY, j.len], fun k hk hl => ?_, fun x hx => ?_, fun k hl q hq => ?_, ?_⟩
 ·rw [lF]
  rcases hdst with ⟨q1, rfl, rfl⟩ | ⟨q1, rfl⟩
  ·by_cases c : k = i
   ·subst c
    rw [if_pos rfl, if_pos (by rw [j.len]; omega)]
   ·rw [if_neg (fun w => c (by injection w with w; omega))]
    exact j.vals k hk (((get k).1 hl).resolve_left c)
  ·rw [if_neg (fun w => by cases w)]
   exact j.vals k hk (((get k).1 hl).resolve_left (by omega))
 ·rw [lF]
  rcases hdst with ⟨q1, rfl, rfl⟩ | ⟨q1, rfl⟩
  ·rw [if_neg (fun w => by injection w with w; omega)]
   exact j.rest x hx
  ·rw [if_neg (fun w => by cases w)]
   exact j.rest x hx
 ·rcases (get k).1 hl with rfl | hl
  ·exact (get q).2 (.inr (hd q hq))
  ·exact (get q).2 (.inr (j.dp k hl q hq))
 ·rw [hh]
  have e7 : ((l.setIfInBounds i true).getD 7 false = true) ↔ (i = 7 ∨ l.getD 7 false = true) := (get 7).trans (or_congr_left eq_comm)
  have e5 : ((l.setIfInBounds i true).getD 5 false = true) ↔ (i = 5 ∨ l.getD 5 false = true) := (get 5).trans (or_congr_left eq_comm)
  simp only [e7, e5]
theorem xR : ∀ (ts : List Nat) (tm : List a9), (tC tm ts).length = tm.length
 | [], _ => rfl
 | t :: ts, tm => by rw [tC, xR ts, jG]
theorem xS : ∀ (ts : List Nat) (tm : List a9) (i : Nat) (v : a9), (tC tm ts)[i]? = some v → v = .junk ∨ (i ∉ ts ∧ tm[i]? = some v)
 | [], tm, i, v, h => .inr ⟨List.not_mem_nil, h⟩
 | t :: ts, tm, i, v, h => by
  rcases xS ts _ i v h with h | ⟨h1, h2⟩
  ·exact .inl h
  ·have e := lF tm (some t) .junk i
   simp only [aC] at e
   rw [e] at h2
   by_cases c : t = i
   ·subst c
    rw [if_pos rfl] at h2
    split at h2
    ·injection h2 with h2; exact .inl h2.symm
    ·cases h2
   ·rw [if_neg (fun w => c (by injection w))] at h2
    exact .inr ⟨fun w => (List.mem_cons.1 w).elim (fun w => c w.symm) h1, h2⟩
theorem JI {ρ : Ren} {m : Mem} {tm tm2 : List a9} {c : Array Value} (h : RL ρ m tm c) (hl : tm2.length = tm.length) (hg : ∀ (i : Nat) (v : a9), tm2[i]? = some v → v = a9.junk ∨ tm[i]? = some v) : RL ρ m tm2 c :=
 ⟨by rw [hl]; exact h.len, fun i v x hv hx => by
  rcases hg i v hv with rfl | hv
  ·exact .junk x
  ·exact h.at_ i v x hv hx⟩
theorem GR {b mm cc ty : Nat} {pos : String} {tm0 : List a9} {H0 H1 H2 : Hp} {n mid x : Nat} {p : Pt} {z0 st : Int} (hmm : mm < b ∨ b + 7 ≤ mm) (hcc : cc < b ∨ b + 7 ≤ cc) (hlen : b + 7 ≤ tm0.length)
  (hfa : ∀ x, fieldAddr env ty (.ptr x 0) 0 = M.pure (.ptr x 0)) (hm : nth tm0 mm undef = .map mid) (hc : nth tm0 cc undef = .ptr x 0)
  (F1 : Ex (iS env 161 (.map mid) (ptA p) false) H0 n (.int .i64 z0) H0) (F2 : Ex (iS env 161 (.map mid) (ptA p) false) H1 n (.int .i64 z0) H1)
  (F3 : Ex (iK env 161 (.map mid) (ptA p)) H0 n (a9.tup [.int .i64 z0, .int .i64 st]) H1) (F4 : Ex (gE (.map mid) (.int .i64 st) (.int .i64 (IntKind.i64.wrap (z0 + 1)))) H1 n undef H2)
  (F5 : Ex (load env 28 (.ptr x 0)) H0 n (ptA p) H0)
  {val : Nat → a9} (v0 : val 0 = .map mid) (v1 : val 1 = .ptr x 0) (v2 : val 2 = ptA p) (v3 : val 3 = .int .i64 z0) (v4 : val 4 = .int .i64 (IntKind.i64.wrap (z0 + 1))) (v5 : val 5 = a9.tup [.int .i64 z0, .int .i64 st]) (v6 : val 6 = .int .i64 st) :
  ∀ listed tm h, listed.size = (DO b mm cc ty pos).size → J b tm0 val H0 H1 H2 listed tm h → ∀ i o, (DO b mm cc ty pos)[i]? = some o → listed.getD i false = false → (∀ e ∈ o.after, Region.binds .any e = true → listed.getD e.on false = true) →
   ∃ v h', Ex (opV env (evalW env) (DO b mm cc ty pos).toList o tm) h n v h' ∧ J b tm0 val H0 H1 H2 (listed.setIfInBounds i true) (aC tm o.dst v) h' := by
 intro listed tm h hsz j i o hi hn hall
 have hd : ∀ k ∈ lI i, listed.getD k false = true := NX (S := fun k => listed.getD k false = true) hi hall
 have hi8 : i < 8 := (Array.getElem?_eq_some_iff.1 hi).1
 have nv : ∀ k, k < 7 → listed.getD k false = true → nth tm (b + k) undef = val k := fun k hk hl => by rw [fU, j.vals k hk hl]; rfl
 have nr : ∀ y, y < b ∨ b + 7 ≤ y → nth tm y undef = nth tm0 y undef := fun y hy => by rw [fU, fU, j.rest y hy]
 have no7 : i < 7 → listed.getD 7 false = false := fun q => by
  cases e : listed.getD 7 false with
  | false => rfl
  | true =>
   have := j.dp 7 e i (by simp only [lI, List.mem_cons, List.not_mem_nil, or_false]; omega)
   rw [hn] at this; cases this
 match i, hi8 with
 | 0, _ =>
  injection hi with hi; subst hi
  have h7 := no7 (by omega)
  refine ⟨val 0, h, ?_, j.put hlen (by omega) hn hd (.inl ⟨by omega, rfl, rfl⟩) (by have := j.heap; simpa using this)⟩
  rw [jW rfl, v0]
  show Ex (M.pure (nth tm mm undef)) _ _ _ _
  rw [nr mm hmm, hm]; exact Ex.pure
 | 1, _ =>
  injection hi with hi; subst hi
  refine ⟨val 1, h, ?_, j.put hlen (by omega) hn hd (.inl ⟨by omega, rfl, rfl⟩) (by have := j.heap; simpa using this)⟩
  rw [jW rfl, v1]
  show Ex (fieldAddr env ty (nth tm cc undef) 0) _ _ _ _
  rw [nr cc hcc, hc, hfa]; exact Ex.pure
 | 2, _ =>
  injection hi with hi; subst hi
  have h7 := no7 (by omega)
  have h5 : listed.getD 5 false = false := by
   cases e : listed.getD 5 false with
   | false => rfl
   | true => have := j.dp 5 e 2 (by simp [lI]); rw [hn] at this; cases this
  have hh : h = H0 := by have := j.heap; rw [h7, h5] at this; simpa using this
  refine ⟨val 2, h, ?_, j.put hlen (by omega) hn hd (.inl ⟨by omega, rfl, rfl⟩) (by have := j.heap; simpa using this)⟩
  rw [jW rfl, v2]
  show Ex (load env 28 (nth tm (b + 1) undef)) _ _ _ _
  rw [nv 1 (by omega) (hd 1 (by simp [lI])), v1, hh]; exact F5
 | 3, _ =>
  injection hi with hi; subst hi
  have h7 := no7 (by omega)
  have hh := j.heap
  rw [h7] at hh
  refine ⟨val 3, h, ?_, j.put hlen (by omega) hn hd (.inl ⟨by omega, rfl, rfl⟩) (by have := j.heap; simpa using this)⟩
  rw [jW rfl, v3]
  show Ex (iS env 161 (nth tm b undef) (nth tm (b + 2) undef) false) _ _ _ _
  have n0 : nth tm b undef = .map mid := by have := nv 0 (by omega) (hd 0 (by simp [lI])); rw [v0] at this; exact this
  rw [n0, nv 2 (by omega) (hd 2 (by simp [lI])), v2]
  cases e5 : listed.getD 5 false with
  | false => rw [e5] at hh; rw [show h = H0 by simpa using hh]; exact F1
  | true => rw [e5] at hh; rw [show h = H1 by simpa using hh]; exact F2
 | 4, _ =>
  injection hi with hi; subst hi
  refine ⟨val 4, h, ?_, j.put hlen (by omega) hn hd (.inl ⟨by omega, rfl, rfl⟩) (by have := j.heap; simpa using this)⟩
  rw [jW rfl, v4]
  show Ex (binOp env .add 3 (nth tm (b + 3) undef) (.int .i64 1)) _ _ _ _
  rw [nv 3 (by omega) (hd 3 (by simp [lI])), v3]; exact Ex.pure
 | 5, _ =>
  injection hi with hi; subst hi
  have h7 := no7 (by omega)
  have hh := j.heap
  rw [h7, hn] at hh
  have hh : h = H0 := by simpa using hh
  refine ⟨val 5, H1, ?_, j.put hlen (by omega) hn hd (.inl ⟨by omega, rfl, rfl⟩) (by rw [h7]; simp)⟩
  rw [jW rfl, v5]
  show Ex (iK env 161 (nth tm b undef) (nth tm (b + 2) undef)) _ _ _ _
  have n0 : nth tm b undef = .map mid := by have := nv 0 (by omega) (hd 0 (by simp [lI])); rw [v0] at this; exact this
  have l2 : listed.getD 2 false = true := hd 2 (by simp [lI])
  rw [n0, nv 2 (by omega) l2, v2, hh]; exact F3
 | 6, _ =>
  injection hi with hi; subst hi
  refine ⟨val 6, h, ?_, j.put hlen (by omega) hn hd (.inl ⟨by omega, rfl, rfl⟩) (by have := j.heap; simpa using this)⟩
  rw [jW rfl, v6]
  show Ex (extract (nth tm (b + 5) undef) 1) _ _ _ _
  rw [nv 5 (by omega) (hd 5 (by simp [lI])), v5]; exact Ex.pure
 | 7, _ =>
  injection hi with hi; subst hi
  have hh := j.heap
  rw [hn, hd 5 (by simp [lI])] at hh
  have hh : h = H1 := by simpa using hh
  refine ⟨undef, H2, ?_, j.put hlen (by omega) hn hd (.inr ⟨rfl, rfl⟩) (by simp)⟩
  rw [jW rfl]
  show Ex (gE (nth tm b undef) (nth tm (b + 6) undef) (nth tm (b + 4) undef)) _ _ _ _
  have n0 : nth tm b undef = .map mid := by have := nv 0 (by omega) (hd 0 (by simp [lI])); rw [v0] at this; exact this
  rw [n0, nv 6 (by omega) (hd 6 (by simp [lI])), nv 4 (by omega) (hd 4 (by simp [lI])), v6, v4, hh]; exact F4
theorem BQ (b mm cc ty : Nat) (pos : String) (id : Nat) (rnd : Option Nat) (hmm : mm < b ∨ b + 7 ≤ mm) (hcc : cc < b ∨ b + 7 ≤ cc)
  (hfa : ∀ x, fieldAddr env ty (.ptr x 0) 0 = M.pure (.ptr x 0)) :
  rZ env.P rnd (.region id (DO b mm cc ty pos) true) (pE mm cc [b, b + 1, b + 2, b + 3, b + 4, b + 5, b + 6]) := by
 intro tm e tm' s s' h ho ρ m w a o n Q hr hf ht hn hQ
 unfold pE at h
 split at h
 case h_2 => exact (aG h).elim
 rename_i mid hm
 split at h
 case h_2 => exact (aG h).elim
 rename_i x off hc
 split at h
 case h_2 => exact (aG h).elim
 rename_i hchk
 rw [Bool.and_eq_true] at hchk
 have hoff := Nat.eq_of_beq_eq_true hchk.1
 subst hoff
 have hlen : b + 7 ≤ tm.length := by
  have := List.all_eq_true.1 hchk.2 (b + 6) (by simp)
  have : b + 6 + 1 ≤ tm.length := Nat.le_of_ble_eq_true this
  omega
 obtain ⟨bx, s1, h1, h2⟩ := M.aM h
 obtain ⟨hg1, e1⟩ := dX h1
 obtain ⟨bm, s2, h3, h4⟩ := M.aM h2
 obtain ⟨hg2, e2⟩ := dX h3
 split at h4
 case h_2 => exact (aG h4).elim
 rename_i r hb1
 obtain ⟨_, s3, h5, h6⟩ := M.aM h4
 obtain ⟨he, rfl⟩ := aE h6
 injection he with q1 q2
 subst q1; subst q2
 obtain ⟨hlive, hn3, hset⟩ := nJ h5
 obtain ⟨cells, t, rfl, hcells, hp32, rfl, hl32⟩ := DN hb1
 obtain ⟨p, bb, l⟩ := r
 simp only at hcells hp32 hl32 hset hg2 hlive
 rw [e1.heap] at hg2
 have hmap : gH s.heap.get mid bb (l.map cv) := by unfold gH; rw [List.length_map]; exact hg2
 have hkey : ptA p = .agg (cells.take 33) := by rw [hcells]; rfl
 have F5 : Ex (load env 28 (.ptr x 0)) s.heap.get s.next (ptA p) s.heap.get := by
  have hl : 33 ≤ cells.length := by
   have : (cells.take 33).length = 33 := by rw [hcells]; exact bY hp32
   rw [List.length_take] at this; omega
  have := Row.agg (E := env) (n := s.next) (off := 0) (show Row s.heap.get x cells from ⟨t, hg1⟩) j3 rfl (by show 0 + 33 ≤ _; omega)
  rw [List.drop_zero] at this
  rw [hkey]
  exact .rd this
 have hpq : ∀ e ∈ l.map cv, bG env 28 (ptA p) e.1 = M.pure (isK (ptA p) e.1) := fun e he => by
  obtain ⟨y, hy, rfl⟩ := List.mem_map.1 he
  exact uE p y.1 hp32 (hl32 y hy)
 have main : ∃ (z0 st : Int) (H1 H2 : Hp), Ex (iS env 161 (.map mid) (ptA p) false) s.heap.get s.next (.int .i64 z0) s.heap.get ∧ Ex (iS env 161 (.map mid) (ptA p) false) H1 s.next (.int .i64 z0) H1 ∧
   Ex (iK env 161 (.map mid) (ptA p)) s.heap.get s.next (a9.tup [.int .i64 z0, .int .i64 st]) H1 ∧ Ex (gE (.map mid) (.int .i64 st) (.int .i64 (IntKind.i64.wrap (z0 + 1)))) H1 s.next undef H2 ∧
   gH H2 mid bb ((bump p l).map cv) ∧ ∀ j, j ≠ mid → H2 j = s.heap.get j := by
  have hat := xT (p := p) l 0
  have L0 := hmap.lookup (n := s.next) C9 (sI p hp32) hpq z3o
  cases hi : idxOf p l 0 with
  | some y =>
   obtain ⟨i, z⟩ := y
   rw [hi] at hat
   obtain ⟨_, hlt, hget⟩ := AX hi
   rw [Nat.sub_zero] at hlt hget
   rw [hat] at L0
   have w1 := hmap.GM (n := s.next) C9 (sI p hp32) hpq hat (fun e he => by
    rw [List.getElem?_map, hget] at he
    injection he with he
    rw [← he]; exact E3 p)
   obtain ⟨H2, w2, m2, k2⟩ := hmap.store (n := s.next) (i := i) (by rw [List.length_map]; exact hlt) (v := .int .i64 (IntKind.i64.wrap (z + 1)))
   refine ⟨z, _, s.heap.get, H2, .rd L0, .rd L0, .wr w1, .wr w2, ?_, k2⟩
   have e : (l.map cv).modify i (fun e => (e.1, a9.int .i64 (IntKind.i64.wrap (z + 1)))) = (bump p l).map cv := by
    unfold bump
    rw [hi]
    refine List.ext_getElem? fun q => ?_
    rw [List.getElem?_modify, List.getElem?_map, List.getElem?_map, List.getElem?_modify]
    cases l[q]? with
    | none => rfl
    | some y =>
     simp only [Option.map_some, Option.map_eq_map]
     by_cases c : i = q
     ·simp only [if_pos c]; rfl
     ·simp only [if_neg c]
   rw [← e]; exact m2
  | none =>
   rw [hi] at hat
   rw [hat] at L0
   obtain ⟨H1, w1, m1, k1⟩ := hmap.GN (n := s.next) C9 (sI p hp32) hpq hat z3o
   have hpq1 : ∀ e ∈ l.map cv ++ [(ptA p, a9.int .i64 0)], bG env 28 (ptA p) e.1 = M.pure (isK (ptA p) e.1) := fun e he => by
    rcases List.mem_append.1 he with he | he
    ·exact hpq e he
    ·rw [List.mem_singleton] at he
     subst he
     exact uE p p hp32 hp32
   have L1 := m1.lookup (n := s.next) C9 (sI p hp32) hpq1 z3o
   have hat1 : ∀ (q : List (a9 × a9)) (i : Nat), fC (isK (ptA p)) q i = none → fC (isK (ptA p)) (q ++ [(ptA p, a9.int .i64 0)]) i = some (i + q.length, .int .i64 0) := fun q => by
    induction q with
    | nil => intro i _; simp only [List.nil_append, fC, lS.2 rfl, if_pos, List.length_nil, Nat.add_zero]
    | cons y q ih =>
     intro i hq
     simp only [fC] at hq
     split at hq
     ·cases hq
     ·rename_i c
      simp only [List.cons_append, fC, if_neg c, ih (i + 1) hq, List.length_cons]
      rw [show i + 1 + q.length = i + (q.length + 1) by omega]
   rw [hat1 _ _ hat] at L1
   obtain ⟨H2, w2, m2, k2⟩ := m1.store (n := s.next) (i := (l.map cv).length) (by simp) (v := .int .i64 (IntKind.i64.wrap (0 + 1)))
   refine ⟨0, _, H1, H2, .rd L0, .rd L1, .wr w1, .wr w2, ?_, fun j hj => by rw [k2 j hj, k1 j hj]⟩
   have e : (l.map cv ++ [(ptA p, a9.int .i64 0)]).modify (l.map cv).length (fun e => (e.1, a9.int .i64 (IntKind.i64.wrap (0 + 1)))) = (bump p l).map cv := by
    unfold bump
    rw [hi, List.map_append]
    refine List.ext_getElem? fun q => ?_
    rw [List.getElem?_modify]
    by_cases c : q < (l.map cv).length
    ·rw [List.getElem?_append_left c, List.getElem?_append_left c]
     simp only [if_neg (show ¬ (l.map cv).length = q by omega)]; simp
    ·rw [List.getElem?_append_right (by omega), List.getElem?_append_right (by omega)]
     by_cases d : q = (l.map cv).length
     ·subst d
      simp [cv, show IntKind.i64.wrap 1 = 1 from rfl]
     ·rw [List.getElem?_eq_none (by simp only [List.length_cons, List.length_nil]; omega), List.getElem?_eq_none (by simp only [List.map_cons, List.map_nil, List.length_cons, List.length_nil]; omega)]; rfl
   rw [← e]; exact m2
 obtain ⟨z0, st, H1, H2, F1, F2, F3, F4, hm2, hk2⟩ := main
 have hH2 : s'.heap.get = H2 := by
  funext j
  rw [hset j]
  by_cases c : j = mid
  ·subst c
   rw [if_pos rfl]
   have := hm2
   unfold gH at this
   rw [this, List.length_map]
  ·rw [if_neg c, e2.heap, e1.heap, hk2 j c]
 have hnx : s'.next = s.next := by rw [hn3, e2.next, e1.next]
 let val : Nat → a9 := fun k => match k with
  | 0 => .map mid | 1 => .ptr x 0 | 2 => ptA p | 3 => .int .i64 z0 | 4 => .int .i64 (IntKind.i64.wrap (z0 + 1)) | 5 => a9.tup [.int .i64 z0, .int .i64 st] | _ => .int .i64 st
 have plan := GR (pos := pos) (n := s.next) (val := val) hmm hcc hlen hfa hm hc F1 F2 F3 F4 F5 rfl rfl rfl rfl rfl rfl rfl
 refine wpIn_region_any env.mixed (II (n := s.next) (J := J b tm val s.heap.get H1 H2) (pA (E := env)) plan rfl (ρ₀ := ρ) (m := m) (w₀ := w) (a₀ := a) (fun listed tm1 h1 a1 w1 ρ1 hall hj hr1 ht1 hle hnew hfr hd => ?_) 8 (Array.replicate 8 false) rfl (by simp) a _ ρ s.heap.get tm ?_ hr.drew ht (.refl ρ) (fun _ h => h) (.drew w) rfl)
 ·have hh := hj.heap
  rw [if_pos (hall 7 (show 7 < 8 by decide))] at hh
  subst hh
  refine hQ _ _ _ ρ1 [] ⟨?_, ?_, .normal, hd, .nil m, fun _ => rfl⟩
  ·rw [Mem.fX]
   exact ⟨hle, fun id q => .inl (hnew id q), fun _ _ h => h, by rw [hH2]; exact hr1, hfr, by rw [hnx]; exact Nat.le_refl _⟩
  ·rw [Mem.fX]
   refine JI ht1 (by rw [xR, hj.len]) fun i v hv => ?_
   rcases xS _ _ i v hv with q | ⟨q1, q2⟩
   ·exact .inl q
   ·refine .inr ?_
    rw [hj.rest i (by simp at q1; omega)]
    exact q2
 ·have none : ∀ k, ¬ ((Array.replicate 8 false).getD k false = true) := fun k => by
   by_cases hk : k < 8 <;> simp [Array.getD, hk]
  exact ⟨rfl, rfl, fun k _ q => absurd q (none k), fun _ _ => rfl, fun k q => absurd q (none k), by rw [if_neg (none 7), if_neg (none 5)]⟩
end Go.Am.Ytlgebaofkolkoaa.Ins
