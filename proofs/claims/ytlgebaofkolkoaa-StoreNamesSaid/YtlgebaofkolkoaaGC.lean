/- What the statement reaches, gone through; and the abstract machine that goes through it. -/
import Derived.Test.YtlgebaofkolkoaaGB
import Derived.KernelRfl
import Derived.Test.YtlgebaofkolkoaaProg
import Derived.Maps.RangeRun
set_option linter.unusedSimpArgs false
set_option linter.unusedVariables false
namespace Go.Am
open Go
variable {E : Env} {h : Hp} {n : Nat}
def gG (b : Nat) : List (a9 × a9) → List Ent
  | [] => []
  | e :: es => (e.1, e.2, b) :: gG (b + 1) es
theorem pY : ∀ (l : List (a9 × a9)) (b : Nat), (gG b l).length = l.length
  | [], _ => rfl
  | _ :: l, b => by simp [gG, pY l]
theorem xX : ∀ (l : List (a9 × a9)) (b i : Nat), (gG b l)[i]? = l[i]?.map fun e => (e.1, e.2, b + i)
  | [], _, _ => by simp [gG]
  | e :: l, b, 0 => by simp [gG]
  | e :: l, b, i + 1 => by
    simp only [gG, List.getElem?_cons_succ, xX l (b + 1) i]
    congr 1
    funext e
    rw [show b + 1 + i = b + (i + 1) by omega]
theorem xY : ∀ (l m : List (a9 × a9)) (b : Nat), gG b (l ++ m) = gG b l ++ gG (b + l.length) m
  | [], m, b => by simp [gG]
  | e :: l, m, b => by simp only [List.cons_append, gG, xY l m (b + 1), List.length_cons]; rw [show b + 1 + l.length = b + (l.length + 1) by omega]
theorem HI : ∀ (l : List (a9 × a9)) (b i j : Nat), i < l.length → sK ((b + i : Nat) : Int) (gG b l) j = some (j + i)
  | [], _, i, _, h => by simp at h
  | e :: l, b, 0, j, _ => by simp [gG, sK]
  | e :: l, b, i + 1, j, h => by
    have : ((b : Int) == ((b + (i + 1) : Nat) : Int)) = false := by
      rw [beq_eq_false_iff_ne]; omega
    simp only [gG, sK, this]
    have := HI l (b + 1) i (j + 1) (by simpa using h)
    rw [show b + (i + 1) = b + 1 + i by omega, this]
    congr 1; omega
theorem xW : ∀ (l : List (a9 × a9)) (b i : Nat) (v : a9), pG (gG b l) i v = gG b (l.modify i fun e => (e.1, v))
  | [], _, i, _ => by cases i <;> rfl
  | e :: l, b, 0, v => by simp [gG, pG]
  | e :: l, b, i + 1, v => by
    have := xW l (b + 1) i v
    simp only [pG] at this
    simp only [gG, pG, List.modify_succ_cons, this]
def eG (p : a9 → Bool) : List (a9 × a9) → Nat → Option (Nat × a9)
  | [], _ => none
  | e :: es, i => if p e.1 then some (i, e.2) else eG p es (i + 1)
theorem lU {kt : TypeId} {k : a9} {p : a9 → Bool} : ∀ (l : List (a9 × a9)) (b i : Nat), (∀ e ∈ l, aU E kt k e.1 = M.pure (p e.1)) → mM E kt k (gG b l) i = M.pure (eG p l i)
  | [], _, _, _ => rfl
  | e :: l, b, i, h => by
    simp only [gG, mM, h e (List.mem_cons_self ..), aB, eG]
    cases p e.1 with
    | true => simp
    | false => simp only [Bool.false_eq_true, if_false]; exact lU l (b + 1) (i + 1) fun e he => h e (List.mem_cons_of_mem _ he)
theorem yT {p : a9 → Bool} : ∀ {l : List (a9 × a9)} {i j : Nat} {v : a9}, eG p l i = some (j, v) → ∃ q k, j = i + q ∧ l[q]? = some (k, v) ∧ p k = true
  | [], _, _, _, h => by simp [eG] at h
  | e :: l, i, j, v, h => by
    simp only [eG] at h
    split at h
    · rename_i c
      injection h with h; injection h with h1 h2
      subst h1; subst h2
      exact ⟨0, e.1, rfl, rfl, c⟩
    · obtain ⟨q, k, h1, h2, h3⟩ := yT h
      exact ⟨q + 1, k, by omega, h2, h3⟩
section
variable {t kt et : TypeId} {k : a9} {p : a9 → Bool} {id b ck : Nat} {l : List (a9 × a9)}
def fR (h : Hp) (id b : Nat) (l : List (a9 × a9)) : Prop := h id = some (.map (gG b l) (b + l.length))
theorem fR.aS {h' : Hp} (m : fR h id b l) (hk : h' id = h id) : fR h' id b l := hk.trans m
theorem fR.lookup (m : fR h id b l) (ht : und E t = M.pure (.map kt et)) (hk : jE E 100 kt k = M.pure ()) (hp : ∀ e ∈ l, aU E kt k e.1 = M.pure (p e.1)) {z : a9} (hz : cE E et = M.pure z) :
    Rd (j9 E t (.map id) k false) h n [id] (((eG p l 0).map (·.2)).getD z) := by
  simp only [j9, ht, aB, FC, bind_assoc]
  have : Rd ((fT id).bind fun a => (lK (fun es _ => M.pure es) a).bind fun es => (jE E 100 kt k).bind fun _ => (mM E kt k es 0).bind fun r => match r with
      | some p => M.pure (okV false p.2 true)
      | none => (cE E et).bind fun z => M.pure (okV false z false)) h n ([] ++ [id]) (((eG p l 0).map (·.2)).getD z) := by
    refine Rd.bind (Rd.get m) ?_
    simp only [lK, aB, hk, lU l b 0 hp]
    cases eG p l 0 with
    | none => simp only [hz, aB]; exact Rd.pure _
    | some x => exact Rd.pure _
  exact this
theorem fR.J9 (m : fR h id b l) (ht : und E t = M.pure (.map kt et)) (hk : jE E 100 kt k = M.pure ()) (hp : ∀ e ∈ l, aU E kt k e.1 = M.pure (p e.1)) {i : Nat} {v : a9} (ha : eG p l 0 = some (i, v)) (hs : ∀ e, l[i]? = some e → jW e.1 k = true) :
    Wr (j8 E t (.map id) k) h n [id] [id] (a9.tup [v, .int .i64 ((b + i : Nat) : Int)]) h := by
  have hu : Go.Am.upd h id (some (.map (gG b l) (b + l.length))) = h := iX m
  obtain ⟨q, kk, e1, e2, e3⟩ := yT ha
  rw [Nat.zero_add] at e1
  subst e1
  have key : Wr ((fT id).bind (lK fun es ck => (jE E 100 kt k).bind fun _ => (mM E kt k es 0).bind fun r => match r with
        | some p => (dG "entry" es[p.1]?).bind fun e => match jW e.1 k with
          | true => (kM id (.map es ck)).bind fun _ => M.pure (a9.tup [p.2, .int .i64 e.2.2])
          | false => bF "a key that is not the same bit by bit"
        | none => (cE E et).bind fun z => (kM id (.map (es ++ [(k, z, ck)]) (ck + 1))).bind fun _ => M.pure (a9.tup [z, .int .i64 ck]))) h n ([] ++ [id]) [id] (a9.tup [v, .int .i64 ((b + i : Nat) : Int)]) (Go.Am.upd h id (some (.map (gG b l) (b + l.length)))) := by
    refine Wr.bind (Rd.get m) ?_
    simp only [lK, hk, aB, lU l b 0 hp, ha, xX, e2, Option.map_some, dG, hs _ e2]
    exact (Wr.set m).ret
  rw [hu] at key
  simp only [j8, ht, aB]
  exact key
theorem fR.JA (m : fR h id b l) (ht : und E t = M.pure (.map kt et)) (hk : jE E 100 kt k = M.pure ()) (hp : ∀ e ∈ l, aU E kt k e.1 = M.pure (p e.1)) (ha : eG p l 0 = none) {z : a9} (hz : cE E et = M.pure z) :
    ∃ h2, Wr (j8 E t (.map id) k) h n [id] [id] (a9.tup [z, .int .i64 ((b + l.length : Nat) : Int)]) h2 ∧ fR h2 id b (l ++ [(k, z)]) ∧ ∀ j, j ≠ id → h2 j = h j := by
  refine ⟨Go.Am.upd h id (some (.map (gG b l ++ [(k, z, b + l.length)]) (b + l.length + 1))), ?_, ?_, fun j hj => aG _ _ hj⟩
  · have key : Wr ((fT id).bind (lK fun es ck => (jE E 100 kt k).bind fun _ => (mM E kt k es 0).bind fun r => match r with
        | some p => (dG "entry" es[p.1]?).bind fun e => match jW e.1 k with
          | true => (kM id (.map es ck)).bind fun _ => M.pure (a9.tup [p.2, .int .i64 e.2.2])
          | false => bF "a key that is not the same bit by bit"
        | none => (cE E et).bind fun z => (kM id (.map (es ++ [(k, z, ck)]) (ck + 1))).bind fun _ => M.pure (a9.tup [z, .int .i64 ck]))) h n ([] ++ [id]) [id] (a9.tup [z, .int .i64 ((b + l.length : Nat) : Int)]) (Go.Am.upd h id (some (.map (gG b l ++ [(k, z, b + l.length)]) (b + l.length + 1)))) := by
      refine Wr.bind (Rd.get m) ?_
      simp only [lK, hk, aB, lU l b 0 hp, ha, hz]
      exact (Wr.set m).ret
    simp only [j8, ht, aB]
    exact key
  · unfold fR
    rw [aP, xY, List.length_append]
    rfl
theorem fR.store (m : fR h id b l) {i : Nat} (hi : i < l.length) {v : a9} :
    ∃ h2, Wr (iF (.map id) (.int .i64 ((b + i : Nat) : Int)) v) h n [id] [id] undef h2 ∧ fR h2 id b (l.modify i fun e => (e.1, v)) ∧ ∀ j, j ≠ id → h2 j = h j := by
  refine ⟨Go.Am.upd h id (some (.map (pG (gG b l) i v) (b + l.length))), ?_, ?_, fun j hj => aG _ _ hj⟩
  · show Wr _ h n ([] ++ [id]) [id] undef _
    simp only [iF]
    refine Wr.bind (Rd.get m) ?_
    simp only [lK, dC, HI l b i 0 hi, dG, aB, Nat.zero_add]
    exact (Wr.set m).ret
  · unfold fR
    rw [aP, xW, List.length_modify]
theorem fR.clear (m : fR h id b l) {ts : List TypeId} {t0 : TypeId} (ht : und E t0 = M.pure (.map kt et)) : ∃ h2, Wr (qF E (t0 :: ts) (.map id)) h n [id] [id] (a9.tup []) h2 ∧ fR h2 id (b + l.length) [] ∧ ∀ j, j ≠ id → h2 j = h j := by
  refine ⟨Go.Am.upd h id (some (.map [] (b + l.length))), ?_, aP _ _ _, fun j hj => aG _ _ hj⟩
  have : Wr ((fT id).bind (lK fun _ ck => (kM id (.map [] ck)).bind fun _ => M.pure (a9.tup []))) h n ([] ++ [id]) [id] (a9.tup []) (Go.Am.upd h id (some (.map [] (b + l.length)))) := by
    refine Wr.bind (Rd.get m) ?_
    simp only [lK]
    exact (Wr.set m).ret
  simp only [qF, ht, aB]
  exact this
end
end Go.Am
set_option linter.unusedSimpArgs false
set_option linter.unusedVariables false
namespace Go.Am
open Go
variable {E : Env} {h : Hp} {n : Nat}
theorem Rd.wr {m : M a9} {ids : List Nat} {v : a9} (r : Rd m h n ids v) : Wr m h n ids [] v h := by
 refine ⟨fun s hs => ?_⟩
 obtain ⟨s', o, e, a, b, c, d, w, g, q⟩ := r.r s hs
 exact ⟨s', o, e, by rw [a, hs.hp], b, c, d, w, g, q⟩
def Ex (m : M a9) (h : Hp) (n : Nat) (v : a9) (h' : Hp) : Prop := ∃ rs ws, Wr m h n rs ws v h'
theorem Ex.rd {m : M a9} {ids : List Nat} {v : a9} (r : Rd m h n ids v) : Ex m h n v h := ⟨_, _, r.wr⟩
theorem Ex.wr {m : M a9} {rs ws : List Nat} {v : a9} {h' : Hp} (r : Wr m h n rs ws v h') : Ex m h n v h' := ⟨_, _, r⟩
theorem Ex.pure {v : a9} : Ex (M.pure v) h n v h := .rd (.pure v)
theorem lD {rec : Rec} {ops : List Oper} {o : Oper} {tm : List a9} (hg : o.guard = none) : opV E rec ops o tm = execOp E rec tm o.op := by
 unfold opV wanted
 rw [hg]; rfl
section
variable {rec : Rec} {ops : Array Oper} {J : Array Bool → List a9 → Hp → Prop}
theorem LL (hrec : nY E.P rec)
  (hs : ∀ listed tm h, listed.size = ops.size → J listed tm h → ∀ i o, ops[i]? = some o → listed.getD i false = false → (∀ e ∈ o.after, Region.binds .any e = true → listed.getD e.on false = true) →
   ∃ v h', Ex (opV E rec ops.toList o tm) h n v h' ∧ J (listed.setIfInBounds i true) (bX tm o.dst v) h')
  (hback : tW 0 ops.toList = true)
  {ρ₀ : Ren} {m : Mem} {w₀ : World} {a₀ : Act} {ro : Option Nat} {nn : Nat} {Q : Exit → Act → World → Prop}
  (hQ : ∀ listed tm h a w ρ, (∀ k, k < ops.size → listed.getD k false = true) → J listed tm h → Rel E.P ρ m h w → RL ρ m tm a.tmps → iG ρ₀ ρ → (∀ id, ρ id ≠ none → ρ₀ id ≠ none) → Fr w₀ w → a.defers = a₀.defers → Q .normal a w) :
  ∀ (fuel : Nat) (listed : Array Bool), listed.size = ops.size → (listed.toList.filter (!·)).length ≤ fuel → ∀ a w ρ h tm, J listed tm h → Rel E.P ρ m h w → RL ρ m tm a.tmps → iG ρ₀ ρ → (∀ id, ρ id ≠ none → ρ₀ id ≠ none) → Fr w₀ w → a.defers = a₀.defers →
   wpAnyIn (Fw ro) nn E.P .any ops Q fuel listed a w := by
 intro fuel
 have lst : ∀ (listed : Array Bool), listed.size = ops.size → ∀ k, listed.getD k true = false ↔ (k < ops.size ∧ ¬ listed.getD k false = true) := by
  intro listed hsz k
  by_cases hk : k < ops.size
  ·have : k < listed.size := by omega
   simp [Array.getD, this, hk]
  ·have : ¬ k < listed.size := by omega
   simp [Array.getD, this, hk]
 have done : ∀ (listed : Array Bool), listed.size = ops.size → Region.ready .any ops listed = [] → ∀ k, k < ops.size → listed.getD k false = true := by
  intro listed hsz hr k
  induction k using Nat.strongRecOn with
  | _ k ih =>
   intro hk
   by_cases hl : listed.getD k false = true
   ·exact hl
   ·have ho : ops[k]? = some ops[k] := Array.getElem?_eq_getElem hk
    have : k ∈ Region.ready .any ops listed := mem_ready.2 ⟨(lst listed hsz k).2 ⟨hk, hl⟩, ops[k], ho, fun e he hb => by
     have := sL ops.toList 0 hback k ops[k] (by rw [Array.getElem?_toList]; exact ho) e he hb
     exact ih e.on (by omega) (by omega)⟩
    rw [hr] at this
    cases this
 induction fuel with
 | zero =>
  intro listed hsz hc a w ρ h tm hj hr ht hle hnew hfr hd
  have hr' : Region.ready .any ops listed = [] := by
   cases hr' : Region.ready .any ops listed with
   | nil => rfl
   | cons j l =>
    have hj : j ∈ Region.ready .any ops listed := by rw [hr']; exact List.mem_cons_self
    obtain ⟨h1, o, h2, _⟩ := mem_ready.1 hj
    have hj' := (lst listed hsz j).1 h1
    have hlt : j < listed.size := by omega
    have := sH listed.toList (by omega) j listed[j] (by simp [hlt])
    exfalso
    apply hj'.2
    simp [Array.getD, hlt, this]
  exact ⟨hr', hQ listed tm h a w ρ (done listed hsz hr') hj hr ht hle hnew hfr hd⟩
 | succ fuel ih =>
  intro listed hsz hc a w ρ h tm hj hr ht hle hnew hfr hd
  refine ⟨fun hr' => hQ listed tm h a w ρ (done listed hsz hr') hj hr ht hle hnew hfr hd, fun i hi => ?_⟩
  obtain ⟨h1, o, h2, h3⟩ := mem_ready.1 hi
  have hi' := (lst listed hsz i).1 h1
  unfold wpOpIn
  rw [h2]
  obtain ⟨v, h', ⟨rs, ws, hwr⟩, hj'⟩ := hs listed tm h hsz hj i o h2 (by simpa using hi'.2) h3
  obtain ⟨s', ob, e1, e2, e3, e4, e5, e6, e7, e8⟩ := hwr.r (at0 h n) (mQ h n)
  have hok : cF s' := by unfold cF; rw [e7]; simpa [at0] using e8
  have hnx : s'.next = n := e3
  refine B3 hrec e1 hok (s := at0 h n) hr (fun id hid => by
   have h1 : n ≤ id := hid.1
   have h2 : id < s'.next := hid.2
   omega) ht (fun x w' ρ' hpost hx => ?_)
  refine ih (listed.setIfInBounds i true) (by simpa using hsz) ?_ _ w' ρ' h' (bX tm o.dst v) hj' (by rw [← e2]; exact hpost.rel) (qO (ht.mono hpost.ren hpost.mle) o.dst hx) (fun id r q => hpost.ren id r (hle id r q)) (fun id q => ?_) (hfr.trans hpost.fr) (by rw [Act.mC, hd])
  ·have hlt : i < listed.size := by omega
   have hf : listed.toList[i]? = some false := by
    have : listed.getD i true = listed[i] := by simp [Array.getD, hlt]
    rw [this] at h1
    simp [hlt, h1]
   have := uR listed.toList i hf
   simp only [Array.toList_setIfInBounds]
   omega
  ·rcases hpost.new id q with q | q
   ·exact hnew id q
   ·have h1 : n ≤ id := q.1
    have h2 : id < s'.next := q.2
    omega
end
set_option linter.defProp false
def gE := (And.intro @execOp.eq_1 (And.intro @execOp.eq_2 (And.intro @execOp.eq_3 (And.intro @execOp.eq_4 (And.intro @execOp.eq_5 (And.intro @execOp.eq_6 (And.intro @execOp.eq_7 (And.intro @execOp.eq_8 (And.intro @execOp.eq_9 (And.intro @execOp.eq_10 (And.intro @execOp.eq_11 (And.intro @execOp.eq_12 (And.intro @execOp.eq_13 (And.intro @execOp.eq_14 (And.intro @execOp.eq_15 (And.intro @execOp.eq_16 (And.intro @execOp.eq_17 (And.intro @execOp.eq_18 (And.intro @execOp.eq_19 (And.intro @execOp.eq_20 (And.intro @execOp.eq_21 (And.intro @execOp.eq_22 (And.intro @execOp.eq_23 (And.intro @execOp.eq_24 (And.intro @execOp.eq_25 (And.intro @execOp.eq_26 (And.intro @execOp.eq_27 (And.intro @execOp.eq_28 (And.intro @execOp.eq_29 (And.intro @execOp.eq_30 (And.intro @execOp.eq_31 (And.intro @execOp.eq_32 (And.intro @execOp.eq_33 (And.intro @execOp.eq_34 (And.intro @opd.eq_1 (And.intro @opd.eq_2 (And.intro @opd.eq_3 (And.intro @opd.eq_4 (And.intro @dY.eq_1 (And.intro @dY.eq_2 (And.intro @ofValue.eq_1 (And.intro @ofValue.eq_2 (And.intro @ofValue.eq_3 (And.intro @ofValue.eq_4 (And.intro @ofValue.eq_5 (And.intro @ofValue.eq_6 (And.intro @ofValue.eq_7 (And.intro @ofValue.eq_8 (And.intro @ofValue.eq_9 (And.intro @ofValue.eq_10 (And.intro @ofValue.eq_11 (And.intro @dF.eq_1 (And.intro @ofList.eq_1 (And.intro @ofList.eq_2 (And.intro @eV.eq_1 (And.intro @eV.eq_2 (And.intro @bX.eq_1 (And.intro @bX.eq_2 (And.intro @put.eq_1 (And.intro @put.eq_2 (And.intro @put.eq_3 (And.intro @nth.eq_1 (And.intro @nth.eq_2 (And.intro @nth.eq_3 (And.intro @aE.eq_1 (And.intro @aE.eq_2 (And.intro @aE.eq_3 (And.intro @aE.eq_4 (And.intro @cJ.eq_1 (And.intro @eX.eq_1 (And.intro @eX.eq_2 (And.intro @eW.eq_1 (And.intro @eW.eq_2 (And.intro @dH.eq_1 (And.intro @dH.eq_2 (And.intro @und.eq_1 (And.intro @sizeOf.eq_1 (And.intro @cE.eq_1 (And.intro @intOp.eq_1 (And.intro @intOp.eq_2 (And.intro @intOp.eq_3 (And.intro @intOp.eq_4 (And.intro @intOp.eq_5 (And.intro @intOp.eq_6 (And.intro @intOp.eq_7 (And.intro @intOp.eq_8 (And.intro @intOp.eq_9 (And.intro @intOp.eq_10 (And.intro @intOp.eq_11 (And.intro @intOp.eq_12 (And.intro @intOp.eq_13 (And.intro @intOp.eq_14 (And.intro @intOp.eq_15 (And.intro @intOp.eq_16 (And.intro @intOp.eq_17 (And.intro @cK.eq_1 (And.intro @cK.eq_2 (And.intro @cM.eq_1 (And.intro @cM.eq_2 (And.intro @cM.eq_3 (And.intro @eI.eq_1 (And.intro @eI.eq_2 (And.intro @dC.eq_1 (And.intro @dC.eq_2 (And.intro @branch.eq_1 (And.intro @branch.eq_2 (And.intro @branch.eq_3 (And.intro @nilCheck.eq_1 (And.intro @nilCheck.eq_2 (And.intro @nilCheck.eq_3 (And.intro @nilCheck.eq_4 (And.intro @nilCheck.eq_5 (And.intro @nilCheck.eq_6 (And.intro @extract.eq_1 (And.intro @extract.eq_2 (And.intro @dG.eq_1 (And.intro @dG.eq_2 (And.intro @dJ.eq_1 (And.intro @bL.eq_1 (And.intro @bL.eq_2 (And.intro @bL.eq_3 (And.intro @bO.eq_1 (And.intro @bO.eq_2 (And.intro @fieldAddr.eq_1 (And.intro @field.eq_1 (And.intro @bP (And.intro @aN (And.intro @cQ (And.intro @bC (And.intro @List.getElem?_cons_succ.{0} (And.intro @List.getElem?_cons_zero.{0} (And.intro @List.append_eq.{0} (And.intro @List.cons_append.{0} (And.intro @List.nil_append.{0} (And.intro @List.append_nil.{0} (And.intro @List.length_cons.{0} (And.intro @List.length_nil.{0} (And.intro @not_true_eq_false (And.intro @not_false_eq_true (And.intro @decide_true (And.intro @decide_false (And.intro @Bool.not_true (And.intro @Bool.not_false (And.intro @Bool.and_true (And.intro @Bool.true_and (And.intro @Bool.and_false (And.intro @Bool.false_and (And.intro @Bool.or_true (And.intro @Bool.true_or (And.intro @Bool.or_false (And.intro @Bool.false_or (And.intro @and_true (And.intro @true_and (And.intro @and_self (And.intro @nc0 (And.intro @nc1 (And.intro @cC (And.intro @cB (And.intro @cA (And.intro @Nat.zero_add (And.intro @Nat.add_zero (And.intro @Int.toNat_zero (And.intro @Nat.zero_mul (And.intro @aM (And.intro @beq_self_eq_true.{0} (And.intro @bne_self_eq_false.{0} (And.intro @jG (And.intro @lO (And.intro @kE (And.intro @jA (And.intro @kD (And.intro @oM (And.intro @oP (And.intro @oN (And.intro @oO (And.intro @oL (And.intro @lN (And.intro @oK (And.intro @kB @kC)))))))))))))))))))))))))))))))))))))))))))))))))))))))))))))))))))))))))))))))))))))))))))))))))))))))))))))))))))))))))))))))))))))))))))))))))))))))))))))))))))))))))))))))))))
def gF := (And.intro @yJ (And.intro @yI (And.intro @yH (And.intro @yG (And.intro @yF (And.intro @yE (And.intro @yM (And.intro @yL (And.intro @yD (And.intro @yK (And.intro @O7 (And.intro @O8 (And.intro @OA (And.intro @O9 (And.intro @List.all_cons.{0} (And.intro @List.all_nil.{0} (And.intro @Bool.not_false (And.intro @Bool.true_or (And.intro @Bool.and_true @Bool.true_and)))))))))))))))))))
end Go.Am
set_option maxRecDepth 100000
set_option linter.defProp false
namespace Go.Am.Ytlgebaofkolkoaa.Ins
open Go Go.Am Go.Proofs
noncomputable def ty2 : TE Try.prog := ⟨2, ⟨Try.t2.desc, 1, 8, .int .i64 (0)⟩, ⟨⟨Try.t2, _, rfl, rfl, rfl, rfl, rfl⟩, rfl, rfl, Try.underlying2⟩⟩
noncomputable def ty3 : TE Try.prog := ⟨3, ⟨Try.t3.desc, 1, 8, .int .i64 (0)⟩, ⟨⟨Try.t3, _, rfl, rfl, rfl, rfl, rfl⟩, rfl, rfl, Try.underlying3⟩⟩
noncomputable def ty4 : TE Try.prog := ⟨4, ⟨Try.t4.desc, 1, 1, .bool false⟩, ⟨⟨Try.t4, _, rfl, rfl, rfl, rfl, rfl⟩, rfl, rfl, Try.underlying4⟩⟩
noncomputable def ty5 : TE Try.prog := ⟨5, ⟨Try.t5.desc, 1, 1, .int .u8 (0)⟩, ⟨⟨Try.t5, _, rfl, rfl, rfl, rfl, rfl⟩, rfl, rfl, Try.underlying5⟩⟩
noncomputable def ty9 : TE Try.prog := ⟨9, ⟨Try.t9.desc, 1, 16, .str []⟩, ⟨⟨Try.t9, _, rfl, rfl, rfl, rfl, rfl⟩, rfl, rfl, Try.underlying9⟩⟩
noncomputable def TY : TE Try.prog := ⟨12, ⟨Try.t12.desc, 1, 8, .int .u64 (0)⟩, ⟨⟨Try.t12, _, rfl, rfl, rfl, rfl, rfl⟩, rfl, rfl, Try.underlying12⟩⟩
noncomputable def TX : TE Try.prog := ⟨17, ⟨Try.t17.desc, 1, 8, .dP⟩, ⟨⟨Try.t17, _, rfl, rfl, rfl, rfl, rfl⟩, rfl, rfl, Try.underlying17⟩⟩
noncomputable def TW : TE Try.prog := ⟨21, ⟨Try.t21.desc, 1, 4, .int .i32 (0)⟩, ⟨⟨Try.t21, _, rfl, rfl, rfl, rfl, rfl⟩, rfl, rfl, Try.underlying21⟩⟩
noncomputable def TV : TE Try.prog := ⟨22, ⟨Try.t22.desc, 1, 8, .dP⟩, ⟨⟨Try.t22, _, rfl, rfl, rfl, rfl, rfl⟩, rfl, rfl, Try.underlying22⟩⟩
noncomputable def TU : TE Try.prog := ⟨24, ⟨Try.t24.desc, 32, 32, .agg (l8 [(32, .int .u8 (0))])⟩, ⟨⟨Try.t24, _, rfl, rfl, rfl, rfl, rfl⟩, rfl, rfl, Try.underlying24⟩⟩
noncomputable def EA : TE Try.prog := ⟨25, ⟨Try.t24.desc, 32, 32, .agg (l8 [(32, .int .u8 (0))])⟩, ⟨⟨Try.t25, _, rfl, rfl, rfl, rfl, rfl⟩, rfl, rfl, Try.underlying25⟩⟩
noncomputable def TS : TE Try.prog := ⟨26, ⟨Try.t26.desc, 1, 4, .int .u32 (0)⟩, ⟨⟨Try.t26, _, rfl, rfl, rfl, rfl, rfl⟩, rfl, rfl, Try.underlying26⟩⟩
noncomputable def TR : TE Try.prog := ⟨27, ⟨Try.t27.desc, 33, 36, .agg (l8 [(32, .int .u8 (0)), (1, .int .u32 (0))])⟩, ⟨⟨Try.t27, _, rfl, rfl, rfl, rfl, rfl⟩, rfl, rfl, Try.underlying27⟩⟩
noncomputable def HT : TE Try.prog := ⟨28, ⟨Try.t27.desc, 33, 36, .agg (l8 [(32, .int .u8 (0)), (1, .int .u32 (0))])⟩, ⟨⟨Try.t28, _, rfl, rfl, rfl, rfl, rfl⟩, rfl, rfl, Try.underlying28⟩⟩
noncomputable def TQ : TE Try.prog := ⟨29, ⟨Try.t29.desc, 1, 24, .aV⟩, ⟨⟨Try.t29, _, rfl, rfl, rfl, rfl, rfl⟩, rfl, rfl, Try.underlying29⟩⟩
noncomputable def TP : TE Try.prog := ⟨30, ⟨Try.t30.desc, 70, 128, .agg (l8 [(32, .int .u8 (0)), (1, .int .u32 (0)), (2, .int .i64 (0)), (1, .aV), (1, .bool false), (1, .int .i64 (0)), (32, .int .u8 (0))])⟩, ⟨⟨Try.t30, _, rfl, rfl, rfl, rfl, rfl⟩, rfl, rfl, Try.underlying30⟩⟩
noncomputable def fX : TE Try.prog := ⟨31, ⟨Try.t30.desc, 70, 128, .agg (l8 [(32, .int .u8 (0)), (1, .int .u32 (0)), (2, .int .i64 (0)), (1, .aV), (1, .bool false), (1, .int .i64 (0)), (32, .int .u8 (0))])⟩, ⟨⟨Try.t31, _, rfl, rfl, rfl, rfl, rfl⟩, rfl, rfl, Try.underlying31⟩⟩
noncomputable def TO : TE Try.prog := ⟨32, ⟨Try.t3.desc, 1, 8, .int .i64 (0)⟩, ⟨⟨Try.t32, _, rfl, rfl, rfl, rfl, rfl⟩, rfl, rfl, Try.underlying32⟩⟩
noncomputable def TN : TE Try.prog := ⟨36, ⟨Try.t36.desc, 1, 24, .aV⟩, ⟨⟨Try.t36, _, rfl, rfl, rfl, rfl, rfl⟩, rfl, rfl, Try.underlying36⟩⟩
noncomputable def TL : TE Try.prog := ⟨40, ⟨Try.t40.desc, 2, 32, .agg [.aV, .int .i64 (0)]⟩, ⟨⟨Try.t40, _, rfl, rfl, rfl, rfl, rfl⟩, rfl, rfl, Try.underlying40⟩⟩
noncomputable def PR : TE Try.prog := ⟨41, ⟨Try.t40.desc, 2, 32, .agg [.aV, .int .i64 (0)]⟩, ⟨⟨Try.t41, _, rfl, rfl, rfl, rfl, rfl⟩, rfl, rfl, Try.underlying41⟩⟩
noncomputable def TK : TE Try.prog := ⟨43, ⟨Try.t43.desc, 1, 24, .aV⟩, ⟨⟨Try.t43, _, rfl, rfl, rfl, rfl, rfl⟩, rfl, rfl, Try.underlying43⟩⟩
noncomputable def TJ : TE Try.prog := ⟨44, ⟨Try.t44.desc, 1, 24, .aV⟩, ⟨⟨Try.t44, _, rfl, rfl, rfl, rfl, rfl⟩, rfl, rfl, Try.underlying44⟩⟩
noncomputable def TG : TE Try.prog := ⟨45, ⟨Try.t45.desc, 37, 104, .agg (l8 [(1, .int .i64 (0)), (32, .int .u8 (0)), (2, .aV), (2, .int .i64 (0))])⟩, ⟨⟨Try.t45, _, rfl, rfl, rfl, rfl, rfl⟩, rfl, rfl, Try.underlying45⟩⟩
noncomputable def TF : TE Try.prog := ⟨46, ⟨Try.t45.desc, 37, 104, .agg (l8 [(1, .int .i64 (0)), (32, .int .u8 (0)), (2, .aV), (2, .int .i64 (0))])⟩, ⟨⟨Try.t46, _, rfl, rfl, rfl, rfl, rfl⟩, rfl, rfl, Try.underlying46⟩⟩
noncomputable def TD : TE Try.prog := ⟨47, ⟨Try.t47.desc, 65, 68, .agg (l8 [(32, .int .u8 (0)), (1, .int .u32 (0)), (32, .int .u8 (0))])⟩, ⟨⟨Try.t47, _, rfl, rfl, rfl, rfl, rfl⟩, rfl, rfl, Try.underlying47⟩⟩
noncomputable def C7 : TE Try.prog := ⟨48, ⟨Try.t47.desc, 65, 68, .agg (l8 [(32, .int .u8 (0)), (1, .int .u32 (0)), (32, .int .u8 (0))])⟩, ⟨⟨Try.t48, _, rfl, rfl, rfl, rfl, rfl⟩, rfl, rfl, Try.underlying48⟩⟩
noncomputable def TC : TE Try.prog := ⟨56, ⟨Try.t56.desc, 1, 8, .dP⟩, ⟨⟨Try.t56, _, rfl, rfl, rfl, rfl, rfl⟩, rfl, rfl, Try.underlying56⟩⟩
noncomputable def PQ : TE Try.prog := ⟨57, ⟨Try.t57.desc, 1, 24, .aV⟩, ⟨⟨Try.t57, _, rfl, rfl, rfl, rfl, rfl⟩, rfl, rfl, Try.underlying57⟩⟩
noncomputable def TB : TE Try.prog := ⟨58, ⟨Try.t58.desc, 2, 32, .agg [.dP, .aV]⟩, ⟨⟨Try.t58, _, rfl, rfl, rfl, rfl, rfl⟩, rfl, rfl, Try.underlying58⟩⟩
noncomputable def TA : TE Try.prog := ⟨59, ⟨Try.t58.desc, 2, 32, .agg [.dP, .aV]⟩, ⟨⟨Try.t59, _, rfl, rfl, rfl, rfl, rfl⟩, rfl, rfl, Try.underlying59⟩⟩
noncomputable def T9 : TE Try.prog := ⟨60, ⟨Try.t60.desc, 37, 72, .agg (l8 [(1, .int .i64 (0)), (32, .int .u8 (0)), (4, .int .i64 (0))])⟩, ⟨⟨Try.t60, _, rfl, rfl, rfl, rfl, rfl⟩, rfl, rfl, Try.underlying60⟩⟩
noncomputable def uD : TE Try.prog := ⟨61, ⟨Try.t60.desc, 37, 72, .agg (l8 [(1, .int .i64 (0)), (32, .int .u8 (0)), (4, .int .i64 (0))])⟩, ⟨⟨Try.t61, _, rfl, rfl, rfl, rfl, rfl⟩, rfl, rfl, Try.underlying61⟩⟩
noncomputable def T8 : TE Try.prog := ⟨95, ⟨Try.t95.desc, 1, 24, .aV⟩, ⟨⟨Try.t95, _, rfl, rfl, rfl, rfl, rfl⟩, rfl, rfl, Try.underlying95⟩⟩
noncomputable def T7 : TE Try.prog := ⟨96, ⟨Try.t96.desc, 1, 8, .dI⟩, ⟨⟨Try.t96, _, rfl, rfl, rfl, rfl, rfl⟩, rfl, rfl, Try.underlying96⟩⟩
noncomputable def T6 : TE Try.prog := ⟨97, ⟨Try.t97.desc, 2, 32, .agg [.aV, .dI]⟩, ⟨⟨Try.t97, _, rfl, rfl, rfl, rfl, rfl⟩, rfl, rfl, Try.underlying97⟩⟩
noncomputable def T5 : TE Try.prog := ⟨98, ⟨Try.t97.desc, 2, 32, .agg [.aV, .dI]⟩, ⟨⟨Try.t98, _, rfl, rfl, rfl, rfl, rfl⟩, rfl, rfl, Try.underlying98⟩⟩
noncomputable def T4 : TE Try.prog := ⟨99, ⟨Try.t99.desc, 5, 72, .agg [.bool false, .aV, .dI, .aV, .dI]⟩, ⟨⟨Try.t99, _, rfl, rfl, rfl, rfl, rfl⟩, rfl, rfl, Try.underlying99⟩⟩
noncomputable def K3 : TE Try.prog := ⟨100, ⟨Try.t99.desc, 5, 72, .agg [.bool false, .aV, .dI, .aV, .dI]⟩, ⟨⟨Try.t100, _, rfl, rfl, rfl, rfl, rfl⟩, rfl, rfl, Try.underlying100⟩⟩
noncomputable def Y5 : TE Try.prog := ⟨104, ⟨Try.t104.desc, 40, 128, .agg (l8 [(2, .int .i64 (0)), (32, .int .u8 (0)), (2, .aV), (2, .int .i64 (0)), (1, .bool false), (1, .int .i64 (0))])⟩, ⟨⟨Try.t104, _, rfl, rfl, rfl, rfl, rfl⟩, rfl, rfl, Try.underlying104⟩⟩
noncomputable def K2 : TE Try.prog := ⟨115, ⟨Try.t115.desc, 1, 8, .lJ⟩, ⟨⟨Try.t115, _, rfl, rfl, rfl, rfl, rfl⟩, rfl, rfl, Try.underlying115⟩⟩
noncomputable def oV : TE Try.prog := ⟨128, ⟨Try.t128.desc, 1, 8, .dP⟩, ⟨⟨Try.t128, _, rfl, rfl, rfl, rfl, rfl⟩, rfl, rfl, Try.underlying128⟩⟩
noncomputable def K1 : TE Try.prog := ⟨147, ⟨Try.t147.desc, 1, 24, .aV⟩, ⟨⟨Try.t147, _, rfl, rfl, rfl, rfl, rfl⟩, rfl, rfl, Try.underlying147⟩⟩
noncomputable def K0 : TE Try.prog := ⟨161, ⟨Try.t161.desc, 1, 8, .lJ⟩, ⟨⟨Try.t161, _, rfl, rfl, rfl, rfl, rfl⟩, rfl, rfl, Try.underlying161⟩⟩
noncomputable def JZ : TE Try.prog := ⟨176, ⟨Try.t5.desc, 1, 1, .int .u8 (0)⟩, ⟨⟨Try.t176, _, rfl, rfl, rfl, rfl, rfl⟩, rfl, rfl, Try.underlying176⟩⟩
noncomputable def JY : TE Try.prog := ⟨177, ⟨Try.t5.desc, 1, 1, .int .u8 (0)⟩, ⟨⟨Try.t177, _, rfl, rfl, rfl, rfl, rfl⟩, rfl, rfl, Try.underlying177⟩⟩
noncomputable def JX : TE Try.prog := ⟨178, ⟨Try.t178.desc, 1, 8, .dI⟩, ⟨⟨Try.t178, _, rfl, rfl, rfl, rfl, rfl⟩, rfl, rfl, Try.underlying178⟩⟩
noncomputable def JW : TE Try.prog := ⟨179, ⟨Try.t179.desc, 1, 8, .dP⟩, ⟨⟨Try.t179, _, rfl, rfl, rfl, rfl, rfl⟩, rfl, rfl, Try.underlying179⟩⟩
noncomputable def JV : TE Try.prog := ⟨180, ⟨Try.t21.desc, 1, 4, .int .i32 (0)⟩, ⟨⟨Try.t180, _, rfl, rfl, rfl, rfl, rfl⟩, rfl, rfl, Try.underlying180⟩⟩
noncomputable def JU : TE Try.prog := ⟨181, ⟨Try.t21.desc, 1, 4, .int .i32 (0)⟩, ⟨⟨Try.t181, _, rfl, rfl, rfl, rfl, rfl⟩, rfl, rfl, Try.underlying181⟩⟩
noncomputable def JT : TE Try.prog := ⟨182, ⟨Try.t182.desc, 11, 48, .agg [.int .u64 (0), .int .u64 (0), .int .u32 (0), .int .u8 (0), .int .u8 (0), .int .u8 (0), .int .u8 (0), .dI, .dP, .int .i32 (0), .int .i32 (0)]⟩, ⟨⟨Try.t182, _, rfl, rfl, rfl, rfl, rfl⟩, rfl, rfl, Try.underlying182⟩⟩
noncomputable def JS : TE Try.prog := ⟨183, ⟨Try.t182.desc, 11, 48, .agg [.int .u64 (0), .int .u64 (0), .int .u32 (0), .int .u8 (0), .int .u8 (0), .int .u8 (0), .int .u8 (0), .dI, .dP, .int .i32 (0), .int .i32 (0)]⟩, ⟨⟨Try.t183, _, rfl, rfl, rfl, rfl, rfl⟩, rfl, rfl, Try.underlying183⟩⟩
noncomputable def EX : FE Try.prog := ⟨17, ⟨Try.f17.body.getD .skip, 85, [.tmp 6, .tmp 7], some (rle true [3, 3, 2, 1, 2, 1, 6, 7, 1, 7, 4, 19, 1, 1, 1, 1, 1, 11, 1, 12])⟩, ⟨⟨Try.f17, Try.func17, rfl, rfl, rfl⟩, Try.call17⟩⟩
noncomputable def R3 : FE Try.prog := ⟨20, ⟨Try.f20.body.getD .skip, 11, [.tmp 2], some (rle true [1, 1, 1, 1, 1, 6])⟩, ⟨⟨Try.f20, Try.func20, rfl, rfl, rfl⟩, Try.call20⟩⟩
noncomputable def xO : FE Try.prog := ⟨63, ⟨Try.f63.body.getD .skip, 18, [.tmp 2], some (rle true [1, 1, 2, 1, 5, 4, 1, 3])⟩, ⟨⟨Try.f63, Try.func63, rfl, rfl, rfl⟩, Try.call63⟩⟩
noncomputable def D8 : FE Try.prog := ⟨64, ⟨Try.f64.body.getD .skip, 20, [.tmp 4], some (rle true [2, 2, 3, 4, 3, 2, 1, 2, 1])⟩, ⟨⟨Try.f64, Try.func64, rfl, rfl, rfl⟩, Try.call64⟩⟩
noncomputable def IY : FE Try.prog := ⟨65, ⟨Try.f65.body.getD .skip, 8, [.tmp 4], some (rle true [2, 2, 1, 3])⟩, ⟨⟨Try.f65, Try.func65, rfl, rfl, rfl⟩, Try.call65⟩⟩
noncomputable def zI : FE Try.prog := ⟨66, ⟨Try.f66.body.getD .skip, 12, [.tmp 2], some (rle true [1, 1, 1, 9])⟩, ⟨⟨Try.f66, Try.func66, rfl, rfl, rfl⟩, Try.call66⟩⟩
noncomputable def IX : FE Try.prog := ⟨97, ⟨Try.f97.body.getD .skip, 6, [.tmp 2], some (rle true [1, 1, 1, 3])⟩, ⟨⟨Try.f97, Try.func97, rfl, rfl, rfl⟩, Try.call97⟩⟩
noncomputable def IW : FE Try.prog := ⟨98, ⟨Try.f98.body.getD .skip, 8, [.tmp 4], some (rle true [2, 2, 1, 3])⟩, ⟨⟨Try.f98, Try.func98, rfl, rfl, rfl⟩, Try.call98⟩⟩
noncomputable def A7 : FE Try.prog := ⟨104, ⟨Try.f104.body.getD .skip, 95, [.tmp 6], some (rle true [3, 3, 4, 6, 1, 5, 1, 8, 1, 36, 1, 26])⟩, ⟨⟨Try.f104, Try.func104, rfl, rfl, rfl⟩, Try.call104⟩⟩
noncomputable def NA : FE Try.prog := ⟨108, ⟨Try.f108.body.getD .skip, 8, [.tmp 4], some (rle true [2, 2, 1, 3])⟩, ⟨⟨Try.f108, Try.func108, rfl, rfl, rfl⟩, Try.call108⟩⟩
noncomputable def MZ : u0 Try.prog := ⟨112, dR, mU Try.func112 (by kernel_rfl) (by kernel_rfl) (by kernel_rfl) (by kernel_rfl)⟩
noncomputable def MY : u0 Try.prog := ⟨115, (iE 128), sS (tS := 95) (tR := 4) (e := 128) (size := 1) Try.func115 (by kernel_rfl) (by kernel_rfl) (by kernel_rfl) (by kernel_rfl) Try.underlying95 (fun w => oV.ok.dZ) (fun h => TypeDesc.noConfusion (Option.some.inj (Try.underlying128.symm.trans h)))⟩
noncomputable def MX : u0 Try.prog := ⟨119, dR, mU Try.func119 (by kernel_rfl) (by kernel_rfl) (by kernel_rfl) (by kernel_rfl)⟩
noncomputable def eqs : List (QE Try.prog) := [⟨25, by kernel_rfl, by kernel_rfl⟩, ⟨28, by kernel_rfl, by kernel_rfl⟩, ⟨61, by kernel_rfl, by kernel_rfl⟩]
noncomputable def env : Env := { P := Try.prog, GK := by kernel_rfl, types := (.node 48 (.node 28 (.node 17 (.node 5 (.node 3 (.leaf ty2) (.node 4 (.leaf ty3) (.leaf ty4))) (.node 9 (.leaf ty5) (.node 12 (.leaf ty9) (.leaf TY)))) (.node 24 (.node 21 (.leaf TX) (.node 22 (.leaf TW) (.leaf TV))) (.node 26 (.node 25 (.leaf TU) (.leaf EA)) (.node 27 (.leaf TS) (.leaf TR))))) (.node 40 (.node 31 (.node 29 (.leaf HT) (.node 30 (.leaf TQ) (.leaf TP))) (.node 32 (.leaf fX) (.node 36 (.leaf TO) (.leaf TN)))) (.node 44 (.node 41 (.leaf TL) (.node 43 (.leaf PR) (.leaf TK))) (.node 46 (.node 45 (.leaf TJ) (.leaf TG)) (.node 47 (.leaf TF) (.leaf TD)))))) (.node 104 (.node 61 (.node 58 (.node 56 (.leaf C7) (.node 57 (.leaf TC) (.leaf PQ))) (.node 59 (.leaf TB) (.node 60 (.leaf TA) (.leaf T9)))) (.node 97 (.node 95 (.leaf uD) (.node 96 (.leaf T8) (.leaf T7))) (.node 99 (.node 98 (.leaf T6) (.leaf T5)) (.node 100 (.leaf T4) (.leaf K3))))) (.node 177 (.node 147 (.node 115 (.leaf Y5) (.node 128 (.leaf K2) (.leaf oV))) (.node 161 (.leaf K1) (.node 176 (.leaf K0) (.leaf JZ)))) (.node 180 (.node 178 (.leaf JY) (.node 179 (.leaf JX) (.leaf JW))) (.node 182 (.node 181 (.leaf JV) (.leaf JU)) (.node 183 (.leaf JT) (.leaf JS))))))), funcs := (.node 66 (.node 63 (.node 20 (.leaf EX) (.leaf R3)) (.node 64 (.leaf xO) (.node 65 (.leaf D8) (.leaf IY)))) (.node 98 (.node 97 (.leaf zI) (.leaf IX)) (.node 104 (.leaf IW) (.node 108 (.leaf A7) (.leaf NA))))), xL := [MZ, MY, MX], eqs := eqs }
theorem HK (f : Nat) (h : (env.xL.all fun x => !(x.f.beq f)) = true) : ∀ args : List a9, gX env (aY env) f args = bM env (aY env) f args := fun _ => EW f h
theorem NB (f : Nat) (h : (env.jR.all fun x => !(x.fn.beq f)) = true) : ∀ k, kP env.jR f k = true := MF f h
abbrev FI (k : Nat) (f : FE Try.prog) : Prop := (env.funcs.find k).i = f.i
abbrev FF (k : Nat) : Prop := (env.funcs.find k).f.beq k = true
theorem ti2 : ti env 2 = M.pure ⟨Go.TypeDesc.int (Go.IntKind.i64), 1, 8, .int .i64 (0)⟩ := rfl
theorem ti3 : ti env 3 = M.pure ⟨Go.TypeDesc.int (Go.IntKind.i64), 1, 8, .int .i64 (0)⟩ := rfl
theorem ti4 : ti env 4 = M.pure ⟨Go.TypeDesc.bool, 1, 1, .bool false⟩ := rfl
theorem ti5 : ti env 5 = M.pure ⟨Go.TypeDesc.int (Go.IntKind.u8), 1, 1, .int .u8 (0)⟩ := rfl
theorem ti9 : ti env 9 = M.pure ⟨Go.TypeDesc.string, 1, 16, .str []⟩ := rfl
theorem UE : ti env 12 = M.pure ⟨Go.TypeDesc.int (Go.IntKind.u64), 1, 8, .int .u64 (0)⟩ := rfl
theorem UD : ti env 17 = M.pure ⟨Go.TypeDesc.pointer 183, 1, 8, .dP⟩ := rfl
theorem UC : ti env 21 = M.pure ⟨Go.TypeDesc.int (Go.IntKind.i32), 1, 4, .int .i32 (0)⟩ := rfl
theorem HX : ti env 22 = M.pure ⟨Go.TypeDesc.pointer 59, 1, 8, .dP⟩ := rfl
theorem UB : ti env 24 = M.pure ⟨Go.TypeDesc.array 32 5, 32, 32, .agg [.int .u8 (0), .int .u8 (0), .int .u8 (0), .int .u8 (0), .int .u8 (0), .int .u8 (0), .int .u8 (0), .int .u8 (0), .int .u8 (0), .int .u8 (0), .int .u8 (0), .int .u8 (0), .int .u8 (0), .int .u8 (0), .int .u8 (0), .int .u8 (0), .int .u8 (0), .int .u8 (0), .int .u8 (0), .int .u8 (0), .int .u8 (0), .int .u8 (0), .int .u8 (0), .int .u8 (0), .int .u8 (0), .int .u8 (0), .int .u8 (0), .int .u8 (0), .int .u8 (0), .int .u8 (0), .int .u8 (0), .int .u8 (0)]⟩ := rfl
theorem kH : ti env 25 = M.pure ⟨Go.TypeDesc.array 32 5, 32, 32, .agg [.int .u8 (0), .int .u8 (0), .int .u8 (0), .int .u8 (0), .int .u8 (0), .int .u8 (0), .int .u8 (0), .int .u8 (0), .int .u8 (0), .int .u8 (0), .int .u8 (0), .int .u8 (0), .int .u8 (0), .int .u8 (0), .int .u8 (0), .int .u8 (0), .int .u8 (0), .int .u8 (0), .int .u8 (0), .int .u8 (0), .int .u8 (0), .int .u8 (0), .int .u8 (0), .int .u8 (0), .int .u8 (0), .int .u8 (0), .int .u8 (0), .int .u8 (0), .int .u8 (0), .int .u8 (0), .int .u8 (0), .int .u8 (0)]⟩ := rfl
theorem uF : ti env 26 = M.pure ⟨Go.TypeDesc.int (Go.IntKind.u32), 1, 4, .int .u32 (0)⟩ := rfl
theorem UA : ti env 27 = M.pure ⟨Go.TypeDesc.struct #[⟨"Tx", 25, 0, false, "", "", 0⟩, ⟨"N", 26, 32, false, "", "", 32⟩], 33, 36, .agg [.int .u8 (0), .int .u8 (0), .int .u8 (0), .int .u8 (0), .int .u8 (0), .int .u8 (0), .int .u8 (0), .int .u8 (0), .int .u8 (0), .int .u8 (0), .int .u8 (0), .int .u8 (0), .int .u8 (0), .int .u8 (0), .int .u8 (0), .int .u8 (0), .int .u8 (0), .int .u8 (0), .int .u8 (0), .int .u8 (0), .int .u8 (0), .int .u8 (0), .int .u8 (0), .int .u8 (0), .int .u8 (0), .int .u8 (0), .int .u8 (0), .int .u8 (0), .int .u8 (0), .int .u8 (0), .int .u8 (0), .int .u8 (0), .int .u32 (0)]⟩ := rfl
theorem j7 : ti env 28 = M.pure ⟨Go.TypeDesc.struct #[⟨"Tx", 25, 0, false, "", "", 0⟩, ⟨"N", 26, 32, false, "", "", 32⟩], 33, 36, .agg [.int .u8 (0), .int .u8 (0), .int .u8 (0), .int .u8 (0), .int .u8 (0), .int .u8 (0), .int .u8 (0), .int .u8 (0), .int .u8 (0), .int .u8 (0), .int .u8 (0), .int .u8 (0), .int .u8 (0), .int .u8 (0), .int .u8 (0), .int .u8 (0), .int .u8 (0), .int .u8 (0), .int .u8 (0), .int .u8 (0), .int .u8 (0), .int .u8 (0), .int .u8 (0), .int .u8 (0), .int .u8 (0), .int .u8 (0), .int .u8 (0), .int .u8 (0), .int .u8 (0), .int .u8 (0), .int .u8 (0), .int .u8 (0), .int .u32 (0)]⟩ := rfl
theorem wQ : ti env 29 = M.pure ⟨Go.TypeDesc.slice 5, 1, 24, .aV⟩ := rfl
theorem U9 : ti env 30 = M.pure ⟨Go.TypeDesc.struct #[⟨"Point", 28, 0, false, "", "", 0⟩, ⟨"Made", 3, 33, false, "", "", 40⟩, ⟨"Value", 2, 34, false, "", "", 48⟩, ⟨"Script", 29, 35, false, "", "", 56⟩, ⟨"Base", 4, 36, false, "", "", 80⟩, ⟨"Spent", 3, 37, false, "", "", 88⟩, ⟨"Spender", 25, 38, false, "", "", 96⟩], 70, 128, .agg [.int .u8 (0), .int .u8 (0), .int .u8 (0), .int .u8 (0), .int .u8 (0), .int .u8 (0), .int .u8 (0), .int .u8 (0), .int .u8 (0), .int .u8 (0), .int .u8 (0), .int .u8 (0), .int .u8 (0), .int .u8 (0), .int .u8 (0), .int .u8 (0), .int .u8 (0), .int .u8 (0), .int .u8 (0), .int .u8 (0), .int .u8 (0), .int .u8 (0), .int .u8 (0), .int .u8 (0), .int .u8 (0), .int .u8 (0), .int .u8 (0), .int .u8 (0), .int .u8 (0), .int .u8 (0), .int .u8 (0), .int .u8 (0), .int .u32 (0), .int .i64 (0), .int .i64 (0), .aV, .bool false, .int .i64 (0), .int .u8 (0), .int .u8 (0), .int .u8 (0), .int .u8 (0), .int .u8 (0), .int .u8 (0), .int .u8 (0), .int .u8 (0), .int .u8 (0), .int .u8 (0), .int .u8 (0), .int .u8 (0), .int .u8 (0), .int .u8 (0), .int .u8 (0), .int .u8 (0), .int .u8 (0), .int .u8 (0), .int .u8 (0), .int .u8 (0), .int .u8 (0), .int .u8 (0), .int .u8 (0), .int .u8 (0), .int .u8 (0), .int .u8 (0), .int .u8 (0), .int .u8 (0), .int .u8 (0), .int .u8 (0), .int .u8 (0), .int .u8 (0)]⟩ := rfl
theorem eB : ti env 31 = M.pure ⟨Go.TypeDesc.struct #[⟨"Point", 28, 0, false, "", "", 0⟩, ⟨"Made", 3, 33, false, "", "", 40⟩, ⟨"Value", 2, 34, false, "", "", 48⟩, ⟨"Script", 29, 35, false, "", "", 56⟩, ⟨"Base", 4, 36, false, "", "", 80⟩, ⟨"Spent", 3, 37, false, "", "", 88⟩, ⟨"Spender", 25, 38, false, "", "", 96⟩], 70, 128, .agg [.int .u8 (0), .int .u8 (0), .int .u8 (0), .int .u8 (0), .int .u8 (0), .int .u8 (0), .int .u8 (0), .int .u8 (0), .int .u8 (0), .int .u8 (0), .int .u8 (0), .int .u8 (0), .int .u8 (0), .int .u8 (0), .int .u8 (0), .int .u8 (0), .int .u8 (0), .int .u8 (0), .int .u8 (0), .int .u8 (0), .int .u8 (0), .int .u8 (0), .int .u8 (0), .int .u8 (0), .int .u8 (0), .int .u8 (0), .int .u8 (0), .int .u8 (0), .int .u8 (0), .int .u8 (0), .int .u8 (0), .int .u8 (0), .int .u32 (0), .int .i64 (0), .int .i64 (0), .aV, .bool false, .int .i64 (0), .int .u8 (0), .int .u8 (0), .int .u8 (0), .int .u8 (0), .int .u8 (0), .int .u8 (0), .int .u8 (0), .int .u8 (0), .int .u8 (0), .int .u8 (0), .int .u8 (0), .int .u8 (0), .int .u8 (0), .int .u8 (0), .int .u8 (0), .int .u8 (0), .int .u8 (0), .int .u8 (0), .int .u8 (0), .int .u8 (0), .int .u8 (0), .int .u8 (0), .int .u8 (0), .int .u8 (0), .int .u8 (0), .int .u8 (0), .int .u8 (0), .int .u8 (0), .int .u8 (0), .int .u8 (0), .int .u8 (0), .int .u8 (0)]⟩ := rfl
theorem C9 : ti env 32 = M.pure ⟨Go.TypeDesc.int (Go.IntKind.i64), 1, 8, .int .i64 (0)⟩ := rfl
theorem U8 : ti env 36 = M.pure ⟨Go.TypeDesc.slice 41, 1, 24, .aV⟩ := rfl
theorem U7 : ti env 40 = M.pure ⟨Go.TypeDesc.struct #[⟨"Script", 29, 0, false, "", "", 0⟩, ⟨"Balance", 2, 1, false, "", "", 24⟩], 2, 32, .agg [.aV, .int .i64 (0)]⟩ := rfl
theorem HW : ti env 41 = M.pure ⟨Go.TypeDesc.struct #[⟨"Script", 29, 0, false, "", "", 0⟩, ⟨"Balance", 2, 1, false, "", "", 24⟩], 2, 32, .agg [.aV, .int .i64 (0)]⟩ := rfl
theorem vM : ti env 43 = M.pure ⟨Go.TypeDesc.slice 31, 1, 24, .aV⟩ := rfl
theorem PV : ti env 44 = M.pure ⟨Go.TypeDesc.slice 48, 1, 24, .aV⟩ := rfl
theorem U6 : ti env 45 = M.pure ⟨Go.TypeDesc.struct #[⟨"Height", 3, 0, false, "", "", 0⟩, ⟨"Block", 25, 1, false, "", "", 8⟩, ⟨"Made", 43, 33, false, "", "", 40⟩, ⟨"Spends", 44, 34, false, "", "", 64⟩, ⟨"Burnt", 2, 35, false, "", "", 88⟩, ⟨"Left", 2, 36, false, "", "", 96⟩], 37, 104, .agg [.int .i64 (0), .int .u8 (0), .int .u8 (0), .int .u8 (0), .int .u8 (0), .int .u8 (0), .int .u8 (0), .int .u8 (0), .int .u8 (0), .int .u8 (0), .int .u8 (0), .int .u8 (0), .int .u8 (0), .int .u8 (0), .int .u8 (0), .int .u8 (0), .int .u8 (0), .int .u8 (0), .int .u8 (0), .int .u8 (0), .int .u8 (0), .int .u8 (0), .int .u8 (0), .int .u8 (0), .int .u8 (0), .int .u8 (0), .int .u8 (0), .int .u8 (0), .int .u8 (0), .int .u8 (0), .int .u8 (0), .int .u8 (0), .int .u8 (0), .aV, .aV, .int .i64 (0), .int .i64 (0)]⟩ := rfl
theorem AT : ti env 46 = M.pure ⟨Go.TypeDesc.struct #[⟨"Height", 3, 0, false, "", "", 0⟩, ⟨"Block", 25, 1, false, "", "", 8⟩, ⟨"Made", 43, 33, false, "", "", 40⟩, ⟨"Spends", 44, 34, false, "", "", 64⟩, ⟨"Burnt", 2, 35, false, "", "", 88⟩, ⟨"Left", 2, 36, false, "", "", 96⟩], 37, 104, .agg [.int .i64 (0), .int .u8 (0), .int .u8 (0), .int .u8 (0), .int .u8 (0), .int .u8 (0), .int .u8 (0), .int .u8 (0), .int .u8 (0), .int .u8 (0), .int .u8 (0), .int .u8 (0), .int .u8 (0), .int .u8 (0), .int .u8 (0), .int .u8 (0), .int .u8 (0), .int .u8 (0), .int .u8 (0), .int .u8 (0), .int .u8 (0), .int .u8 (0), .int .u8 (0), .int .u8 (0), .int .u8 (0), .int .u8 (0), .int .u8 (0), .int .u8 (0), .int .u8 (0), .int .u8 (0), .int .u8 (0), .int .u8 (0), .int .u8 (0), .aV, .aV, .int .i64 (0), .int .i64 (0)]⟩ := rfl
theorem U5 : ti env 47 = M.pure ⟨Go.TypeDesc.struct #[⟨"Point", 28, 0, false, "", "", 0⟩, ⟨"Spender", 25, 33, false, "", "", 36⟩], 65, 68, .agg [.int .u8 (0), .int .u8 (0), .int .u8 (0), .int .u8 (0), .int .u8 (0), .int .u8 (0), .int .u8 (0), .int .u8 (0), .int .u8 (0), .int .u8 (0), .int .u8 (0), .int .u8 (0), .int .u8 (0), .int .u8 (0), .int .u8 (0), .int .u8 (0), .int .u8 (0), .int .u8 (0), .int .u8 (0), .int .u8 (0), .int .u8 (0), .int .u8 (0), .int .u8 (0), .int .u8 (0), .int .u8 (0), .int .u8 (0), .int .u8 (0), .int .u8 (0), .int .u8 (0), .int .u8 (0), .int .u8 (0), .int .u8 (0), .int .u32 (0), .int .u8 (0), .int .u8 (0), .int .u8 (0), .int .u8 (0), .int .u8 (0), .int .u8 (0), .int .u8 (0), .int .u8 (0), .int .u8 (0), .int .u8 (0), .int .u8 (0), .int .u8 (0), .int .u8 (0), .int .u8 (0), .int .u8 (0), .int .u8 (0), .int .u8 (0), .int .u8 (0), .int .u8 (0), .int .u8 (0), .int .u8 (0), .int .u8 (0), .int .u8 (0), .int .u8 (0), .int .u8 (0), .int .u8 (0), .int .u8 (0), .int .u8 (0), .int .u8 (0), .int .u8 (0), .int .u8 (0), .int .u8 (0)]⟩ := rfl
theorem vL : ti env 48 = M.pure ⟨Go.TypeDesc.struct #[⟨"Point", 28, 0, false, "", "", 0⟩, ⟨"Spender", 25, 33, false, "", "", 36⟩], 65, 68, .agg [.int .u8 (0), .int .u8 (0), .int .u8 (0), .int .u8 (0), .int .u8 (0), .int .u8 (0), .int .u8 (0), .int .u8 (0), .int .u8 (0), .int .u8 (0), .int .u8 (0), .int .u8 (0), .int .u8 (0), .int .u8 (0), .int .u8 (0), .int .u8 (0), .int .u8 (0), .int .u8 (0), .int .u8 (0), .int .u8 (0), .int .u8 (0), .int .u8 (0), .int .u8 (0), .int .u8 (0), .int .u8 (0), .int .u8 (0), .int .u8 (0), .int .u8 (0), .int .u8 (0), .int .u8 (0), .int .u8 (0), .int .u8 (0), .int .u32 (0), .int .u8 (0), .int .u8 (0), .int .u8 (0), .int .u8 (0), .int .u8 (0), .int .u8 (0), .int .u8 (0), .int .u8 (0), .int .u8 (0), .int .u8 (0), .int .u8 (0), .int .u8 (0), .int .u8 (0), .int .u8 (0), .int .u8 (0), .int .u8 (0), .int .u8 (0), .int .u8 (0), .int .u8 (0), .int .u8 (0), .int .u8 (0), .int .u8 (0), .int .u8 (0), .int .u8 (0), .int .u8 (0), .int .u8 (0), .int .u8 (0), .int .u8 (0), .int .u8 (0), .int .u8 (0), .int .u8 (0), .int .u8 (0)]⟩ := rfl
theorem oC : ti env 56 = M.pure ⟨Go.TypeDesc.pointer 100, 1, 8, .dP⟩ := rfl
theorem sP : ti env 57 = M.pure ⟨Go.TypeDesc.slice 61, 1, 24, .aV⟩ := rfl
theorem U4 : ti env 58 = M.pure ⟨Go.TypeDesc.struct #[⟨"x", 56, 0, false, "", "purser/store", 0⟩, ⟨"levels", 57, 1, false, "", "purser/store", 8⟩], 2, 32, .agg [.dP, .aV]⟩ := rfl
theorem HV : ti env 59 = M.pure ⟨Go.TypeDesc.struct #[⟨"x", 56, 0, false, "", "purser/store", 0⟩, ⟨"levels", 57, 1, false, "", "purser/store", 8⟩], 2, 32, .agg [.dP, .aV]⟩ := rfl
theorem U3 : ti env 60 = M.pure ⟨Go.TypeDesc.struct #[⟨"Height", 3, 0, false, "", "", 0⟩, ⟨"Block", 25, 1, false, "", "", 8⟩, ⟨"Coins", 3, 33, false, "", "", 40⟩, ⟨"Total", 2, 34, false, "", "", 48⟩, ⟨"Burnt", 2, 35, false, "", "", 56⟩, ⟨"Left", 2, 36, false, "", "", 64⟩], 37, 72, .agg [.int .i64 (0), .int .u8 (0), .int .u8 (0), .int .u8 (0), .int .u8 (0), .int .u8 (0), .int .u8 (0), .int .u8 (0), .int .u8 (0), .int .u8 (0), .int .u8 (0), .int .u8 (0), .int .u8 (0), .int .u8 (0), .int .u8 (0), .int .u8 (0), .int .u8 (0), .int .u8 (0), .int .u8 (0), .int .u8 (0), .int .u8 (0), .int .u8 (0), .int .u8 (0), .int .u8 (0), .int .u8 (0), .int .u8 (0), .int .u8 (0), .int .u8 (0), .int .u8 (0), .int .u8 (0), .int .u8 (0), .int .u8 (0), .int .u8 (0), .int .i64 (0), .int .i64 (0), .int .i64 (0), .int .i64 (0)]⟩ := rfl
theorem gJ : ti env 61 = M.pure ⟨Go.TypeDesc.struct #[⟨"Height", 3, 0, false, "", "", 0⟩, ⟨"Block", 25, 1, false, "", "", 8⟩, ⟨"Coins", 3, 33, false, "", "", 40⟩, ⟨"Total", 2, 34, false, "", "", 48⟩, ⟨"Burnt", 2, 35, false, "", "", 56⟩, ⟨"Left", 2, 36, false, "", "", 64⟩], 37, 72, .agg [.int .i64 (0), .int .u8 (0), .int .u8 (0), .int .u8 (0), .int .u8 (0), .int .u8 (0), .int .u8 (0), .int .u8 (0), .int .u8 (0), .int .u8 (0), .int .u8 (0), .int .u8 (0), .int .u8 (0), .int .u8 (0), .int .u8 (0), .int .u8 (0), .int .u8 (0), .int .u8 (0), .int .u8 (0), .int .u8 (0), .int .u8 (0), .int .u8 (0), .int .u8 (0), .int .u8 (0), .int .u8 (0), .int .u8 (0), .int .u8 (0), .int .u8 (0), .int .u8 (0), .int .u8 (0), .int .u8 (0), .int .u8 (0), .int .u8 (0), .int .i64 (0), .int .i64 (0), .int .i64 (0), .int .i64 (0)]⟩ := rfl
theorem pC : ti env 95 = M.pure ⟨Go.TypeDesc.slice 128, 1, 24, .aV⟩ := rfl
theorem HU : ti env 96 = M.pure ⟨Go.TypeDesc.func #[128, 128] #[3] false, 1, 8, .dI⟩ := rfl
theorem U2 : ti env 97 = M.pure ⟨Go.TypeDesc.struct #[⟨"l", 95, 0, false, "", "purser/index", 0⟩, ⟨"order", 96, 1, false, "", "purser/index", 24⟩], 2, 32, .agg [.aV, .dI]⟩ := rfl
theorem U1 : ti env 98 = M.pure ⟨Go.TypeDesc.struct #[⟨"l", 95, 0, false, "", "purser/index", 0⟩, ⟨"order", 96, 1, false, "", "purser/index", 24⟩], 2, 32, .agg [.aV, .dI]⟩ := rfl
theorem U0 : ti env 99 = M.pure ⟨Go.TypeDesc.struct #[⟨"made", 4, 0, false, "", "purser/index", 0⟩, ⟨"points", 98, 1, false, "", "purser/index", 8⟩, ⟨"scripts", 98, 3, false, "", "purser/index", 40⟩], 5, 72, .agg [.bool false, .aV, .dI, .aV, .dI]⟩ := rfl
theorem G6 : ti env 100 = M.pure ⟨Go.TypeDesc.struct #[⟨"made", 4, 0, false, "", "purser/index", 0⟩, ⟨"points", 98, 1, false, "", "purser/index", 8⟩, ⟨"scripts", 98, 3, false, "", "purser/index", 40⟩], 5, 72, .agg [.bool false, .aV, .dI, .aV, .dI]⟩ := rfl
theorem YM : ti env 104 = M.pure ⟨Go.TypeDesc.struct #[⟨"Kind", 3, 0, false, "", "", 0⟩, ⟨"A", 46, 1, false, "", "", 8⟩, ⟨"Next", 4, 38, false, "", "", 112⟩, ⟨"N", 3, 39, false, "", "", 120⟩], 40, 128, .agg [.int .i64 (0), .int .i64 (0), .int .u8 (0), .int .u8 (0), .int .u8 (0), .int .u8 (0), .int .u8 (0), .int .u8 (0), .int .u8 (0), .int .u8 (0), .int .u8 (0), .int .u8 (0), .int .u8 (0), .int .u8 (0), .int .u8 (0), .int .u8 (0), .int .u8 (0), .int .u8 (0), .int .u8 (0), .int .u8 (0), .int .u8 (0), .int .u8 (0), .int .u8 (0), .int .u8 (0), .int .u8 (0), .int .u8 (0), .int .u8 (0), .int .u8 (0), .int .u8 (0), .int .u8 (0), .int .u8 (0), .int .u8 (0), .int .u8 (0), .int .u8 (0), .aV, .aV, .int .i64 (0), .int .i64 (0), .bool false, .int .i64 (0)]⟩ := rfl
theorem KJ : ti env 115 = M.pure ⟨Go.TypeDesc.map 9 2, 1, 8, .lJ⟩ := rfl
theorem jB : ti env 128 = M.pure ⟨Go.TypeDesc.pointer 31, 1, 8, .dP⟩ := rfl
theorem KH : ti env 147 = M.pure ⟨Go.TypeDesc.slice 3, 1, 24, .aV⟩ := rfl
theorem KF : ti env 161 = M.pure ⟨Go.TypeDesc.map 28 3, 1, 8, .lJ⟩ := rfl
theorem KE : ti env 176 = M.pure ⟨Go.TypeDesc.int (Go.IntKind.u8), 1, 1, .int .u8 (0)⟩ := rfl
theorem KD : ti env 177 = M.pure ⟨Go.TypeDesc.int (Go.IntKind.u8), 1, 1, .int .u8 (0)⟩ := rfl
theorem KC : ti env 178 = M.pure ⟨Go.TypeDesc.func #[185, 185] #[4] false, 1, 8, .dI⟩ := rfl
theorem KB : ti env 179 = M.pure ⟨Go.TypeDesc.pointer 5, 1, 8, .dP⟩ := rfl
theorem KA : ti env 180 = M.pure ⟨Go.TypeDesc.int (Go.IntKind.i32), 1, 4, .int .i32 (0)⟩ := rfl
theorem K9 : ti env 181 = M.pure ⟨Go.TypeDesc.int (Go.IntKind.i32), 1, 4, .int .i32 (0)⟩ := rfl
theorem K8 : ti env 182 = M.pure ⟨Go.TypeDesc.struct #[⟨"Size_", 12, 0, false, "", "", 0⟩, ⟨"PtrBytes", 12, 1, false, "", "", 8⟩, ⟨"Hash", 26, 2, false, "", "", 16⟩, ⟨"TFlag", 176, 3, false, "", "", 20⟩, ⟨"Align_", 5, 4, false, "", "", 21⟩, ⟨"FieldAlign_", 5, 5, false, "", "", 22⟩, ⟨"Kind_", 177, 6, false, "", "", 23⟩, ⟨"Equal", 178, 7, false, "", "", 24⟩, ⟨"GCData", 179, 8, false, "", "", 32⟩, ⟨"Str", 180, 9, false, "", "", 40⟩, ⟨"PtrToThis", 181, 10, false, "", "", 44⟩], 11, 48, .agg [.int .u64 (0), .int .u64 (0), .int .u32 (0), .int .u8 (0), .int .u8 (0), .int .u8 (0), .int .u8 (0), .dI, .dP, .int .i32 (0), .int .i32 (0)]⟩ := rfl
theorem K7 : ti env 183 = M.pure ⟨Go.TypeDesc.struct #[⟨"Size_", 12, 0, false, "", "", 0⟩, ⟨"PtrBytes", 12, 1, false, "", "", 8⟩, ⟨"Hash", 26, 2, false, "", "", 16⟩, ⟨"TFlag", 176, 3, false, "", "", 20⟩, ⟨"Align_", 5, 4, false, "", "", 21⟩, ⟨"FieldAlign_", 5, 5, false, "", "", 22⟩, ⟨"Kind_", 177, 6, false, "", "", 23⟩, ⟨"Equal", 178, 7, false, "", "", 24⟩, ⟨"GCData", 179, 8, false, "", "", 32⟩, ⟨"Str", 180, 9, false, "", "", 40⟩, ⟨"PtrToThis", 181, 10, false, "", "", 44⟩], 11, 48, .agg [.int .u64 (0), .int .u64 (0), .int .u32 (0), .int .u8 (0), .int .u8 (0), .int .u8 (0), .int .u8 (0), .dI, .dP, .int .i32 (0), .int .i32 (0)]⟩ := rfl
theorem WS : FI 17 EX := rfl
theorem X0 : FF 17 := rfl
theorem RG : ∀ tm : List a9, bN env 17 tm = aE [T, T, T, F, F, F, T, T, F, T, T, F, T, T, T, T, T, T, F, F, F, F, F, F, F, T, F, F, F, F, F, F, F, T, T, T, T, F, F, F, F, F, F, F, F, F, F, F, F, F, F, F, F, F, F, F, T, F, T, F, T, F, F, F, F, F, F, F, F, F, F, F, T, F, F, F, F, F, F, F, F, F, F, F, F] tm := fun _ => rfl
theorem ZO : FI 20 R3 := rfl
theorem ad4 : FF 20 := rfl
theorem aw2 : ∀ tm : List a9, bN env 20 tm = aE [T, F, T, F, T, F, F, F, F, F, F] tm := fun _ => rfl
theorem WR : FI 63 xO := rfl
theorem WZ : FF 63 := rfl
theorem WY : ∀ tm : List a9, bN env 63 tm = aE [T, F, T, T, F, T, T, T, T, T, F, F, F, F, T, F, F, F] tm := fun _ => rfl
theorem ZJ : FI 64 D8 := rfl
theorem ac9 : FF 64 := rfl
theorem WX : ∀ tm : List a9, bN env 64 tm = aE [T, T, F, F, T, T, T, F, F, F, F, T, T, T, F, F, T, F, F, T] tm := fun _ => rfl
theorem ZI : FI 65 IY := rfl
theorem ac8 : FF 65 := rfl
theorem WW : ∀ tm : List a9, bN env 65 tm = aE [T, T, F, F, T, F, F, F] tm := fun _ => rfl
theorem J2 : FI 66 zI := rfl
theorem J3 : FF 66 := rfl
theorem WV : ∀ tm : List a9, bN env 66 tm = aE [T, F, T, F, F, F, F, F, F, F, F, F] tm := fun _ => rfl
theorem ZH : FI 97 IX := rfl
theorem ac7 : FF 97 := rfl
theorem WU : ∀ tm : List a9, bN env 97 tm = aE [T, F, T, F, F, F] tm := fun _ => rfl
theorem ZG : FI 98 IW := rfl
theorem ac6 : FF 98 := rfl
theorem WT : ∀ tm : List a9, bN env 98 tm = aE [T, T, F, F, T, F, F, F] tm := fun _ => rfl
theorem SO : FI 104 A7 := rfl
theorem SP : FF 104 := rfl
theorem ac1 : ∀ tm : List a9, bN env 104 tm = aE [T, T, T, F, F, F, T, T, T, T, F, F, F, F, F, F, T, F, F, F, F, F, T, F, F, F, F, F, F, F, F, T, F, F, F, F, F, F, F, F, F, F, F, F, F, F, F, F, F, F, F, F, F, F, F, F, F, F, F, F, F, F, F, F, F, F, F, F, T, F, F, F, F, F, F, F, F, F, F, F, F, F, F, F, F, F, F, F, F, F, F, F, F, F, F] tm := fun _ => rfl
theorem ZY : FI 108 NA := rfl
theorem ae4 : FF 108 := rfl
theorem ab7 : ∀ tm : List a9, bN env 108 tm = aE [T, T, F, F, T, F, F, F] tm := fun _ => rfl
theorem N2 : ∀ args : List a9, gX env (aY env) 112 args = dR args := fun _ => rfl
theorem N1 : ∀ args : List a9, gX env (aY env) 115 args = (iE 128) args := fun _ => rfl
theorem N0 : ∀ args : List a9, gX env (aY env) 119 args = dR args := fun _ => rfl
theorem XH : ∀ ts l, dD env (9 :: ts) (.str l) = M.pure (.int .i64 (l.length : Nat)) := fun _ _ => rfl
theorem P6 : ∀ ts v, dD env (24 :: ts) v = M.pure (.int .i64 32) := fun _ _ => rfl
theorem P5 : ∀ ts v, dD env (25 :: ts) v = M.pure (.int .i64 32) := fun _ _ => rfl
theorem P4 : ∀ ts id off len cap sz, dD env (29 :: ts) (.sl id off len cap sz) = M.pure (.int .i64 (len : Nat)) := fun _ _ _ _ _ _ => rfl
theorem P3 : ∀ ts g sz off len, dD env (29 :: ts) (.isl g sz off len) = M.pure (.int .i64 (len : Nat)) := fun _ _ _ _ _ => rfl
theorem P2 : ∀ ts, dD env (29 :: ts) .aV = M.pure (.int .i64 0) := fun _ => rfl
theorem P1 : ∀ ts, dD env (29 :: ts) .emp = M.pure (.int .i64 0) := fun _ => rfl
theorem P0 : ∀ ts id off len cap sz, dD env (36 :: ts) (.sl id off len cap sz) = M.pure (.int .i64 (len : Nat)) := fun _ _ _ _ _ _ => rfl
theorem OZ : ∀ ts g sz off len, dD env (36 :: ts) (.isl g sz off len) = M.pure (.int .i64 (len : Nat)) := fun _ _ _ _ _ => rfl
theorem OY : ∀ ts, dD env (36 :: ts) .aV = M.pure (.int .i64 0) := fun _ => rfl
theorem OX : ∀ ts, dD env (36 :: ts) .emp = M.pure (.int .i64 0) := fun _ => rfl
theorem OW : ∀ ts id off len cap sz, dD env (43 :: ts) (.sl id off len cap sz) = M.pure (.int .i64 (len : Nat)) := fun _ _ _ _ _ _ => rfl
theorem OV : ∀ ts g sz off len, dD env (43 :: ts) (.isl g sz off len) = M.pure (.int .i64 (len : Nat)) := fun _ _ _ _ _ => rfl
theorem OU : ∀ ts, dD env (43 :: ts) .aV = M.pure (.int .i64 0) := fun _ => rfl
theorem OT : ∀ ts, dD env (43 :: ts) .emp = M.pure (.int .i64 0) := fun _ => rfl
theorem OS : ∀ ts id off len cap sz, dD env (44 :: ts) (.sl id off len cap sz) = M.pure (.int .i64 (len : Nat)) := fun _ _ _ _ _ _ => rfl
theorem OR : ∀ ts g sz off len, dD env (44 :: ts) (.isl g sz off len) = M.pure (.int .i64 (len : Nat)) := fun _ _ _ _ _ => rfl
theorem OQ : ∀ ts, dD env (44 :: ts) .aV = M.pure (.int .i64 0) := fun _ => rfl
theorem OP : ∀ ts, dD env (44 :: ts) .emp = M.pure (.int .i64 0) := fun _ => rfl
theorem ON : ∀ ts id off len cap sz, dD env (57 :: ts) (.sl id off len cap sz) = M.pure (.int .i64 (len : Nat)) := fun _ _ _ _ _ _ => rfl
theorem OM : ∀ ts g sz off len, dD env (57 :: ts) (.isl g sz off len) = M.pure (.int .i64 (len : Nat)) := fun _ _ _ _ _ => rfl
theorem OL : ∀ ts, dD env (57 :: ts) .aV = M.pure (.int .i64 0) := fun _ => rfl
theorem OK : ∀ ts, dD env (57 :: ts) .emp = M.pure (.int .i64 0) := fun _ => rfl
theorem OJ : ∀ ts id off len cap sz, dD env (95 :: ts) (.sl id off len cap sz) = M.pure (.int .i64 (len : Nat)) := fun _ _ _ _ _ _ => rfl
theorem OI : ∀ ts g sz off len, dD env (95 :: ts) (.isl g sz off len) = M.pure (.int .i64 (len : Nat)) := fun _ _ _ _ _ => rfl
theorem OH : ∀ ts, dD env (95 :: ts) .aV = M.pure (.int .i64 0) := fun _ => rfl
theorem OG : ∀ ts, dD env (95 :: ts) .emp = M.pure (.int .i64 0) := fun _ => rfl
theorem FV : ∀ ts id off len cap sz, dD env (147 :: ts) (.sl id off len cap sz) = M.pure (.int .i64 (len : Nat)) := fun _ _ _ _ _ _ => rfl
theorem FU : ∀ ts g sz off len, dD env (147 :: ts) (.isl g sz off len) = M.pure (.int .i64 (len : Nat)) := fun _ _ _ _ _ => rfl
theorem FR : ∀ ts, dD env (147 :: ts) .aV = M.pure (.int .i64 0) := fun _ => rfl
theorem FQ : ∀ ts, dD env (147 :: ts) .emp = M.pure (.int .i64 0) := fun _ => rfl
noncomputable def BA : Code := (c8 (Try.f17.body.getD .skip)).getD 0 .skip
noncomputable def B9 : Code := (c8 (Try.f17.body.getD .skip)).getD 1 .skip
noncomputable def sD : Code := (c8 (Try.f17.body.getD .skip)).getD 2 .skip
noncomputable def UX : Code := (c8 (Try.f63.body.getD .skip)).getD 0 .skip
def tyr := (And.intro ti2 (And.intro ti3 (And.intro ti4 (And.intro ti5 (And.intro ti9 (And.intro UE (And.intro UD (And.intro UC (And.intro HX (And.intro UB (And.intro kH (And.intro uF (And.intro UA (And.intro j7 (And.intro wQ (And.intro U9 (And.intro eB (And.intro C9 (And.intro U8 (And.intro U7 (And.intro HW (And.intro vM (And.intro PV (And.intro U6 (And.intro AT (And.intro U5 (And.intro vL (And.intro oC (And.intro sP (And.intro U4 (And.intro HV (And.intro U3 (And.intro gJ (And.intro pC (And.intro HU (And.intro U2 (And.intro U1 (And.intro U0 (And.intro G6 (And.intro YM (And.intro KJ (And.intro jB (And.intro KH (And.intro KF (And.intro KE (And.intro KD (And.intro KC (And.intro KB (And.intro KA (And.intro K9 (And.intro K8 K7)))))))))))))))))))))))))))))))))))))))))))))))))))
def blr := (And.intro XH (And.intro P6 (And.intro P5 (And.intro P4 (And.intro P3 (And.intro P2 (And.intro P1 (And.intro P0 (And.intro OZ (And.intro OY (And.intro OX (And.intro OW (And.intro OV (And.intro OU (And.intro OT (And.intro OS (And.intro OR (And.intro OQ (And.intro OP (And.intro ON (And.intro OM (And.intro OL (And.intro OK (And.intro OJ (And.intro OI (And.intro OH (And.intro OG (And.intro FV (And.intro FU (And.intro FR FQ))))))))))))))))))))))))))))))
def fgr := (And.intro RG (And.intro aw2 (And.intro WY (And.intro WX (And.intro WW (And.intro WV (And.intro WU (And.intro WT (And.intro ac1 (And.intro ab7 (And.intro (NB 17 rfl) (And.intro (NB 20 rfl) (And.intro (NB 63 rfl) (And.intro (NB 64 rfl) (And.intro (NB 65 rfl) (And.intro (NB 66 rfl) (And.intro (NB 97 rfl) (And.intro (NB 98 rfl) (And.intro (NB 104 rfl) (NB 108 rfl))))))))))))))))))))
def hkr := (And.intro (HK 17 rfl) (And.intro (HK 20 rfl) (And.intro (HK 63 rfl) (And.intro (HK 64 rfl) (And.intro (HK 65 rfl) (And.intro (HK 66 rfl) (And.intro (HK 97 rfl) (And.intro (HK 98 rfl) (And.intro (HK 104 rfl) (And.intro (HK 108 rfl) (And.intro N2 (And.intro N1 N0))))))))))))
end Go.Am.Ytlgebaofkolkoaa.Ins
set_option linter.unusedSimpArgs false
set_option linter.unusedVariables false
set_option linter.defProp false
set_option maxRecDepth 10000
namespace Go.Am.Ytlgebaofkolkoaa.Ins
open Go Go.Am Go.Proofs
def aX (aO : List UInt8) (pn : Int) : List a9 := aO.map u8 ++ [.int .u32 pn]
theorem c9 {aO : List UInt8} {pn : Int} (h : aO.length = 32) : (aX aO pn).length = 33 := by simp [aX, h]
theorem lA {aO : List UInt8} {pn : Int} (h : aO.length = 32) : (aX aO pn)[32]? = some (.int .u32 pn) := by
 unfold aX
 rw [List.getElem?_append_right (by rw [List.length_map]; omega), List.length_map, h]; rfl
theorem nX {α : Type} {f : α → M Bool} {g : α → Bool} : ∀ (l : List α), (∀ x ∈ l, f x = M.pure (g x)) → vX f l = M.pure (l.all g)
 | [], _ => rfl
 | x :: l, h => by
  simp only [vX, h x (List.mem_cons_self), aB, nX l fun y hy => h y (List.mem_cons_of_mem _ hy), List.all_cons]
theorem xA {a : List UInt8} {i : Nat} (hi : i < a.length) : part env 5 (a.map u8) i = M.pure (u8 a[i]) := by
 simp only [part, ti5, aB, dT, List.getElem?_map, List.getElem?_eq_getElem hi, Option.map_some, dG]
theorem eq5 (d : Nat) (x y : UInt8) : equal env (d + 1) 5 (u8 x) (u8 y) = M.pure (x == y) := by
 have : ((x.toNat : Int) == (y.toNat : Int)) = (x == y) := by
  by_cases e : x = y
  ·subst e; simp
  ·have h2 : ¬ ((x.toNat : Int) = (y.toNat : Int)) := fun q => e (UInt8.toNat_inj.1 (by omega))
   rw [beq_eq_false_iff_ne.2 h2, beq_eq_false_iff_ne.2 e]
 simp only [equal, u8, und, ti5, aB, decide_true]
 rw [this]
theorem J7 (d : Nat) (a b : List UInt8) (ha : a.length = 32) (hb : b.length = 32) : equal env (d + 1 + 1) 25 (.agg (a.map u8)) (.agg (b.map u8)) = M.pure (decide (a = b)) := by
 have hq : zK env env.eqs 25 = true := rfl
 have h1 : equal env (d + 1 + 1) 25 (.agg (a.map u8)) (.agg (b.map u8)) = vX (fun i => (part env 5 (a.map u8) (i * 1)).bind fun x => (part env 5 (b.map u8) (i * 1)).bind fun y => equal env (d + 1) 5 x y) (List.range 32) := by
  rw [equal]
  ·simp only [und, kH, aB, hq, dE, sizeOf, ti5]
  all_goals (intro k n h; cases h)
 rw [h1, nX (g := fun i => (a.getD i 0 == b.getD i 0)) _ fun i hi => ?_]
 ·congr 1
  rw [Bool.eq_iff_iff, List.all_eq_true, decide_eq_true_iff]
  constructor
  ·intro h
   apply List.ext_getElem (by omega)
   intro i h1 h2
   have := h i (List.mem_range.2 (by omega))
   rw [List.getD_eq_getElem?_getD, List.getD_eq_getElem?_getD, List.getElem?_eq_getElem h1, List.getElem?_eq_getElem h2] at this
   simpa using this
  ·rintro rfl i _
   simp
 ·have hi := List.mem_range.1 hi
  rw [Nat.mul_one, xA (by omega), aB, xA (by omega), aB, eq5]
  rw [List.getD_eq_getElem?_getD, List.getD_eq_getElem?_getD, List.getElem?_eq_getElem (by omega), List.getElem?_eq_getElem (by omega)]
  rfl
theorem RI (d : Nat) (h1 h2 : List UInt8) (n1 n2 : Int) (l1 : h1.length = 32) (l2 : h2.length = 32) : equal env (d + 1 + 1 + 1) 28 (.agg (aX h1 n1)) (.agg (aX h2 n2)) = M.pure (decide (h1 = h2) && (n1 == n2)) := by
 have hq : zK env env.eqs 28 = true := rfl
 have p0 : ∀ (hh : List UInt8) (nn : Int), hh.length = 32 → part env 25 (aX hh nn) 0 = M.pure (.agg (hh.map u8)) := fun hh nn hl => by
  simp only [part, kH, aB, dT, List.drop_zero]
  rw [show (aX hh nn).take 32 = hh.map u8 by unfold aX; rw [List.take_append_of_le_length (by simp [hl]), List.take_of_length_le (by simp [hl])]]
 have p1 : ∀ (hh : List UInt8) (nn : Int), hh.length = 32 → part env 26 (aX hh nn) 32 = M.pure (.int .u32 nn) := fun hh nn hl => by
  simp only [part, uF, aB, dT, lA hl, dG]
 have p2 : equal env (d + 1 + 1) 26 (.int .u32 n1) (.int .u32 n2) = M.pure (n1 == n2) := by
  simp only [equal, und, uF, aB, decide_true]
 rw [equal]
 ·simp only [und, j7, aB, hq, dE]
  simp only [vX, show decide ("Tx" = "_") = false from rfl, show decide ("N" = "_") = false from rfl, p0 h1 n1 l1, p0 h2 n2 l2, p1 h1 n1 l1, p1 h2 n2 l2, aB, J7 d h1 h2 l1 l2, p2, Bool.and_true]
 all_goals (intro k n h; cases h)
abbrev Pt := List UInt8 × Int
def ptA (p : Pt) : a9 := .agg (aX p.1 p.2)
theorem E8 {a b : UInt8} (h : u8 a = u8 b) : a = b := by
 unfold u8 at h
 injection h with h1 h2
 exact UInt8.toNat_inj.1 (by omega)
theorem mF : ∀ {a b : List UInt8}, a.map u8 = b.map u8 → a = b
 | [], [], _ => rfl
 | [], _ :: _, h => by cases h
 | _ :: _, [], h => by cases h
 | x :: a, y :: b, h => by
  simp only [List.map_cons, List.cons.injEq] at h
  rw [E8 h.1, mF h.2]
theorem sX {p q : Pt} (h : ptA p = ptA q) : p = q := by
 unfold ptA aX at h
 injection h with h
 obtain ⟨h1, h2⟩ := List.append_inj' h rfl
 injection h2 with h2
 injection h2 with _ h2
 exact Prod.ext (mF h1) h2
noncomputable def isK (k a : a9) : Bool := @decide (a = k) (Classical.propDecidable _)
theorem mX {k a : a9} : isK k a = true ↔ a = k := by unfold isK; exact @decide_eq_true_iff _ (Classical.propDecidable _)
theorem xJ {k a : a9} (h : a ≠ k) : isK k a = false := by
 cases e : isK k a with
 | false => rfl
 | true => exact absurd (mX.1 e) h
theorem wK (p q : Pt) (l1 : p.1.length = 32) (l2 : q.1.length = 32) : aU env 28 (ptA p) (ptA q) = M.pure (isK (ptA p) (ptA q)) := by
 have e : aU env 28 (ptA p) (ptA q) = M.pure (decide (p.1 = q.1) && (p.2 == q.2)) := RI 97 p.1 q.1 p.2 q.2 l1 l2
 rw [e]
 congr 1
 by_cases c : p = q
 ·subst c
  rw [mX.2 rfl]; simp
 ·rw [xJ fun w => c (sX w).symm]
  by_cases d : p.1 = q.1
  ·rw [decide_eq_true d, Bool.true_and, beq_eq_false_iff_ne]
   exact fun w => c (Prod.ext d w)
  ·rw [decide_eq_false d]; rfl
theorem CI : ∀ l : List a9, (∀ a ∈ l, pI a a = true) → vY l l = true
 | [], _ => rfl
 | a :: l, h => by
  simp only [vY, h a (List.mem_cons_self ..), CI l fun x hx => h x (List.mem_cons_of_mem _ hx), Bool.and_self]
theorem G9 (p : Pt) : jW (ptA p) (ptA p) = true := by
 refine CI _ fun a ha => ?_
 unfold aX at ha
 rcases List.mem_append.1 ha with h | h
 ·obtain ⟨b, _, rfl⟩ := List.mem_map.1 h
  simp [u8, pI]
 ·rw [List.mem_singleton] at h
  subst h
  simp [pI]
theorem MU (d : Nat) (x : UInt8) : jE env (d + 1) 5 (u8 x) = M.pure () := by
 simp only [jE, und, ti5, aB]
theorem nV {α : Type} {f : α → M Unit} : ∀ (l : List α), (∀ x ∈ l, f x = M.pure ()) → C0 f l = M.pure ()
 | [], _ => rfl
 | x :: l, h => by simp only [C0, h x (List.mem_cons_self ..), aB, nV l fun y hy => h y (List.mem_cons_of_mem _ hy)]
theorem EU (d : Nat) (a : List UInt8) (ha : a.length = 32) : jE env (d + 1 + 1) 25 (.agg (a.map u8)) = M.pure () := by
 rw [jE]
 simp only [und, kH, aB, dE, sizeOf, ti5]
 refine nV _ fun i hi => ?_
 have hi := List.mem_range.1 hi
 rw [Nat.mul_one, xA (by omega), aB, MU]
theorem uJ (p : Pt) (l1 : p.1.length = 32) : jE env 100 28 (ptA p) = M.pure () := by
 have p0 : part env 25 (aX p.1 p.2) 0 = M.pure (.agg (p.1.map u8)) := by
  simp only [part, kH, aB, dT, List.drop_zero]
  rw [show (aX p.1 p.2).take 32 = p.1.map u8 by unfold aX; rw [List.take_append_of_le_length (by simp [l1]), List.take_of_length_le (by simp [l1])]]
 have p1 : part env 26 (aX p.1 p.2) 32 = M.pure (.int .u32 p.2) := by
  simp only [part, uF, aB, dT, lA l1, dG]
 have p2 : jE env (97 + 1 + 1) 26 (.int .u32 p.2) = M.pure () := by
  rw [jE]; simp only [und, uF, aB]
 unfold ptA
 show jE env (97 + 1 + 1 + 1) 28 (.agg (aX p.1 p.2)) = M.pure ()
 rw [jE]
 simp only [und, j7, aB, dE]
 simp only [C0, show decide ("Tx" = "_") = false from rfl, show decide ("N" = "_") = false from rfl, p0, p1, aB, EU 97 p.1 l1, p2]
theorem E9 : und env 161 = M.pure (.map 28 3) := rfl
theorem z3o : cE env 3 = M.pure (.int .i64 0) := rfl
end Go.Am.Ytlgebaofkolkoaa.Ins
set_option linter.unusedSimpArgs false
set_option linter.unusedVariables false
set_option linter.defProp false
set_option maxRecDepth 10000
namespace Go.Am.Ytlgebaofkolkoaa.Ins
open Go Go.Am Go.Proofs
theorem KR {a b : a9} (h : pI a b = true) : a = b := by
 unfold pI at h
 split at h
 ·simp only [Bool.and_eq_true, decide_eq_true_eq, beq_iff_eq] at h
  rw [h.1, h.2]
 ·rw [beq_iff_eq] at h
  rw [h]
 ·cases h
theorem HN : ∀ {a b : List a9}, vY a b = true → a = b
 | [], [], _ => rfl
 | [], _ :: _, h => by simp [vY] at h
 | _ :: _, [], h => by simp [vY] at h
 | x :: a, y :: b, h => by
  simp only [vY, Bool.and_eq_true] at h
  rw [KR h.1, HN h.2]
def EH (l : List a9) : Option Pt := match l[32]? with
 | some v => match v with
  | .int .u32 z => match vY (aX ((l.take 32).map kK) z) l && (((l.take 32).map kK).length).beq 32 with
   | true => some ((l.take 32).map kK, z)
   | false => none
  | _ => none
 | none => none
theorem zV {l : List a9} {p : Pt} (h : EH l = some p) : l = aX p.1 p.2 ∧ p.1.length = 32 := by
 unfold EH at h
 split at h
 ·split at h
  ·split at h
   ·rename_i e
    rw [Bool.and_eq_true] at e
    injection h with h
    subst h
    exact ⟨(HN e.1).symm, Nat.eq_of_beq_eq_true e.2⟩
   ·cases h
  ·cases h
 ·cases h
theorem GD {p : Pt} (h : p.1.length = 32) : EH (aX p.1 p.2) = some p := by
 have e1 : (aX p.1 p.2).take 32 = p.1.map u8 := by unfold aX; rw [List.take_append_of_le_length (by simp [h]), List.take_of_length_le (by simp [h])]
 unfold EH
 rw [lA h, e1]
 have e2 : (p.1.map u8).map kK = p.1 := kJ p.1
 rw [e2]
 have e3 : vY (aX p.1 p.2) (aX p.1 p.2) = true := G9 p
 simp only [e3, h, Bool.true_and]
def DM (e : Ent) : Option (Pt × Int) := match e.1 with
 | .agg l => match EH l with
  | some p => match e.2.1 with
   | .int .i64 z => some (p, z)
   | _ => none
  | none => none
 | _ => none
def cv (x : Pt × Int) : a9 × a9 := (ptA x.1, .int .i64 x.2)
theorem FD {e : Ent} {x : Pt × Int} (h : DM e = some x) : e.1 = ptA x.1 ∧ e.2.1 = .int .i64 x.2 ∧ x.1.1.length = 32 := by
 unfold DM at h
 split at h
 ·rename_i l e1
  split at h
  ·rename_i p hp
   split at h
   ·rename_i z e2
    injection h with h
    subst h
    obtain ⟨q1, q2⟩ := zV hp
    exact ⟨by rw [e1, q1]; rfl, e2, q2⟩
   ·cases h
  ·cases h
 ·cases h
def oQ (b : Nat) : List Ent → Option (List (Pt × Int))
 | [] => some []
 | e :: es => match DM e with
  | some x => match e.2.2.beq b with
   | true => match oQ (b + 1) es with
    | some l => some (x :: l)
    | none => none
   | false => none
  | none => none
theorem tP : ∀ {es : List Ent} {b : Nat} {l : List (Pt × Int)}, oQ b es = some l → es = gG b (l.map cv) ∧ ∀ x ∈ l, x.1.1.length = 32
 | [], b, l, h => by injection h with h; subst h; exact ⟨rfl, fun x hx => by cases hx⟩
 | e :: es, b, l, h => by
  unfold oQ at h
  split at h
  ·rename_i x hx
   split at h
   ·rename_i hb
    split at h
    ·rename_i l2 hl
     injection h with h
     subst h
     obtain ⟨q1, q2⟩ := tP hl
     obtain ⟨a1, a2, a3⟩ := FD hx
     refine ⟨?_, fun y hy => ?_⟩
     ·simp only [List.map_cons, gG, ← q1]
      congr 1
      exact Prod.ext a1 (Prod.ext a2 (Nat.eq_of_beq_eq_true hb))
     ·rcases List.mem_cons.1 hy with rfl | hy
      ·exact a3
      ·exact q2 y hy
    ·cases h
   ·cases h
  ·cases h
theorem tQ : ∀ (l : List (Pt × Int)) (b : Nat), (∀ x ∈ l, x.1.1.length = 32) → oQ b (gG b (l.map cv)) = some l
 | [], b, _ => rfl
 | x :: l, b, h => by
  have e : DM (ptA x.1, a9.int .i64 x.2, b) = some x := by
   unfold DM ptA
   simp only [GD (h x (List.mem_cons_self ..))]
  simp only [List.map_cons, gG, oQ, cv, e, Nat.beq_refl, tQ l (b + 1) fun y hy => h y (List.mem_cons_of_mem _ hy)]
def mY (p : Pt) : List (Pt × Int) → Nat → Option (Nat × Int)
 | [], _ => none
 | x :: l, i => if x.1 = p then some (i, x.2) else mY p l (i + 1)
theorem A3 {p : Pt} : ∀ (l : List (Pt × Int)) (i : Nat), eG (isK (ptA p)) (l.map cv) i = (mY p l i).map fun x => (x.1, a9.int .i64 x.2)
 | [], _ => rfl
 | x :: l, i => by
  by_cases c : x.1 = p
  ·simp only [List.map_cons, cv, eG, c, mX.2 rfl, if_pos, mY, Option.map_some]
  ·simp only [List.map_cons, cv, eG, xJ fun w => c (sX w), mY, if_neg c, Bool.false_eq_true, if_false]
   exact A3 l (i + 1)
theorem CX {p : Pt} : ∀ {l : List (Pt × Int)} {i j : Nat} {z : Int}, mY p l i = some (j, z) → i ≤ j ∧ j - i < l.length ∧ l[j - i]? = some (p, z)
 | [], _, _, _, h => by cases h
 | x :: l, i, j, z, h => by
  unfold mY at h
  split at h
  ·rename_i c
   injection h with h
   injection h with h1 h2
   subst h1; subst h2
   refine ⟨Nat.le_refl _, by simp, ?_⟩
   rw [Nat.sub_self, ← c]; rfl
  ·obtain ⟨h1, h2, h3⟩ := CX h
   refine ⟨by omega, by simp only [List.length_cons]; omega, ?_⟩
   rw [show j - i = (j - (i + 1)) + 1 by omega, List.getElem?_cons_succ]
   exact h3
def bump (p : Pt) (l : List (Pt × Int)) : List (Pt × Int) := match mY p l 0 with
 | some x => l.modify x.1 fun y => (y.1, IntKind.i64.wrap (x.2 + 1))
 | none => l ++ [(p, 1)]
def DW (bx bm : Blk) : Option (Pt × Nat × List (Pt × Int)) := match bx with
 | .row c _ => match c with
  | .l cells => match EH (cells.take 33) with
   | some p => match bm with
    | .map es ck => match oQ (ck - es.length) es with
     | some l => match es.length.ble ck with
      | true => some (p, ck - es.length, l)
      | false => none
     | none => none
    | _ => none
   | none => none
  | _ => none
 | _ => none
def vD (tm : List a9) : List Nat → List a9
 | [] => tm
 | t :: l => vD (put tm t .aA) l
def qX (m c : Nat) (ts : List Nat) (tm : List a9) : M (fV × List a9) :=
 match nth tm m undef with
 | .map id => match nth tm c undef with
  | .ptr x off => match off.beq 0 && ts.all (fun t => t.blt tm.length) with
   | true => (fT x).bind fun bx => (fT id).bind fun bm => match DW bx bm with
     | some r => (kM id (.map (gG r.2.1 ((bump r.1 r.2.2).map cv)) (r.2.1 + (bump r.1 r.2.2).length))).bind fun _ => M.pure (.normal, vD tm ts)
     | none => bF "bump"
   | false => bF "bump"
  | _ => bF "bump"
 | _ => bF "bump"
theorem FO {bx bm : Blk} {r : Pt × Nat × List (Pt × Int)} (h : DW bx bm = some r) : ∃ cells t, bx = .row (.l cells) t ∧ cells.take 33 = aX r.1.1 r.1.2 ∧ r.1.1.length = 32 ∧ bm = .map (gG r.2.1 (r.2.2.map cv)) (r.2.1 + r.2.2.length) ∧ ∀ x ∈ r.2.2, x.1.1.length = 32 := by
 unfold DW at h
 split at h
 ·split at h
  ·split at h
   ·rename_i p hp
    split at h
    ·rename_i es ck
     split at h
     ·rename_i l hl
      split at h
      ·rename_i hle
       injection h with h
       subst h
       obtain ⟨q1, q2⟩ := zV hp
       obtain ⟨a1, a2⟩ := tP hl
       have hle := Nat.le_of_ble_eq_true hle
       refine ⟨_, _, rfl, q1, q2, ?_, a2⟩
       have e1 : es.length = l.length := by rw [a1, pY, List.length_map]
       rw [← a1]
       congr 1
       show ck = ck - es.length + l.length
       omega
      ·cases h
     ·cases h
    ·cases h
   ·cases h
  ·cases h
 ·cases h
end Go.Am.Ytlgebaofkolkoaa.Ins
set_option linter.unusedSimpArgs false
set_option linter.unusedVariables false
set_option linter.defProp false
set_option maxRecDepth 10000
namespace Go.Am.Ytlgebaofkolkoaa.Ins
open Go Go.Am Go.Proofs
def dat (i : Nat) : Edge := ⟨i, .data⟩
def pha (i : Nat) : Edge := ⟨i, .phase⟩
def FP (b m c ty : Nat) (pos : String) : Array Oper := #[
 { dst := some b, op := .move (.tmp m), type := 161, pos := pos, after := #[], guard := none },
 { dst := some (b + 1), op := .fieldAddr ty (.tmp c) 0, type := 0, pos := pos, after := #[], guard := none },
 { dst := some (b + 2), op := .load 28 (.tmp (b + 1)), type := 28, pos := pos, after := #[dat 1], guard := none },
 { dst := some (b + 3), op := .lookup 161 (.tmp b) (.tmp (b + 2)) false, type := 3, pos := pos, after := #[dat 0, dat 2], guard := none },
 { dst := some (b + 4), op := .binOp .add 3 (.tmp (b + 3)) (.const (.int .i64 1)) 3, type := 3, pos := pos, after := #[dat 3], guard := none },
 { dst := some (b + 5), op := .mapEntry 161 (.tmp b) (.tmp (b + 2)), type := 0, pos := pos, after := #[dat 0, dat 2, pha 0, pha 1, pha 2, ⟨3, .textOnly .mapOpAssignEntry⟩, ⟨4, .textOnly .mapOpAssignEntry⟩], guard := none },
 { dst := some (b + 6), op := .extract (.tmp (b + 5)) 1, type := 3, pos := pos, after := #[dat 5], guard := none },
 { dst := none, op := .entryStore 161 (.tmp b) (.tmp (b + 6)) (.tmp (b + 4)), type := 0, pos := pos, after := #[dat 0, dat 6, dat 4, ⟨5, .chain⟩, pha 0, pha 1, pha 2, pha 3, pha 4, pha 5, pha 6], guard := none }]
def mN : Nat → List Nat
 | 2 => [1] | 3 => [0, 2] | 4 => [3] | 5 => [0, 1, 2] | 6 => [5] | 7 => [0, 1, 2, 3, 4, 5, 6] | _ => []
theorem RK {b m c ty : Nat} {pos : String} {i : Nat} {o : Oper} (hi : (FP b m c ty pos)[i]? = some o) {S : Nat → Prop} (h : ∀ e ∈ o.after, Region.binds .any e = true → S e.on) : ∀ k ∈ mN i, S k := by
 have hlt : i < 8 := by
  have := (Array.getElem?_eq_some_iff.1 hi).1
  exact this
 have hb1 : ∀ k, Region.binds .any (dat k) = true := fun k => rfl
 have hb2 : ∀ k, Region.binds .any (pha k) = true := fun k => rfl
 match i, hlt with
 | 0, _ => intro k hk; cases hk
 | 1, _ => intro k hk; cases hk
 | 2, _ =>
  injection hi with hi; subst hi; intro k hk
  simp only [mN, List.mem_cons, List.not_mem_nil, or_false] at hk
  subst hk
  ·exact h (dat 1) (Array.mem_def.2 (List.mem_of_getElem? (i := 0) rfl)) (hb1 _)
 | 3, _ =>
  injection hi with hi; subst hi; intro k hk
  simp only [mN, List.mem_cons, List.not_mem_nil, or_false] at hk
  rcases hk with rfl | rfl
  ·exact h (dat 0) (Array.mem_def.2 (List.mem_of_getElem? (i := 0) rfl)) (hb1 _)
  ·exact h (dat 2) (Array.mem_def.2 (List.mem_of_getElem? (i := 1) rfl)) (hb1 _)
 | 4, _ =>
  injection hi with hi; subst hi; intro k hk
  simp only [mN, List.mem_cons, List.not_mem_nil, or_false] at hk
  subst hk
  ·exact h (dat 3) (Array.mem_def.2 (List.mem_of_getElem? (i := 0) rfl)) (hb1 _)
 | 5, _ =>
  injection hi with hi; subst hi; intro k hk
  simp only [mN, List.mem_cons, List.not_mem_nil, or_false] at hk
  rcases hk with rfl | rfl | rfl
  ·exact h (pha 0) (Array.mem_def.2 (List.mem_of_getElem? (i := 2) rfl)) (hb2 _)
  ·exact h (pha 1) (Array.mem_def.2 (List.mem_of_getElem? (i := 3) rfl)) (hb2 _)
  ·exact h (pha 2) (Array.mem_def.2 (List.mem_of_getElem? (i := 4) rfl)) (hb2 _)
 | 6, _ =>
  injection hi with hi; subst hi; intro k hk
  simp only [mN, List.mem_cons, List.not_mem_nil, or_false] at hk
  subst hk
  ·exact h (dat 5) (Array.mem_def.2 (List.mem_of_getElem? (i := 0) rfl)) (hb1 _)
 | 7, _ =>
  injection hi with hi; subst hi; intro k hk
  simp only [mN, List.mem_cons, List.not_mem_nil, or_false] at hk
  rcases hk with rfl | rfl | rfl | rfl | rfl | rfl | rfl
  ·exact h (pha 0) (Array.mem_def.2 (List.mem_of_getElem? (i := 4) rfl)) (hb2 _)
  ·exact h (pha 1) (Array.mem_def.2 (List.mem_of_getElem? (i := 5) rfl)) (hb2 _)
  ·exact h (pha 2) (Array.mem_def.2 (List.mem_of_getElem? (i := 6) rfl)) (hb2 _)
  ·exact h (pha 3) (Array.mem_def.2 (List.mem_of_getElem? (i := 7) rfl)) (hb2 _)
  ·exact h (pha 4) (Array.mem_def.2 (List.mem_of_getElem? (i := 8) rfl)) (hb2 _)
  ·exact h (pha 5) (Array.mem_def.2 (List.mem_of_getElem? (i := 9) rfl)) (hb2 _)
  ·exact h (pha 6) (Array.mem_def.2 (List.mem_of_getElem? (i := 10) rfl)) (hb2 _)
structure J (b : Nat) (tm0 : List a9) (val : Nat → a9) (H0 H1 H2 : Hp) (l : Array Bool) (tm : List a9) (h : Hp) : Prop where
 sz : l.size = 8
 len : tm.length = tm0.length
 T2 : ∀ k, k < 7 → l.getD k false = true → tm[b + k]? = some (val k)
 bH : ∀ x, x < b ∨ b + 7 ≤ x → tm[x]? = tm0[x]?
 dp : ∀ k, l.getD k false = true → ∀ j ∈ mN k, l.getD j false = true
 heap : h = if l.getD 7 false = true then H2 else if l.getD 5 false = true then H1 else H0
theorem J.put {b : Nat} {tm0 : List a9} {val : Nat → a9} {H0 H1 H2 : Hp} {l : Array Bool} {tm : List a9} {h : Hp} (j : J b tm0 val H0 H1 H2 l tm h) (hb : b + 7 ≤ tm0.length) {i : Nat} (hi : i < 8) (hn : l.getD i false = false) (hd : ∀ k ∈ mN i, l.getD k false = true)
  {d : Option Tmp} {v : a9} (hdst : (i < 7 ∧ d = some (b + i) ∧ v = val i) ∨ (i = 7 ∧ d = none)) {h' : Hp} (hh : h' = if (i = 7 ∨ l.getD 7 false = true) then H2 else if (i = 5 ∨ l.getD 5 false = true) then H1 else H0) :
  J b tm0 val H0 H1 H2 (l.setIfInBounds i true) (bX tm d v) h' := by
 have get : ∀ k, (l.setIfInBounds i true).getD k false = true ↔ (k = i ∨ l.getD k false = true) := fun k => by
  by_cases hk : k = i
  ·subst hk
   have : k < l.size := by rw [j.sz]; exact hi
   simp [Array.getD, this]
  ·have hk' : ¬ i = k := fun h => hk h.symm
   simp only [hk, false_or, Array.getD_eq_getD_getElem?, Array.getElem?_setIfInBounds, hk', if_false]; rw [if_neg (fun w => w)]
 refine ⟨by simpa using j.sz, by rw [pS, j.len], fun k hk hl => ?_, fun x hx => ?_, fun k hl q hq => ?_, ?_⟩
 ·rw [mK]
  rcases hdst with ⟨q1, rfl, rfl⟩ | ⟨q1, rfl⟩
  ·by_cases c : k = i
   ·subst c
    rw [if_pos rfl, if_pos (by rw [j.len]; omega)]
   ·rw [if_neg (fun w => c (by injection w with w; omega))]
    exact j.T2 k hk (((get k).1 hl).resolve_left c)
  ·rw [if_neg (fun w => by cases w)]
   exact j.T2 k hk (((get k).1 hl).resolve_left (by omega))
 ·rw [mK]
  rcases hdst with ⟨q1, rfl, rfl⟩ | ⟨q1, rfl⟩
  ·rw [if_neg (fun w => by injection w with w; omega)]
   exact j.bH x hx
  ·rw [if_neg (fun w => by cases w)]
   exact j.bH x hx
 ·rcases (get k).1 hl with rfl | hl
  ·exact (get q).2 (.inr (hd q hq))
  ·exact (get q).2 (.inr (j.dp k hl q hq))
 ·rw [hh]
  have e7 : ((l.setIfInBounds i true).getD 7 false = true) ↔ (i = 7 ∨ l.getD 7 false = true) := (get 7).trans (or_congr_left eq_comm)
  have e5 : ((l.setIfInBounds i true).getD 5 false = true) ↔ (i = 5 ∨ l.getD 5 false = true) := (get 5).trans (or_congr_left eq_comm)
  simp only [e7, e5]
theorem A0 : ∀ (ts : List Nat) (tm : List a9), (vD tm ts).length = tm.length
 | [], _ => rfl
 | t :: ts, tm => by rw [vD, A0 ts, kO]
theorem A1 : ∀ (ts : List Nat) (tm : List a9) (i : Nat) (v : a9), (vD tm ts)[i]? = some v → v = .aA ∨ (i ∉ ts ∧ tm[i]? = some v)
 | [], tm, i, v, h => .inr ⟨List.not_mem_nil, h⟩
 | t :: ts, tm, i, v, h => by
  rcases A1 ts _ i v h with h | ⟨h1, h2⟩
  ·exact .inl h
  ·have e := mK tm (some t) .aA i
   simp only [bX] at e
   rw [e] at h2
   by_cases c : t = i
   ·subst c
    rw [if_pos rfl] at h2
    split at h2
    ·injection h2 with h2; exact .inl h2.symm
    ·cases h2
   ·rw [if_neg (fun w => c (by injection w))] at h2
    exact .inr ⟨fun w => (List.mem_cons.1 w).elim (fun w => c w.symm) h1, h2⟩
theorem MV {ρ : Ren} {m : Mem} {tm tm2 : List a9} {c : Array Value} (h : RL ρ m tm c) (hl : tm2.length = tm.length) (hg : ∀ (i : Nat) (v : a9), tm2[i]? = some v → v = a9.aA ∨ tm[i]? = some v) : RL ρ m tm2 c :=
 ⟨by rw [hl]; exact h.len, fun i v x hv hx => by
  rcases hg i v hv with rfl | hv
  ·exact .aA x
  ·exact h.at_ i v x hv hx⟩
theorem JG {b mm cc ty : Nat} {pos : String} {tm0 : List a9} {H0 H1 H2 : Hp} {n mid x : Nat} {p : Pt} {z0 st : Int} (hmm : mm < b ∨ b + 7 ≤ mm) (hcc : cc < b ∨ b + 7 ≤ cc) (hlen : b + 7 ≤ tm0.length)
  (hfa : ∀ x, fieldAddr env ty (.ptr x 0) 0 = M.pure (.ptr x 0)) (hm : nth tm0 mm undef = .map mid) (hc : nth tm0 cc undef = .ptr x 0)
  (F1 : Ex (j9 env 161 (.map mid) (ptA p) false) H0 n (.int .i64 z0) H0) (F2 : Ex (j9 env 161 (.map mid) (ptA p) false) H1 n (.int .i64 z0) H1)
  (F3 : Ex (j8 env 161 (.map mid) (ptA p)) H0 n (a9.tup [.int .i64 z0, .int .i64 st]) H1) (F4 : Ex (iF (.map mid) (.int .i64 st) (.int .i64 (IntKind.i64.wrap (z0 + 1)))) H1 n undef H2)
  (F5 : Ex (load env 28 (.ptr x 0)) H0 n (ptA p) H0)
  {val : Nat → a9} (v0 : val 0 = .map mid) (v1 : val 1 = .ptr x 0) (v2 : val 2 = ptA p) (v3 : val 3 = .int .i64 z0) (v4 : val 4 = .int .i64 (IntKind.i64.wrap (z0 + 1))) (v5 : val 5 = a9.tup [.int .i64 z0, .int .i64 st]) (v6 : val 6 = .int .i64 st) :
  ∀ listed tm h, listed.size = (FP b mm cc ty pos).size → J b tm0 val H0 H1 H2 listed tm h → ∀ i o, (FP b mm cc ty pos)[i]? = some o → listed.getD i false = false → (∀ e ∈ o.after, Region.binds .any e = true → listed.getD e.on false = true) →
   ∃ v h', Ex (opV env (aY env) (FP b mm cc ty pos).toList o tm) h n v h' ∧ J b tm0 val H0 H1 H2 (listed.setIfInBounds i true) (bX tm o.dst v) h' := by
 intro listed tm h hsz j i o hi hn hall
 have hd : ∀ k ∈ mN i, listed.getD k false = true := RK (S := fun k => listed.getD k false = true) hi hall
 have hi8 : i < 8 := (Array.getElem?_eq_some_iff.1 hi).1
 have nv : ∀ k, k < 7 → listed.getD k false = true → nth tm (b + k) undef = val k := fun k hk hl => by rw [hG, j.T2 k hk hl]; rfl
 have nr : ∀ y, y < b ∨ b + 7 ≤ y → nth tm y undef = nth tm0 y undef := fun y hy => by rw [hG, hG, j.bH y hy]
 have no7 : i < 7 → listed.getD 7 false = false := fun q => by
  cases e : listed.getD 7 false with
  | false => rfl
  | true =>
   have := j.dp 7 e i (by simp only [mN, List.mem_cons, List.not_mem_nil, or_false]; omega)
   rw [hn] at this; cases this
 match i, hi8 with
 | 0, _ =>
  injection hi with hi; subst hi
  have h7 := no7 (by omega)
  refine ⟨val 0, h, ?_, j.put hlen (by omega) hn hd (.inl ⟨by omega, rfl, rfl⟩) (by have := j.heap; simpa using this)⟩
  rw [lD rfl, v0]
  show Ex (M.pure (nth tm mm undef)) _ _ _ _
  rw [nr mm hmm, hm]; exact Ex.pure
 | 1, _ =>
  injection hi with hi; subst hi
  refine ⟨val 1, h, ?_, j.put hlen (by omega) hn hd (.inl ⟨by omega, rfl, rfl⟩) (by have := j.heap; simpa using this)⟩
  rw [lD rfl, v1]
  show Ex (fieldAddr env ty (nth tm cc undef) 0) _ _ _ _
  rw [nr cc hcc, hc, hfa]; exact Ex.pure
 | 2, _ =>
  injection hi with hi; subst hi
  have h7 := no7 (by omega)
  have h5 : listed.getD 5 false = false := by
   cases e : listed.getD 5 false with
   | false => rfl
   | true => have := j.dp 5 e 2 (by simp [mN]); rw [hn] at this; cases this
  have hh : h = H0 := by have := j.heap; rw [h7, h5] at this; simpa using this
  refine ⟨val 2, h, ?_, j.put hlen (by omega) hn hd (.inl ⟨by omega, rfl, rfl⟩) (by have := j.heap; simpa using this)⟩
  rw [lD rfl, v2]
  show Ex (load env 28 (nth tm (b + 1) undef)) _ _ _ _
  rw [nv 1 (by omega) (hd 1 (by simp [mN])), v1, hh]; exact F5
 | 3, _ =>
  injection hi with hi; subst hi
  have h7 := no7 (by omega)
  have hh := j.heap
  rw [h7] at hh
  refine ⟨val 3, h, ?_, j.put hlen (by omega) hn hd (.inl ⟨by omega, rfl, rfl⟩) (by have := j.heap; simpa using this)⟩
  rw [lD rfl, v3]
  show Ex (j9 env 161 (nth tm b undef) (nth tm (b + 2) undef) false) _ _ _ _
  have n0 : nth tm b undef = .map mid := by have := nv 0 (by omega) (hd 0 (by simp [mN])); rw [v0] at this; exact this
  rw [n0, nv 2 (by omega) (hd 2 (by simp [mN])), v2]
  cases e5 : listed.getD 5 false with
  | false => rw [e5] at hh; rw [show h = H0 by simpa using hh]; exact F1
  | true => rw [e5] at hh; rw [show h = H1 by simpa using hh]; exact F2
 | 4, _ =>
  injection hi with hi; subst hi
  refine ⟨val 4, h, ?_, j.put hlen (by omega) hn hd (.inl ⟨by omega, rfl, rfl⟩) (by have := j.heap; simpa using this)⟩
  rw [lD rfl, v4]
  show Ex (binOp env .add 3 (nth tm (b + 3) undef) (.int .i64 1)) _ _ _ _
  rw [nv 3 (by omega) (hd 3 (by simp [mN])), v3]; exact Ex.pure
 | 5, _ =>
  injection hi with hi; subst hi
  have h7 := no7 (by omega)
  have hh := j.heap
  rw [h7, hn] at hh
  have hh : h = H0 := by simpa using hh
  refine ⟨val 5, H1, ?_, j.put hlen (by omega) hn hd (.inl ⟨by omega, rfl, rfl⟩) (by rw [h7]; simp)⟩
  rw [lD rfl, v5]
  show Ex (j8 env 161 (nth tm b undef) (nth tm (b + 2) undef)) _ _ _ _
  have n0 : nth tm b undef = .map mid := by have := nv 0 (by omega) (hd 0 (by simp [mN])); rw [v0] at this; exact this
  have l2 : listed.getD 2 false = true := hd 2 (by simp [mN])
  rw [n0, nv 2 (by omega) l2, v2, hh]; exact F3
 | 6, _ =>
  injection hi with hi; subst hi
  refine ⟨val 6, h, ?_, j.put hlen (by omega) hn hd (.inl ⟨by omega, rfl, rfl⟩) (by have := j.heap; simpa using this)⟩
  rw [lD rfl, v6]
  show Ex (extract (nth tm (b + 5) undef) 1) _ _ _ _
  rw [nv 5 (by omega) (hd 5 (by simp [mN])), v5]; exact Ex.pure
 | 7, _ =>
  injection hi with hi; subst hi
  have hh := j.heap
  rw [hn, hd 5 (by simp [mN])] at hh
  have hh : h = H1 := by simpa using hh
  refine ⟨undef, H2, ?_, j.put hlen (by omega) hn hd (.inr ⟨rfl, rfl⟩) (by simp)⟩
  rw [lD rfl]
  show Ex (iF (nth tm b undef) (nth tm (b + 6) undef) (nth tm (b + 4) undef)) _ _ _ _
  have n0 : nth tm b undef = .map mid := by have := nv 0 (by omega) (hd 0 (by simp [mN])); rw [v0] at this; exact this
  rw [n0, nv 6 (by omega) (hd 6 (by simp [mN])), nv 4 (by omega) (hd 4 (by simp [mN])), v6, v4, hh]; exact F4
theorem DV (b mm cc ty : Nat) (pos : String) (id : Nat) (rnd : Option Nat) (hmm : mm < b ∨ b + 7 ≤ mm) (hcc : cc < b ∨ b + 7 ≤ cc)
  (hfa : ∀ x, fieldAddr env ty (.ptr x 0) 0 = M.pure (.ptr x 0)) :
  sN env.P rnd (.region id (FP b mm cc ty pos) true) (qX mm cc [b, b + 1, b + 2, b + 3, b + 4, b + 5, b + 6]) := by
 intro tm e tm' s s' h ho ρ m w a o n Q hr hf ht hn hQ
 unfold qX at h
 split at h
 case h_2 => exact (aD h).elim
 rename_i mid hm
 split at h
 case h_2 => exact (aD h).elim
 rename_i x off hc
 split at h
 case h_2 => exact (aD h).elim
 rename_i hchk
 rw [Bool.and_eq_true] at hchk
 have hoff := Nat.eq_of_beq_eq_true hchk.1
 subst hoff
 have hlen : b + 7 ≤ tm.length := by
  have := List.all_eq_true.1 hchk.2 (b + 6) (by simp)
  have : b + 6 + 1 ≤ tm.length := Nat.le_of_ble_eq_true this
  omega
 obtain ⟨bx, s1, h1, h2⟩ := M.aF h
 obtain ⟨hg1, e1⟩ := eC h1
 obtain ⟨bm, s2, h3, h4⟩ := M.aF h2
 obtain ⟨hg2, e2⟩ := eC h3
 split at h4
 case h_2 => exact (aD h4).elim
 rename_i r hb1
 obtain ⟨_, s3, h5, h6⟩ := M.aF h4
 obtain ⟨he, rfl⟩ := aC h6
 injection he with q1 q2
 subst q1; subst q2
 obtain ⟨hlive, hn3, hset⟩ := pF h5
 obtain ⟨cells, t, rfl, hcells, hp32, rfl, hl32⟩ := FO hb1
 obtain ⟨p, bb, l⟩ := r
 simp only at hcells hp32 hl32 hset hg2 hlive
 rw [e1.heap] at hg2
 have hmap : fR s.heap.get mid bb (l.map cv) := by unfold fR; rw [List.length_map]; exact hg2
 have hkey : ptA p = .agg (cells.take 33) := by rw [hcells]; rfl
 have F5 : Ex (load env 28 (.ptr x 0)) s.heap.get s.next (ptA p) s.heap.get := by
  have hl : 33 ≤ cells.length := by
   have : (cells.take 33).length = 33 := by rw [hcells]; exact c9 hp32
   rw [List.length_take] at this; omega
  have := Row.agg (E := env) (n := s.next) (off := 0) (show Row s.heap.get x cells from ⟨t, hg1⟩) j7 rfl (by show 0 + 33 ≤ _; omega)
  rw [List.drop_zero] at this
  rw [hkey]
  exact .rd this
 have hpq : ∀ e ∈ l.map cv, aU env 28 (ptA p) e.1 = M.pure (isK (ptA p) e.1) := fun e he => by
  obtain ⟨y, hy, rfl⟩ := List.mem_map.1 he
  exact wK p y.1 hp32 (hl32 y hy)
 have main : ∃ (z0 st : Int) (H1 H2 : Hp), Ex (j9 env 161 (.map mid) (ptA p) false) s.heap.get s.next (.int .i64 z0) s.heap.get ∧ Ex (j9 env 161 (.map mid) (ptA p) false) H1 s.next (.int .i64 z0) H1 ∧
   Ex (j8 env 161 (.map mid) (ptA p)) s.heap.get s.next (a9.tup [.int .i64 z0, .int .i64 st]) H1 ∧ Ex (iF (.map mid) (.int .i64 st) (.int .i64 (IntKind.i64.wrap (z0 + 1)))) H1 s.next undef H2 ∧
   fR H2 mid bb ((bump p l).map cv) ∧ ∀ j, j ≠ mid → H2 j = s.heap.get j := by
  have hat := A3 (p := p) l 0
  have L0 := hmap.lookup (n := s.next) E9 (uJ p hp32) hpq z3o
  cases hi : mY p l 0 with
  | some y =>
   obtain ⟨i, z⟩ := y
   rw [hi] at hat
   obtain ⟨_, hlt, hget⟩ := CX hi
   rw [Nat.sub_zero] at hlt hget
   rw [hat] at L0
   have w1 := hmap.J9 (n := s.next) E9 (uJ p hp32) hpq hat (fun e he => by
    rw [List.getElem?_map, hget] at he
    injection he with he
    rw [← he]; exact G9 p)
   obtain ⟨H2, w2, m2, k2⟩ := hmap.store (n := s.next) (i := i) (by rw [List.length_map]; exact hlt) (v := .int .i64 (IntKind.i64.wrap (z + 1)))
   refine ⟨z, _, s.heap.get, H2, .rd L0, .rd L0, .wr w1, .wr w2, ?_, k2⟩
   have e : (l.map cv).modify i (fun e => (e.1, a9.int .i64 (IntKind.i64.wrap (z + 1)))) = (bump p l).map cv := by
    unfold bump
    rw [hi]
    refine List.ext_getElem? fun q => ?_
    rw [List.getElem?_modify, List.getElem?_map, List.getElem?_map, List.getElem?_modify]
    cases l[q]? with
    | none => rfl
    | some y =>
     simp only [Option.map_some, Option.map_eq_map]
     by_cases c : i = q
     ·simp only [if_pos c]; rfl
     ·simp only [if_neg c]
   rw [← e]; exact m2
  | none =>
   rw [hi] at hat
   rw [hat] at L0
   obtain ⟨H1, w1, m1, k1⟩ := hmap.JA (n := s.next) E9 (uJ p hp32) hpq hat z3o
   have hpq1 : ∀ e ∈ l.map cv ++ [(ptA p, a9.int .i64 0)], aU env 28 (ptA p) e.1 = M.pure (isK (ptA p) e.1) := fun e he => by
    rcases List.mem_append.1 he with he | he
    ·exact hpq e he
    ·rw [List.mem_singleton] at he
     subst he
     exact wK p p hp32 hp32
   have L1 := m1.lookup (n := s.next) E9 (uJ p hp32) hpq1 z3o
   have hat1 : ∀ (q : List (a9 × a9)) (i : Nat), eG (isK (ptA p)) q i = none → eG (isK (ptA p)) (q ++ [(ptA p, a9.int .i64 0)]) i = some (i + q.length, .int .i64 0) := fun q => by
    induction q with
    | nil => intro i _; simp only [List.nil_append, eG, mX.2 rfl, if_pos, List.length_nil, Nat.add_zero]
    | cons y q ih =>
     intro i hq
     simp only [eG] at hq
     split at hq
     ·cases hq
     ·rename_i c
      simp only [List.cons_append, eG, if_neg c, ih (i + 1) hq, List.length_cons]
      rw [show i + 1 + q.length = i + (q.length + 1) by omega]
   rw [hat1 _ _ hat] at L1
   obtain ⟨H2, w2, m2, k2⟩ := m1.store (n := s.next) (i := (l.map cv).length) (by simp) (v := .int .i64 (IntKind.i64.wrap (0 + 1)))
   refine ⟨0, _, H1, H2, .rd L0, .rd L1, .wr w1, .wr w2, ?_, fun j hj => by rw [k2 j hj, k1 j hj]⟩
   have e : (l.map cv ++ [(ptA p, a9.int .i64 0)]).modify (l.map cv).length (fun e => (e.1, a9.int .i64 (IntKind.i64.wrap (0 + 1)))) = (bump p l).map cv := by
    unfold bump
    rw [hi, List.map_append]
    refine List.ext_getElem? fun q => ?_
    rw [List.getElem?_modify]
    by_cases c : q < (l.map cv).length
    ·rw [List.getElem?_append_left c, List.getElem?_append_left c]
     simp only [if_neg (show ¬ (l.map cv).length = q by omega)]; simp
    ·rw [List.getElem?_append_right (by omega), List.getElem?_append_right (by omega)]
     by_cases d : q = (l.map cv).length
     ·subst d
      simp [cv, show IntKind.i64.wrap 1 = 1 from rfl]
     ·rw [List.getElem?_eq_none (by simp only [List.length_cons, List.length_nil]; omega), List.getElem?_eq_none (by simp only [List.map_cons, List.map_nil, List.length_cons, List.length_nil]; omega)]; rfl
   rw [← e]; exact m2
 obtain ⟨z0, st, H1, H2, F1, F2, F3, F4, hm2, hk2⟩ := main
 have hH2 : s'.heap.get = H2 := by
  funext j
  rw [hset j]
  by_cases c : j = mid
  ·subst c
   rw [if_pos rfl]
   have := hm2
   unfold fR at this
   rw [this, List.length_map]
  ·rw [if_neg c, e2.heap, e1.heap, hk2 j c]
 have hnx : s'.next = s.next := by rw [hn3, e2.next, e1.next]
 let val : Nat → a9 := fun k => match k with
  | 0 => .map mid | 1 => .ptr x 0 | 2 => ptA p | 3 => .int .i64 z0 | 4 => .int .i64 (IntKind.i64.wrap (z0 + 1)) | 5 => a9.tup [.int .i64 z0, .int .i64 st] | _ => .int .i64 st
 have plan := JG (pos := pos) (n := s.next) (val := val) hmm hcc hlen hfa hm hc F1 F2 F3 F4 F5 rfl rfl rfl rfl rfl rfl rfl
 refine wpIn_region_any env.GK (LL (n := s.next) (J := J b tm val s.heap.get H1 H2) (lV (E := env)) plan rfl (ρ₀ := ρ) (m := m) (w₀ := w) (a₀ := a) (fun listed tm1 h1 a1 w1 ρ1 hall hj hr1 ht1 hle hnew hfr hd => ?_) 8 (Array.replicate 8 false) rfl (by simp) a _ ρ s.heap.get tm ?_ hr.drew ht (.refl ρ) (fun _ h => h) (.drew w) rfl)
 ·have hh := hj.heap
  rw [if_pos (hall 7 (show 7 < 8 by decide))] at hh
  subst hh
  refine hQ _ _ _ ρ1 [] ⟨?_, ?_, .normal, hd, .nil m, fun _ => rfl⟩
  ·rw [Mem.fG]
   exact ⟨hle, fun id q => .inl (hnew id q), fun _ _ h => h, by rw [hH2]; exact hr1, hfr, by rw [hnx]; exact Nat.le_refl _⟩
  ·rw [Mem.fG]
   refine MV ht1 (by rw [A0, hj.len]) fun i v hv => ?_
   rcases A1 _ _ i v hv with q | ⟨q1, q2⟩
   ·exact .inl q
   ·refine .inr ?_
    rw [hj.bH i (by simp at q1; omega)]
    exact q2
 ·have none : ∀ k, ¬ ((Array.replicate 8 false).getD k false = true) := fun k => by
   by_cases hk : k < 8 <;> simp [Array.getD, hk]
  exact ⟨rfl, rfl, fun k _ q => absurd q (none k), fun _ _ => rfl, fun k q => absurd q (none k), by rw [if_neg (none 7), if_neg (none 5)]⟩
end Go.Am.Ytlgebaofkolkoaa.Ins
set_option linter.unusedSimpArgs false
set_option linter.unusedVariables false
set_option linter.defProp false
set_option maxRecDepth 10000
namespace Go.Am.Ytlgebaofkolkoaa.Ins
open Go Go.Am Go.Proofs
theorem aB4 (x : Nat) : fieldAddr env 31 (.ptr x 0) 0 = M.pure (.ptr x 0) := rfl
theorem aB3 (x : Nat) : fieldAddr env 48 (.ptr x 0) 0 = M.pure (.ptr x 0) := rfl
noncomputable def tY : List a9 → M (fV × List a9) := qX 3 5 [17, 18, 19, 20, 21, 22, 23]
noncomputable def rA : List a9 → M (fV × List a9) := qX 3 8 [73, 74, 75, 76, 77, 78, 79]
noncomputable def AW : p8 Try.prog := ⟨113, 4, .region 4 (FP 17 3 5 31 "coin.go:24") true, tY, fun rnd => DV 17 3 5 31 "coin.go:24" 4 rnd (by omega) (by omega) aB4⟩
noncomputable def sV : p8 Try.prog := ⟨113, 12, .region 12 (FP 73 3 8 48 "coin.go:32") true, rA, fun rnd => DV 73 3 8 48 "coin.go:32" 12 rnd (by omega) (by omega) aB3⟩
theorem sJ {P : Program} (h : p8 P) (l : List (p8 P)) {c : Code} (hc : h.c = c) (hn : (h.fn.beq h.fn && h.id.beq h.id) = true := by simp) : gQ (h :: l) h.fn h.id c = some h.act := by
 unfold gQ
 rw [hn]
 simp only [hc, if_pos]
end Go.Am.Ytlgebaofkolkoaa.Ins
set_option linter.unusedSimpArgs false
set_option linter.unusedVariables false
set_option linter.defProp false
set_option maxRecDepth 10000
namespace Go.Am.Ytlgebaofkolkoaa
open Go Go.Am
def jP (a b : Int) : Int := if a < b then -1 else if b < a then 1 else 0
def orI (a b : Int) : Int := if a = 0 then b else a
structure p9 {α : Type} (c : α → α → Int) : Prop where
 refl : ∀ a, c a a = 0
 sM : ∀ a b, c b a = - c a b
 lt : ∀ a b d, c a b < 0 → c b d < 0 → c a d < 0
 eqv : ∀ a b d, c a b = 0 → c a d = c b d
theorem tU {a b : Int} : jP a b < 0 ↔ a < b := by unfold jP; split <;> (try split) <;> omega
theorem qW {a b : Int} : jP a b = 0 ↔ a = b := by unfold jP; split <;> (try split) <;> omega
theorem tA : p9 jP where
 refl := fun a => qW.2 rfl
 sM := fun a b => by unfold jP; split <;> (try split) <;> (try split) <;> (try split) <;> omega
 lt := fun a b d h1 h2 => by rw [tU] at *; omega
 eqv := fun a b d h => by rw [qW.1 h]
theorem oS : ∀ a : List UInt8, Go.Lib.compareBytes a a = 0
 | [] => rfl
 | x :: a => by
  simp only [Go.Lib.compareBytes, UInt8.lt_irrefl, if_false]
  exact oS a
theorem BQ : ∀ a b : List UInt8, Go.Lib.compareBytes b a = - Go.Lib.compareBytes a b
 | [], [] => rfl
 | [], _ :: _ => rfl
 | _ :: _, [] => rfl
 | x :: a, y :: b => by
  simp only [Go.Lib.compareBytes]
  by_cases h1 : x < y
  ·have h2 : ¬ y < x := fun h => by rw [UInt8.lt_iff_toNat_lt] at *; omega
   rw [if_pos h1, if_neg h2, if_pos h1]; rfl
  ·by_cases h2 : y < x
   ·rw [if_pos h2, if_neg h1, if_pos h2]
   ·rw [if_neg h1, if_neg h2, if_neg h2, if_neg h1]; exact BQ a b
theorem AJ : ∀ a b : List UInt8, Go.Lib.compareBytes a b = 0 → a = b
 | [], [], _ => rfl
 | [], _ :: _, h => by simp [Go.Lib.compareBytes] at h
 | _ :: _, [], h => by simp [Go.Lib.compareBytes] at h
 | x :: a, y :: b, h => by
  simp only [Go.Lib.compareBytes] at h
  by_cases h1 : x < y
  ·rw [if_pos h1] at h; omega
  ·rw [if_neg h1] at h
   by_cases h2 : y < x
   ·rw [if_pos h2] at h; omega
   ·rw [if_neg h2] at h
    have e : x = y := by
     apply UInt8.toNat_inj.1
     rw [UInt8.lt_iff_toNat_lt] at *; omega
    rw [e, AJ a b h]
theorem OB : ∀ a b d : List UInt8, Go.Lib.compareBytes a b < 0 → Go.Lib.compareBytes b d < 0 → Go.Lib.compareBytes a d < 0
 | [], [], d, h, _ => by simp [Go.Lib.compareBytes] at h
 | [], _ :: _, [], _, h => by simp [Go.Lib.compareBytes] at h
 | [], _ :: _, _ :: _, _, _ => by simp [Go.Lib.compareBytes]
 | _ :: _, [], _, h, _ => by simp [Go.Lib.compareBytes] at h
 | _ :: _, _ :: _, [], _, h => by simp [Go.Lib.compareBytes] at h
 | x :: a, y :: b, z :: d, h1, h2 => by
  simp only [Go.Lib.compareBytes] at *
  by_cases p : x < y
  ·by_cases q : y < z
   ·rw [if_pos (by rw [UInt8.lt_iff_toNat_lt] at *; omega)]; decide
   ·by_cases q2 : z < y
    ·rw [if_neg q, if_pos q2] at h2; omega
    ·rw [if_pos (by rw [UInt8.lt_iff_toNat_lt] at *; omega)]; decide
  ·by_cases p2 : y < x
   ·rw [if_neg p, if_pos p2] at h1; omega
   ·rw [if_neg p, if_neg p2] at h1
    by_cases q : y < z
    ·rw [if_pos (by rw [UInt8.lt_iff_toNat_lt] at *; omega)]; decide
    ·by_cases q2 : z < y
     ·rw [if_neg q, if_pos q2] at h2; omega
     ·rw [if_neg q, if_neg q2] at h2
      rw [if_neg (by rw [UInt8.lt_iff_toNat_lt] at *; omega), if_neg (by rw [UInt8.lt_iff_toNat_lt] at *; omega)]
      exact OB a b d h1 h2
theorem qP : p9 Go.Lib.compareBytes := ⟨oS, BQ, OB, fun a b d h => by rw [AJ a b h]⟩
theorem p9.or {α : Type} {c1 c2 : α → α → Int} (a1 : p9 c1) (a2 : p9 c2) : p9 (fun a b => orI (c1 a b) (c2 a b)) where
 refl := fun a => by simp [orI, a1.refl, a2.refl]
 sM := fun a b => by
  have h1 := a1.sM a b
  have h2 := a2.sM a b
  simp only [orI]
  by_cases h : c1 a b = 0
  ·rw [if_pos (by omega), if_pos h, h2]
  ·rw [if_neg (by omega), if_neg h, h1]
 lt := fun a b d h1 h2 => by
  simp only [orI] at *
  by_cases e1 : c1 a b = 0
  ·rw [if_pos e1] at h1
   rw [a1.eqv a b d e1]
   by_cases e2 : c1 b d = 0
   ·rw [if_pos e2] at h2 ⊢
    exact a2.lt a b d h1 h2
   ·rw [if_neg e2] at h2 ⊢
    exact h2
  ·rw [if_neg e1] at h1
   by_cases e2 : c1 b d = 0
   ·have e3 : c1 d a = c1 b a := by
     have := a1.eqv b d a e2
     exact this.symm
    have e4 := a1.sM d a
    have e5 := a1.sM b a
    rw [if_neg (by omega)]; omega
   ·rw [if_neg e2] at h2
    have := a1.lt a b d h1 h2
    rw [if_neg (by omega)]; exact this
 eqv := fun a b d h => by
  simp only [orI] at *
  by_cases e1 : c1 a b = 0
  ·rw [if_pos e1] at h
   rw [a1.eqv a b d e1, a2.eqv a b d h]
  ·rw [if_neg e1] at h; exact absurd h e1
theorem p9.on {α β : Type} {c : β → β → Int} (o : p9 c) (f : α → β) : p9 (fun a b => c (f a) (f b)) := ⟨fun a => o.refl _, fun a b => o.sM _ _, fun a b d => o.lt _ _ _, fun a b d => o.eqv _ _ _⟩
theorem p9.eqr {α : Type} {c : α → α → Int} (o : p9 c) {a b d : α} (h : c a b = 0) : c d a = c d b := by
 have h1 := o.eqv a b d h
 have h2 := o.sM a d
 have h3 := o.sM b d
 omega
end Go.Am.Ytlgebaofkolkoaa
set_option linter.unusedSimpArgs false
set_option linter.unusedVariables false
set_option linter.defProp false
set_option maxRecDepth 10000
namespace Go.Am.Ytlgebaofkolkoaa.Ins
open Go Go.Am Go.Proofs
abbrev Sc := List UInt8 × Int
def vV (b e : Sc) : Int := orI (jP b.2 e.2) (Go.Lib.compareBytes e.1 b.1)
def bet (b e : Sc) : Sc := if vV b e < 0 then e else b
theorem QA : p9 vV := (tA.on Prod.snd).or ⟨fun a => oS _, fun a b => BQ _ _, fun a b d h1 h2 => OB _ _ _ h2 h1, fun a b d h => by
 have e := AJ _ _ h
 show Go.Lib.compareBytes d.1 a.1 = Go.Lib.compareBytes d.1 b.1
 rw [e]⟩
theorem RQ {a b : Sc} (h : vV a b = 0) : a = b := by
 unfold vV orI at h
 split at h
 ·rename_i c
  have e1 := qW.1 c
  have e2 := AJ _ _ h
  exact Prod.ext e2.symm e1
 ·contradiction
theorem P7 (b x y : Sc) : bet (bet b x) y = bet (bet b y) x := by
 have tr := QA.lt
 have an := QA.sM
 unfold bet
 by_cases h1 : vV b x < 0
 ·rw [if_pos h1]
  by_cases h2 : vV b y < 0
  ·rw [if_pos h2]
   have h4 := an x y
   by_cases h3 : vV x y < 0
   ·rw [if_pos h3, if_neg (by omega)]
   ·rw [if_neg h3]
    by_cases h5 : vV y x < 0
    ·rw [if_pos h5]
    ·rw [if_neg h5]
     exact RQ (by omega)
  ·rw [if_neg h2, if_pos h1]
   by_cases h3 : vV x y < 0
   ·exact absurd (tr b x y h1 h3) h2
   ·rw [if_neg h3]
 ·rw [if_neg h1]
  by_cases h2 : vV b y < 0
  ·rw [if_pos h2]
   by_cases h3 : vV y x < 0
   ·exact absurd (tr b y x h2 h3) h1
   ·rw [if_neg h3]
  ·rw [if_neg h2, if_neg h1]
theorem JM {l l' : List Sc} (h : l.Perm l') (b : Sc) : l.foldl bet b = l'.foldl bet b := by
 induction h generalizing b with
 | nil => rfl
 | cons x _ ih => exact ih _
 | swap x y l => simp only [List.foldl_cons]; rw [P7]
 | trans _ _ ih1 ih2 => exact (ih1 b).trans (ih2 b)
theorem JR : und env 147 = M.pure (.slice 3) := rfl
theorem z3 : sizeOf env 3 = M.pure 1 := rfl
theorem f63 (id : Nat) (a b : Int) (e : TypeId) (h : Hp) (n : Nat) (hr : h id = some (.row (.l [.int .i64 a, .int .i64 b]) e)) : Wp (bM env (aY env) 63 [.sl id 0 2 (some 2) 1]) h n fun v' h' n' => v' = .int .i64 (orI a b) ∧ h' = h ∧ n' = n := by
 refine aZ WZ WR ?_
 have hs : Rds h 1 (.sl id 0 2 (some 2) 1) 2 [.int .i64 a, .int .i64 b] := mV hr rfl
 have i0 := hs.idx (E := env) JR z3 (kk := .i64) (z := 0) (j := 0) rfl (by omega) (h' := h) (n' := n)
 have i1 := hs.idx (E := env) JR z3 (kk := .i64) (z := 1) (j := 1) rfl (by omega) (h' := h) (n' := n)
 have l0 := hs.load (E := env) ti3 rfl (k := 0 * 1) (n := n) rfl
 have l1 := hs.load (E := env) ti3 rfl (k := 1 * 1) (n := n) rfl
 have w1 : IntKind.i64.wrap 1 = 1 := by decide
 have w2 : IntKind.i64.wrap 2 = 2 := by decide
 by_cases ha : a = 0
 ·subst ha
  by_cases hb : b = 0
  ·subst hb
   simp only [xO, Try.f63, Option.getD_some, List.replicate, bP, aN, cQ, u8, tyr, fgr, hkr, execOp, opd, dY, opt, ofValue, dF, ofList, eV, bX, put, nth, aE, cJ, bC, builtin, eX, eW, dH, cN, min2, max2, blr, dO, eJ, und, sizeOf, cE, lenOf, bor, cK, aR, cM, bZ, intOp, bS, strOp, eI, dC, slK, dE, unOp, aT, branch, idx, aW, cellsOf, dK, dT, cel, alloc, bW, newRow, nilCheck, extract, dG, dJ, bL, bO, cT, cW, aQ, fieldAddr, field, part, index, bE, aU, equal, cL, bT, cO, cR, cU, bU, List.getElem?_cons_succ, List.getElem?_cons_zero, List.append_eq, List.cons_append, List.nil_append, List.append_nil, List.length_cons, List.length_nil, Nat.reduceAdd, Nat.reduceSub, Nat.beq, Option.bind_some, nc0, nc1, Int.cast_ofNat_Int, cC, cB, cA, ↓reduceIte, Int.reduceEq, Int.reduceLT, Int.reduceLE, Int.reduceNe, Int.reduceAdd, Int.reduceSub, Int.reduceMul, Int.reduceNeg, Int.reduceGT, Int.reduceGE, ge_iff_le, gt_iff_lt, not_true_eq_false, not_false_eq_true, decide_not, decide_true, decide_false, Bool.not_true, Bool.not_false, Bool.and_true, Bool.true_and, Bool.and_false, Bool.false_and, Bool.or_true, Bool.true_or, Bool.or_false, Bool.false_or, and_true, true_and, and_self, Nat.zero_add, Nat.add_zero, Int.toNat_zero, Nat.zero_mul, aM, beq_self_eq_true, bne_self_eq_false, reduceCtorEq, cY, aI i0, aI i1, aI l0, aI l1, orI, w1, w2]
  ·simp only [xO, Try.f63, Option.getD_some, List.replicate, bP, aN, cQ, u8, tyr, fgr, hkr, execOp, opd, dY, opt, ofValue, dF, ofList, eV, bX, put, nth, aE, cJ, bC, builtin, eX, eW, dH, cN, min2, max2, blr, dO, eJ, und, sizeOf, cE, lenOf, bor, cK, aR, cM, bZ, intOp, bS, strOp, eI, dC, slK, dE, unOp, aT, branch, idx, aW, cellsOf, dK, dT, cel, alloc, bW, newRow, nilCheck, extract, dG, dJ, bL, bO, cT, cW, aQ, fieldAddr, field, part, index, bE, aU, equal, cL, bT, cO, cR, cU, bU, List.getElem?_cons_succ, List.getElem?_cons_zero, List.append_eq, List.cons_append, List.nil_append, List.append_nil, List.length_cons, List.length_nil, Nat.reduceAdd, Nat.reduceSub, Nat.beq, Option.bind_some, nc0, nc1, Int.cast_ofNat_Int, cC, cB, cA, ↓reduceIte, Int.reduceEq, Int.reduceLT, Int.reduceLE, Int.reduceNe, Int.reduceAdd, Int.reduceSub, Int.reduceMul, Int.reduceNeg, Int.reduceGT, Int.reduceGE, ge_iff_le, gt_iff_lt, not_true_eq_false, not_false_eq_true, decide_not, decide_true, decide_false, Bool.not_true, Bool.not_false, Bool.and_true, Bool.true_and, Bool.and_false, Bool.false_and, Bool.or_true, Bool.true_or, Bool.or_false, Bool.false_or, and_true, true_and, and_self, Nat.zero_add, Nat.add_zero, Int.toNat_zero, Nat.zero_mul, aM, beq_self_eq_true, bne_self_eq_false, reduceCtorEq, cY, aI i0, aI i1, aI l0, aI l1, orI, w1, w2, hb]
 ·simp only [xO, Try.f63, Option.getD_some, List.replicate, bP, aN, cQ, u8, tyr, fgr, hkr, execOp, opd, dY, opt, ofValue, dF, ofList, eV, bX, put, nth, aE, cJ, bC, builtin, eX, eW, dH, cN, min2, max2, blr, dO, eJ, und, sizeOf, cE, lenOf, bor, cK, aR, cM, bZ, intOp, bS, strOp, eI, dC, slK, dE, unOp, aT, branch, idx, aW, cellsOf, dK, dT, cel, alloc, bW, newRow, nilCheck, extract, dG, dJ, bL, bO, cT, cW, aQ, fieldAddr, field, part, index, bE, aU, equal, cL, bT, cO, cR, cU, bU, List.getElem?_cons_succ, List.getElem?_cons_zero, List.append_eq, List.cons_append, List.nil_append, List.append_nil, List.length_cons, List.length_nil, Nat.reduceAdd, Nat.reduceSub, Nat.beq, Option.bind_some, nc0, nc1, Int.cast_ofNat_Int, cC, cB, cA, ↓reduceIte, Int.reduceEq, Int.reduceLT, Int.reduceLE, Int.reduceNe, Int.reduceAdd, Int.reduceSub, Int.reduceMul, Int.reduceNeg, Int.reduceGT, Int.reduceGE, ge_iff_le, gt_iff_lt, not_true_eq_false, not_false_eq_true, decide_not, decide_true, decide_false, Bool.not_true, Bool.not_false, Bool.and_true, Bool.true_and, Bool.and_false, Bool.false_and, Bool.or_true, Bool.true_or, Bool.or_false, Bool.false_or, and_true, true_and, and_self, Nat.zero_add, Nat.add_zero, Int.toNat_zero, Nat.zero_mul, aM, beq_self_eq_true, bne_self_eq_false, reduceCtorEq, cY, aI i0, aI i1, aI l0, aI l1, orI, w1, w2, ha]
theorem f97 (h : Hp) (n : Nat) (x : Int) : Wp (bM env (aY env) 97 [.int .i64 x]) h n fun v' h' n' => v' = .bool false ∧ h' = h ∧ n' = n := by
 refine aZ ac7 ZH ?_
 simp only [IX, Try.f97, Option.getD_some, List.replicate, bP, aN, cQ, u8, tyr, fgr, hkr, execOp, opd, dY, opt, ofValue, dF, ofList, eV, bX, put, nth, aE, cJ, bC, builtin, eX, eW, dH, cN, min2, max2, blr, dO, eJ, und, sizeOf, cE, lenOf, bor, cK, aR, cM, bZ, intOp, bS, strOp, eI, dC, slK, dE, unOp, aT, branch, idx, aW, cellsOf, dK, dT, cel, alloc, bW, newRow, nilCheck, extract, dG, dJ, bL, bO, cT, cW, aQ, fieldAddr, field, part, index, bE, aU, equal, cL, bT, cO, cR, cU, bU, List.getElem?_cons_succ, List.getElem?_cons_zero, List.append_eq, List.cons_append, List.nil_append, List.append_nil, List.length_cons, List.length_nil, Nat.reduceAdd, Nat.reduceSub, Nat.beq, Option.bind_some, nc0, nc1, Int.cast_ofNat_Int, cC, cB, cA, ↓reduceIte, Int.reduceEq, Int.reduceLT, Int.reduceLE, Int.reduceNe, Int.reduceAdd, Int.reduceSub, Int.reduceMul, Int.reduceNeg, Int.reduceGT, Int.reduceGE, ge_iff_le, gt_iff_lt, not_true_eq_false, not_false_eq_true, decide_not, decide_true, decide_false, Bool.not_true, Bool.not_false, Bool.and_true, Bool.true_and, Bool.and_false, Bool.false_and, Bool.or_true, Bool.true_or, Bool.or_false, Bool.false_or, and_true, true_and, and_self, Nat.zero_add, Nat.add_zero, Int.toNat_zero, Nat.zero_mul, aM, beq_self_eq_true, bne_self_eq_false, reduceCtorEq]
theorem f64 (h : Hp) (n : Nat) (x y : Int) : Wp (bM env (aY env) 64 [.int .i64 x, .int .i64 y]) h n fun v' h' n' => v' = .int .i64 (jP x y) ∧ h' = h ∧ n' = n := by
 refine aZ ac9 ZJ ?_
 by_cases c1 : x < y
 ·simp only [D8, Try.f64, Option.getD_some, List.replicate, bP, aN, cQ, u8, tyr, fgr, hkr, execOp, opd, dY, opt, ofValue, dF, ofList, eV, bX, put, nth, aE, cJ, bC, builtin, eX, eW, dH, cN, min2, max2, blr, dO, eJ, und, sizeOf, cE, lenOf, bor, cK, aR, cM, bZ, intOp, bS, strOp, eI, dC, slK, dE, unOp, aT, branch, idx, aW, cellsOf, dK, dT, cel, alloc, bW, newRow, nilCheck, extract, dG, dJ, bL, bO, cT, cW, aQ, fieldAddr, field, part, index, bE, aU, equal, cL, bT, cO, cR, cU, bU, List.getElem?_cons_succ, List.getElem?_cons_zero, List.append_eq, List.cons_append, List.nil_append, List.append_nil, List.length_cons, List.length_nil, Nat.reduceAdd, Nat.reduceSub, Nat.beq, Option.bind_some, nc0, nc1, Int.cast_ofNat_Int, cC, cB, cA, ↓reduceIte, Int.reduceEq, Int.reduceLT, Int.reduceLE, Int.reduceNe, Int.reduceAdd, Int.reduceSub, Int.reduceMul, Int.reduceNeg, Int.reduceGT, Int.reduceGE, ge_iff_le, gt_iff_lt, not_true_eq_false, not_false_eq_true, decide_not, decide_true, decide_false, Bool.not_true, Bool.not_false, Bool.and_true, Bool.true_and, Bool.and_false, Bool.false_and, Bool.or_true, Bool.true_or, Bool.or_false, Bool.false_or, and_true, true_and, and_self, Nat.zero_add, Nat.add_zero, Int.toNat_zero, Nat.zero_mul, aM, beq_self_eq_true, bne_self_eq_false, reduceCtorEq, kV (f97 _ _ _), c1, jP]
 ·by_cases c2 : y < x
  ·simp only [D8, Try.f64, Option.getD_some, List.replicate, bP, aN, cQ, u8, tyr, fgr, hkr, execOp, opd, dY, opt, ofValue, dF, ofList, eV, bX, put, nth, aE, cJ, bC, builtin, eX, eW, dH, cN, min2, max2, blr, dO, eJ, und, sizeOf, cE, lenOf, bor, cK, aR, cM, bZ, intOp, bS, strOp, eI, dC, slK, dE, unOp, aT, branch, idx, aW, cellsOf, dK, dT, cel, alloc, bW, newRow, nilCheck, extract, dG, dJ, bL, bO, cT, cW, aQ, fieldAddr, field, part, index, bE, aU, equal, cL, bT, cO, cR, cU, bU, List.getElem?_cons_succ, List.getElem?_cons_zero, List.append_eq, List.cons_append, List.nil_append, List.append_nil, List.length_cons, List.length_nil, Nat.reduceAdd, Nat.reduceSub, Nat.beq, Option.bind_some, nc0, nc1, Int.cast_ofNat_Int, cC, cB, cA, ↓reduceIte, Int.reduceEq, Int.reduceLT, Int.reduceLE, Int.reduceNe, Int.reduceAdd, Int.reduceSub, Int.reduceMul, Int.reduceNeg, Int.reduceGT, Int.reduceGE, ge_iff_le, gt_iff_lt, not_true_eq_false, not_false_eq_true, decide_not, decide_true, decide_false, Bool.not_true, Bool.not_false, Bool.and_true, Bool.true_and, Bool.and_false, Bool.false_and, Bool.or_true, Bool.true_or, Bool.or_false, Bool.false_or, and_true, true_and, and_self, Nat.zero_add, Nat.add_zero, Int.toNat_zero, Nat.zero_mul, aM, beq_self_eq_true, bne_self_eq_false, reduceCtorEq, kV (f97 _ _ _), c1, c2, jP]
  ·simp only [D8, Try.f64, Option.getD_some, List.replicate, bP, aN, cQ, u8, tyr, fgr, hkr, execOp, opd, dY, opt, ofValue, dF, ofList, eV, bX, put, nth, aE, cJ, bC, builtin, eX, eW, dH, cN, min2, max2, blr, dO, eJ, und, sizeOf, cE, lenOf, bor, cK, aR, cM, bZ, intOp, bS, strOp, eI, dC, slK, dE, unOp, aT, branch, idx, aW, cellsOf, dK, dT, cel, alloc, bW, newRow, nilCheck, extract, dG, dJ, bL, bO, cT, cW, aQ, fieldAddr, field, part, index, bE, aU, equal, cL, bT, cO, cR, cU, bU, List.getElem?_cons_succ, List.getElem?_cons_zero, List.append_eq, List.cons_append, List.nil_append, List.append_nil, List.length_cons, List.length_nil, Nat.reduceAdd, Nat.reduceSub, Nat.beq, Option.bind_some, nc0, nc1, Int.cast_ofNat_Int, cC, cB, cA, ↓reduceIte, Int.reduceEq, Int.reduceLT, Int.reduceLE, Int.reduceNe, Int.reduceAdd, Int.reduceSub, Int.reduceMul, Int.reduceNeg, Int.reduceGT, Int.reduceGE, ge_iff_le, gt_iff_lt, not_true_eq_false, not_false_eq_true, decide_not, decide_true, decide_false, Bool.not_true, Bool.not_false, Bool.and_true, Bool.true_and, Bool.and_false, Bool.false_and, Bool.or_true, Bool.true_or, Bool.or_false, Bool.false_or, and_true, true_and, and_self, Nat.zero_add, Nat.add_zero, Int.toNat_zero, Nat.zero_mul, aM, beq_self_eq_true, bne_self_eq_false, reduceCtorEq, kV (f97 _ _ _), c1, c2, jP]
theorem f98 (h : Hp) (n : Nat) (a b : List UInt8) : Wp (bM env (aY env) 98 [.str a, .str b]) h n fun v' h' n' => v' = .int .i64 (Go.Lib.compareBytes a b) ∧ h' = h ∧ n' = n := by
 refine aZ ac6 ZG ?_
 simp only [IW, Try.f98, Option.getD_some, List.replicate, bP, aN, cQ, u8, tyr, fgr, hkr, execOp, opd, dY, opt, ofValue, dF, ofList, eV, bX, put, nth, aE, cJ, bC, builtin, eX, eW, dH, cN, min2, max2, blr, dO, eJ, und, sizeOf, cE, lenOf, bor, cK, aR, cM, bZ, intOp, bS, strOp, eI, dC, slK, dE, unOp, aT, branch, idx, aW, cellsOf, dK, dT, cel, alloc, bW, newRow, nilCheck, extract, dG, dJ, bL, bO, cT, cW, aQ, fieldAddr, field, part, index, bE, aU, equal, cL, bT, cO, cR, cU, bU, List.getElem?_cons_succ, List.getElem?_cons_zero, List.append_eq, List.cons_append, List.nil_append, List.append_nil, List.length_cons, List.length_nil, Nat.reduceAdd, Nat.reduceSub, Nat.beq, Option.bind_some, nc0, nc1, Int.cast_ofNat_Int, cC, cB, cA, ↓reduceIte, Int.reduceEq, Int.reduceLT, Int.reduceLE, Int.reduceNe, Int.reduceAdd, Int.reduceSub, Int.reduceMul, Int.reduceNeg, Int.reduceGT, Int.reduceGE, ge_iff_le, gt_iff_lt, not_true_eq_false, not_false_eq_true, decide_not, decide_true, decide_false, Bool.not_true, Bool.not_false, Bool.and_true, Bool.true_and, Bool.and_false, Bool.false_and, Bool.or_true, Bool.true_or, Bool.or_false, Bool.false_or, and_true, true_and, and_self, Nat.zero_add, Nat.add_zero, Int.toNat_zero, Nat.zero_mul, aM, beq_self_eq_true, bne_self_eq_false, reduceCtorEq, dR, iQ]
theorem f65 (h : Hp) (n : Nat) (a b : List UInt8) : Wp (bM env (aY env) 65 [.str a, .str b]) h n fun v' h' n' => v' = .int .i64 (Go.Lib.compareBytes a b) ∧ h' = h ∧ n' = n := by
 refine aZ ac8 ZI ?_
 simp only [IY, Try.f65, Option.getD_some, List.replicate, bP, aN, cQ, u8, tyr, fgr, hkr, execOp, opd, dY, opt, ofValue, dF, ofList, eV, bX, put, nth, aE, cJ, bC, builtin, eX, eW, dH, cN, min2, max2, blr, dO, eJ, und, sizeOf, cE, lenOf, bor, cK, aR, cM, bZ, intOp, bS, strOp, eI, dC, slK, dE, unOp, aT, branch, idx, aW, cellsOf, dK, dT, cel, alloc, bW, newRow, nilCheck, extract, dG, dJ, bL, bO, cT, cW, aQ, fieldAddr, field, part, index, bE, aU, equal, cL, bT, cO, cR, cU, bU, List.getElem?_cons_succ, List.getElem?_cons_zero, List.append_eq, List.cons_append, List.nil_append, List.append_nil, List.length_cons, List.length_nil, Nat.reduceAdd, Nat.reduceSub, Nat.beq, Option.bind_some, nc0, nc1, Int.cast_ofNat_Int, cC, cB, cA, ↓reduceIte, Int.reduceEq, Int.reduceLT, Int.reduceLE, Int.reduceNe, Int.reduceAdd, Int.reduceSub, Int.reduceMul, Int.reduceNeg, Int.reduceGT, Int.reduceGE, ge_iff_le, gt_iff_lt, not_true_eq_false, not_false_eq_true, decide_not, decide_true, decide_false, Bool.not_true, Bool.not_false, Bool.and_true, Bool.true_and, Bool.and_false, Bool.false_and, Bool.or_true, Bool.true_or, Bool.or_false, Bool.false_or, and_true, true_and, and_self, Nat.zero_add, Nat.add_zero, Int.toNat_zero, Nat.zero_mul, aM, beq_self_eq_true, bne_self_eq_false, reduceCtorEq, kV (f98 _ _ _ _)]
end Go.Am.Ytlgebaofkolkoaa.Ins
set_option linter.unusedSimpArgs false
set_option linter.unusedVariables false
set_option linter.defProp false
set_option maxRecDepth 10000
namespace Go.Am.Ytlgebaofkolkoaa.Ins
open Go Go.Am Go.Proofs
noncomputable def b5 : Code := match sD with
 | .seq _ (.seq _ (.block _ c)) => c
 | _ => .skip
def zD : Oper := { dst := some 59, op := .next (.tmp 58) false, type := 0, pos := "store.go:175", after := #[], guard := none }
def CP : Oper := { dst := some 60, op := .extract (.tmp 59) 0, type := 4, pos := "store.go:175", after := #[{ on := 0, ground := .data }], guard := none }
theorem UW : sD = .seq (.region 14 #[zD, CP] false) (.seq (.cond (.tmp 60) .skip (.exit 4)) (.block 5 b5)) := rfl
theorem NT {it mm ck st : Nat} {es : List Ent} {seen : List Nat} {k x : a9} {h : Hp} {n : Nat} (g1 : h it = some (.iM mm ck (seen ++ [st]) ck)) (g2 : h mm = some (.map es ck)) (g3 : es.find? (fun e => e.2.2.beq st) = some (k, x, st)) :
  Rd (BM (.ptr it 0)) h n ([] ++ [mm] ++ [it]) (.tup [k, x]) := by
 have key : Rd ((fT it).bind fun b => match b with
   | .iM mm _ seen iD => (fT mm).bind fun c => match c with
    | .map es ck => match ck.beq iD with
     | true => (dG "entry" seen.getLast?).bind fun st => (dG "entry" (es.find? fun e => e.2.2.beq st)).bind fun e => M.pure (a9.tup [e.1, e.2.1])
     | false => bF "entry"
    | _ => bF "entry"
   | _ => bF "entry") h n ([] ++ [mm] ++ [it]) (.tup [k, x]) := by
  refine Rd.bind (Rd.get g1) ?_
  refine Rd.bind (Rd.get g2) ?_
  have e1 : ck.beq ck = true := Nat.beq_refl ck
  have e2 : (seen ++ [st]).getLast? = some st := List.getLast?_concat
  simp only [e1, e2, g3, dG, aB]
  exact Rd.pure _
 exact key
theorem al8 (rnd : Option Nat) (Q : fC) (it mm ck st : Nat) (es : List Ent) (seen : List Nat) (s : List UInt8) (v : Int) (b : Sc) (h : Hp) (n : Nat) (x0 x1 x2 x6 x7 x9 x10 x12 x13 x16 x17 x25 x33 x34 x35 x36 x56 x60 x72 : a9) (g1 : h it = some (.iM mm ck (seen ++ [st]) ck)) (g2 : h mm = some (.map es ck)) (g3 : es.find? (fun e => e.2.2.beq st) = some (.str s, .int .i64 v, st)) (hf : bG h n)
  (hQ : ∀ (y16 y17 y72 : a9) (c : Blk), Q .normal (x0 :: x1 :: x2 :: a9.aA :: a9.aA :: a9.aA :: x6 :: x7 :: a9.aA :: x9 :: x10 :: a9.aA :: x12 :: x13 :: .str (bet b (s, v)).1 :: .int .i64 (bet b (s, v)).2 :: y16 :: y17 :: a9.aA :: a9.aA :: a9.aA :: a9.aA :: a9.aA :: a9.aA :: a9.aA :: x25 :: a9.aA :: a9.aA :: a9.aA :: a9.aA :: a9.aA :: a9.aA :: a9.aA :: x33 :: x34 :: x35 :: x36 :: a9.aA :: a9.aA :: a9.aA :: a9.aA :: a9.aA :: a9.aA :: a9.aA :: a9.aA :: a9.aA :: a9.aA :: a9.aA :: a9.aA :: a9.aA :: a9.aA :: a9.aA :: a9.aA :: a9.aA :: a9.aA :: a9.aA :: x56 :: a9.aA :: .ptr it 0 :: a9.aA :: x60 :: a9.aA :: a9.aA :: a9.aA :: a9.aA :: a9.aA :: a9.aA :: a9.aA :: a9.aA :: a9.aA :: a9.aA :: a9.aA :: y72 :: a9.aA :: a9.aA :: a9.aA :: a9.aA :: a9.aA :: a9.aA :: a9.aA :: a9.aA :: a9.aA :: a9.aA :: a9.aA :: a9.aA :: []) (upd h n (some c)) (n + 1)) :
  Run env 17 rnd Q (.block 5 b5) [] (x0 :: x1 :: x2 :: a9.aA :: a9.aA :: a9.aA :: x6 :: x7 :: a9.aA :: x9 :: x10 :: a9.aA :: x12 :: x13 :: .str b.1 :: .int .i64 b.2 :: x16 :: x17 :: a9.aA :: a9.aA :: a9.aA :: a9.aA :: a9.aA :: a9.aA :: a9.aA :: x25 :: a9.aA :: a9.aA :: a9.aA :: a9.aA :: a9.aA :: a9.aA :: a9.aA :: x33 :: x34 :: x35 :: x36 :: a9.aA :: a9.aA :: a9.aA :: a9.aA :: a9.aA :: a9.aA :: a9.aA :: a9.aA :: a9.aA :: a9.aA :: a9.aA :: a9.aA :: a9.aA :: a9.aA :: a9.aA :: a9.aA :: a9.aA :: a9.aA :: a9.aA :: x56 :: a9.aA :: .ptr it 0 :: a9.aA :: x60 :: a9.aA :: a9.aA :: a9.aA :: a9.aA :: a9.aA :: a9.aA :: a9.aA :: a9.aA :: a9.aA :: a9.aA :: a9.aA :: x72 :: a9.aA :: a9.aA :: a9.aA :: a9.aA :: a9.aA :: a9.aA :: a9.aA :: a9.aA :: a9.aA :: a9.aA :: a9.aA :: a9.aA :: []) h n := by
 simp only [b5, sD, c8, Try.f17, Option.getD_some, bP, aN, cQ, u8, tyr, fgr, hkr, execOp, opd, dY, opt, ofValue, dF, ofList, eV, bX, put, nth, aE, cJ, bC, builtin, eX, eW, dH, cN, min2, max2, blr, dO, eJ, und, sizeOf, cE, lenOf, bor, cK, aR, cM, bZ, intOp, bS, strOp, eI, dC, slK, dE, unOp, aT, branch, idx, aW, cellsOf, dK, dT, cel, alloc, bW, newRow, nilCheck, extract, dG, dJ, bL, bO, cT, cW, aQ, fieldAddr, field, part, index, bE, aU, equal, cL, bT, cO, cR, cU, bU, List.getElem?_cons_succ, List.getElem?_cons_zero, List.append_eq, List.cons_append, List.nil_append, List.append_nil, List.length_cons, List.length_nil, Nat.reduceAdd, Nat.reduceSub, Nat.beq, Option.bind_some, nc0, nc1, Int.cast_ofNat_Int, cC, cB, cA, ↓reduceIte, Int.reduceEq, Int.reduceLT, Int.reduceLE, Int.reduceNe, Int.reduceAdd, Int.reduceSub, Int.reduceMul, Int.reduceNeg, Int.reduceGT, Int.reduceGE, ge_iff_le, gt_iff_lt, not_true_eq_false, not_false_eq_true, decide_not, decide_true, decide_false, Bool.not_true, Bool.not_false, Bool.and_true, Bool.true_and, Bool.and_false, Bool.false_and, Bool.or_true, Bool.true_or, Bool.or_false, Bool.false_or, and_true, true_and, and_self, Nat.zero_add, Nat.add_zero, Int.toNat_zero, Nat.zero_mul, aM, beq_self_eq_true, bne_self_eq_false, reduceCtorEq, List.getD_cons_zero, List.getD_cons_succ]
 rw [aI (NT g1 g2 g3)]
 simp only [bP, aN, cQ, u8, tyr, fgr, hkr, execOp, opd, dY, opt, ofValue, dF, ofList, eV, bX, put, nth, aE, cJ, bC, builtin, eX, eW, dH, cN, min2, max2, blr, dO, eJ, und, sizeOf, cE, lenOf, bor, cK, aR, cM, bZ, intOp, bS, strOp, eI, dC, slK, dE, unOp, aT, branch, idx, aW, cellsOf, dK, dT, cel, alloc, bW, newRow, nilCheck, extract, dG, dJ, bL, bO, cT, cW, aQ, fieldAddr, field, part, index, bE, aU, equal, cL, bT, cO, cR, cU, bU, List.getElem?_cons_succ, List.getElem?_cons_zero, List.append_eq, List.cons_append, List.nil_append, List.append_nil, List.length_cons, List.length_nil, Nat.reduceAdd, Nat.reduceSub, Nat.beq, Option.bind_some, nc0, nc1, Int.cast_ofNat_Int, cC, cB, cA, ↓reduceIte, Int.reduceEq, Int.reduceLT, Int.reduceLE, Int.reduceNe, Int.reduceAdd, Int.reduceSub, Int.reduceMul, Int.reduceNeg, Int.reduceGT, Int.reduceGE, ge_iff_le, gt_iff_lt, not_true_eq_false, not_false_eq_true, decide_not, decide_true, decide_false, Bool.not_true, Bool.not_false, Bool.and_true, Bool.true_and, Bool.and_false, Bool.false_and, Bool.or_true, Bool.true_or, Bool.or_false, Bool.false_or, and_true, true_and, and_self, Nat.zero_add, Nat.add_zero, Int.toNat_zero, Nat.zero_mul, aM, beq_self_eq_true, bne_self_eq_false, reduceCtorEq]
 rw [kV (f64 h n b.2 v)]
 simp only [bP, aN, cQ, u8, tyr, fgr, hkr, execOp, opd, dY, opt, ofValue, dF, ofList, eV, bX, put, nth, aE, cJ, bC, builtin, eX, eW, dH, cN, min2, max2, blr, dO, eJ, und, sizeOf, cE, lenOf, bor, cK, aR, cM, bZ, intOp, bS, strOp, eI, dC, slK, dE, unOp, aT, branch, idx, aW, cellsOf, dK, dT, cel, alloc, bW, newRow, nilCheck, extract, dG, dJ, bL, bO, cT, cW, aQ, fieldAddr, field, part, index, bE, aU, equal, cL, bT, cO, cR, cU, bU, List.getElem?_cons_succ, List.getElem?_cons_zero, List.append_eq, List.cons_append, List.nil_append, List.append_nil, List.length_cons, List.length_nil, Nat.reduceAdd, Nat.reduceSub, Nat.beq, Option.bind_some, nc0, nc1, Int.cast_ofNat_Int, cC, cB, cA, ↓reduceIte, Int.reduceEq, Int.reduceLT, Int.reduceLE, Int.reduceNe, Int.reduceAdd, Int.reduceSub, Int.reduceMul, Int.reduceNeg, Int.reduceGT, Int.reduceGE, ge_iff_le, gt_iff_lt, not_true_eq_false, not_false_eq_true, decide_not, decide_true, decide_false, Bool.not_true, Bool.not_false, Bool.and_true, Bool.true_and, Bool.and_false, Bool.false_and, Bool.or_true, Bool.true_or, Bool.or_false, Bool.false_or, and_true, true_and, and_self, Nat.zero_add, Nat.add_zero, Int.toNat_zero, Nat.zero_mul, aM, beq_self_eq_true, bne_self_eq_false, reduceCtorEq]
 rw [kV (f65 h n s b.1)]
 simp only [bP, aN, cQ, u8, tyr, fgr, hkr, execOp, opd, dY, opt, ofValue, dF, ofList, eV, bX, put, nth, aE, cJ, bC, builtin, eX, eW, dH, cN, min2, max2, blr, dO, eJ, und, sizeOf, cE, lenOf, bor, cK, aR, cM, bZ, intOp, bS, strOp, eI, dC, slK, dE, unOp, aT, branch, idx, aW, cellsOf, dK, dT, cel, alloc, bW, nilCheck, extract, dG, dJ, bL, bO, cT, cW, aQ, fieldAddr, field, part, index, bE, aU, equal, cL, bT, cO, cR, cU, bU, List.getElem?_cons_succ, List.getElem?_cons_zero, List.append_eq, List.cons_append, List.nil_append, List.append_nil, List.length_cons, List.length_nil, Nat.reduceAdd, Nat.reduceSub, Nat.beq, Option.bind_some, nc0, nc1, Int.cast_ofNat_Int, cC, cB, cA, ↓reduceIte, Int.reduceEq, Int.reduceLT, Int.reduceLE, Int.reduceNe, Int.reduceAdd, Int.reduceSub, Int.reduceMul, Int.reduceNeg, Int.reduceGT, Int.reduceGE, ge_iff_le, gt_iff_lt, not_true_eq_false, not_false_eq_true, decide_not, decide_true, decide_false, Bool.not_true, Bool.not_false, Bool.and_true, Bool.true_and, Bool.and_false, Bool.false_and, Bool.or_true, Bool.true_or, Bool.or_false, Bool.false_or, and_true, true_and, and_self, Nat.zero_add, Nat.add_zero, Int.toNat_zero, Nat.zero_mul, aM, beq_self_eq_true, bne_self_eq_false, reduceCtorEq, buildSlice, build, fS, fill, sR, List.take_succ_cons, List.take_zero, List.drop_succ_cons, List.drop_zero, Nat.reduceMul, Nat.ble, Nat.reduceLeDiff, Nat.mul_one, Nat.one_mul, eK, m4, bK.size, bK.set, bK.at, bK.sub, aP, aG, List.all_cons, List.all_nil, Option.some.injEq, exists_eq_left', Int.reduceToNat, ne_eq, and_true, true_and, List.length_cons, List.length_nil, Nat.mul_zero, Nat.zero_mul]
 refine fD ti3 hf (f := fun id => a9.sl id 0 2 (some 2) 1) fun H r o f => ?_
 have eH : H = upd h n (some (.row (.l [.int .i64 (jP b.2 v), .int .i64 (Go.Lib.compareBytes s b.1)]) 3)) := funext fun j => by
  by_cases c : j = n
  ·subst c; rw [aP]; exact r
  ·rw [aG _ _ c]; exact o j c
 simp only [bP, aN, cQ, u8, tyr, fgr, hkr, execOp, opd, dY, opt, ofValue, dF, ofList, eV, bX, put, nth, aE, cJ, bC, builtin, eX, eW, dH, cN, min2, max2, blr, dO, eJ, und, sizeOf, cE, lenOf, bor, cK, aR, cM, bZ, intOp, bS, strOp, eI, dC, slK, dE, unOp, aT, branch, idx, aW, cellsOf, dK, dT, cel, alloc, bW, newRow, nilCheck, extract, dG, dJ, bL, bO, cT, cW, aQ, fieldAddr, field, part, index, bE, aU, equal, cL, bT, cO, cR, cU, bU, List.getElem?_cons_succ, List.getElem?_cons_zero, List.append_eq, List.cons_append, List.nil_append, List.append_nil, List.length_cons, List.length_nil, Nat.reduceAdd, Nat.reduceSub, Nat.beq, Option.bind_some, nc0, nc1, Int.cast_ofNat_Int, cC, cB, cA, ↓reduceIte, Int.reduceEq, Int.reduceLT, Int.reduceLE, Int.reduceNe, Int.reduceAdd, Int.reduceSub, Int.reduceMul, Int.reduceNeg, Int.reduceGT, Int.reduceGE, ge_iff_le, gt_iff_lt, not_true_eq_false, not_false_eq_true, decide_not, decide_true, decide_false, Bool.not_true, Bool.not_false, Bool.and_true, Bool.true_and, Bool.and_false, Bool.false_and, Bool.or_true, Bool.true_or, Bool.or_false, Bool.false_or, and_true, true_and, and_self, Nat.zero_add, Nat.add_zero, Int.toNat_zero, Nat.zero_mul, aM, beq_self_eq_true, bne_self_eq_false, reduceCtorEq]
 refine dA (f63 n _ _ 3 H _ r) ?_
 simp only [bP, aN, cQ, u8, tyr, fgr, hkr, execOp, opd, dY, opt, ofValue, dF, ofList, eV, bX, put, nth, aE, cJ, bC, builtin, eX, eW, dH, cN, min2, max2, blr, dO, eJ, und, sizeOf, cE, lenOf, bor, cK, aR, cM, bZ, intOp, bS, strOp, eI, dC, slK, dE, unOp, aT, branch, idx, aW, cellsOf, dK, dT, cel, alloc, bW, newRow, nilCheck, extract, dG, dJ, bL, bO, cT, cW, aQ, fieldAddr, field, part, index, bE, aU, equal, cL, bT, cO, cR, cU, bU, List.getElem?_cons_succ, List.getElem?_cons_zero, List.append_eq, List.cons_append, List.nil_append, List.append_nil, List.length_cons, List.length_nil, Nat.reduceAdd, Nat.reduceSub, Nat.beq, Option.bind_some, nc0, nc1, Int.cast_ofNat_Int, cC, cB, cA, ↓reduceIte, Int.reduceEq, Int.reduceLT, Int.reduceLE, Int.reduceNe, Int.reduceAdd, Int.reduceSub, Int.reduceMul, Int.reduceNeg, Int.reduceGT, Int.reduceGE, ge_iff_le, gt_iff_lt, not_true_eq_false, not_false_eq_true, decide_not, decide_true, decide_false, Bool.not_true, Bool.not_false, Bool.and_true, Bool.true_and, Bool.and_false, Bool.false_and, Bool.or_true, Bool.true_or, Bool.or_false, Bool.false_or, and_true, true_and, and_self, Nat.zero_add, Nat.add_zero, Int.toNat_zero, Nat.zero_mul, aM, beq_self_eq_true, bne_self_eq_false, reduceCtorEq]
 subst eH
 have hb : bet b (s, v) = if orI (jP b.2 v) (Go.Lib.compareBytes s b.1) < 0 then (s, v) else b := rfl
 by_cases c : orI (jP b.2 v) (Go.Lib.compareBytes s b.1) < 0
 ·simp only [bP, aN, cQ, u8, tyr, fgr, hkr, execOp, opd, dY, opt, ofValue, dF, ofList, eV, bX, put, nth, aE, cJ, bC, builtin, eX, eW, dH, cN, min2, max2, blr, dO, eJ, und, sizeOf, cE, lenOf, bor, cK, aR, cM, bZ, intOp, bS, strOp, eI, dC, slK, dE, unOp, aT, branch, idx, aW, cellsOf, dK, dT, cel, alloc, bW, newRow, nilCheck, extract, dG, dJ, bL, bO, cT, cW, aQ, fieldAddr, field, part, index, bE, aU, equal, cL, bT, cO, cR, cU, bU, List.getElem?_cons_succ, List.getElem?_cons_zero, List.append_eq, List.cons_append, List.nil_append, List.append_nil, List.length_cons, List.length_nil, Nat.reduceAdd, Nat.reduceSub, Nat.beq, Option.bind_some, nc0, nc1, Int.cast_ofNat_Int, cC, cB, cA, ↓reduceIte, Int.reduceEq, Int.reduceLT, Int.reduceLE, Int.reduceNe, Int.reduceAdd, Int.reduceSub, Int.reduceMul, Int.reduceNeg, Int.reduceGT, Int.reduceGE, ge_iff_le, gt_iff_lt, not_true_eq_false, not_false_eq_true, decide_not, decide_true, decide_false, Bool.not_true, Bool.not_false, Bool.and_true, Bool.true_and, Bool.and_false, Bool.false_and, Bool.or_true, Bool.true_or, Bool.or_false, Bool.false_or, and_true, true_and, and_self, Nat.zero_add, Nat.add_zero, Int.toNat_zero, Nat.zero_mul, aM, beq_self_eq_true, bne_self_eq_false, reduceCtorEq, c]
  rw [if_pos c] at hb
  rw [hb] at hQ
  exact hQ _ _ _ _
 ·simp only [bP, aN, cQ, u8, tyr, fgr, hkr, execOp, opd, dY, opt, ofValue, dF, ofList, eV, bX, put, nth, aE, cJ, bC, builtin, eX, eW, dH, cN, min2, max2, blr, dO, eJ, und, sizeOf, cE, lenOf, bor, cK, aR, cM, bZ, intOp, bS, strOp, eI, dC, slK, dE, unOp, aT, branch, idx, aW, cellsOf, dK, dT, cel, alloc, bW, newRow, nilCheck, extract, dG, dJ, bL, bO, cT, cW, aQ, fieldAddr, field, part, index, bE, aU, equal, cL, bT, cO, cR, cU, bU, List.getElem?_cons_succ, List.getElem?_cons_zero, List.append_eq, List.cons_append, List.nil_append, List.append_nil, List.length_cons, List.length_nil, Nat.reduceAdd, Nat.reduceSub, Nat.beq, Option.bind_some, nc0, nc1, Int.cast_ofNat_Int, cC, cB, cA, ↓reduceIte, Int.reduceEq, Int.reduceLT, Int.reduceLE, Int.reduceNe, Int.reduceAdd, Int.reduceSub, Int.reduceMul, Int.reduceNeg, Int.reduceGT, Int.reduceGE, ge_iff_le, gt_iff_lt, not_true_eq_false, not_false_eq_true, decide_not, decide_true, decide_false, Bool.not_true, Bool.not_false, Bool.and_true, Bool.true_and, Bool.and_false, Bool.false_and, Bool.or_true, Bool.true_or, Bool.or_false, Bool.false_or, and_true, true_and, and_self, Nat.zero_add, Nat.add_zero, Int.toNat_zero, Nat.zero_mul, aM, beq_self_eq_true, bne_self_eq_false, reduceCtorEq, c]
  rw [if_neg c] at hb
  rw [hb] at hQ
  exact hQ _ _ _ _
end Go.Am.Ytlgebaofkolkoaa.Ins
set_option linter.unusedSimpArgs false
set_option linter.unusedVariables false
set_option linter.defProp false
set_option maxRecDepth 10000
namespace Go.Am.Ytlgebaofkolkoaa.Ins
open Go Go.Am Go.Proofs
theorem Rel.sub {P : Program} {ρ : Ren} {m : Mem} {h h' : Hp} {w : World} (hr : Rel P ρ m h w) (hs : ∀ id b, h' id = some b → h id = some b) : Rel P ρ m h' w :=
 ⟨fun id b hb => hr.eT id b (hs id b hb), fun i j b c r r' hi hj => hr.inj i j b c r r' (hs i b hi) (hs j c hj), hr.mem⟩
theorem IF {P : Program} {ρ : Ren} {m : Mem} {h : Hp} {w : World} {it mm ck : Nat} {es : List Ent} {seen : List Nat} {x : Value} (hr : Rel P ρ m h w) (hx : R ρ m (.ptr it 0) x)
  (g1 : h it = some (.iM mm ck seen ck)) (g2 : h mm = some (.map es ck)) (hb : ∀ e ∈ es, e.2.2 < ck) (ty : TypeId) :
  ((∀ e ∈ es, e.2.2 ∈ seen) ∧ (Instr.next x false ty).run P w = .ok (.tuple #[.bool false]) w) ∨
  ∃ e ∈ es, e.2.2 ∉ seen ∧ ∃ k v w', (Instr.next x false ty).run P w = .ok (.tuple #[.bool true, k, v]) w' ∧ Rel P ρ m (upd h it (some (.iM mm ck (seen ++ [e.2.2]) ck))) w' ∧ Fr w w' := by
 cases hx with
 | ptr _ _ r hρ =>
 obtain ⟨rb, o, q1, q2, q3, q4⟩ := hr.eT it _ g1
 rw [hρ] at q1
 injection q1 with q1
 subst q1
 cases q3 with
 | iM _ _ _ _ r2 hρ2 =>
 obtain ⟨rb2, o2, p1, p2, p3, p4⟩ := hr.eT mm _ g2
 rw [hρ2] at p1
 injection p1 with p1
 subst p1
 cases p3 with
 | map _ _ arr hl hme =>
 have born : ∀ (i : Nat) (hi : i < es.length) (hi' : i < arr.size), arr[i].born = es[i].2.2 := fun i hi hi' => (hme i es[i] arr[i] (List.getElem?_eq_getElem hi) (Array.getElem?_eq_getElem hi')).born
 have hold : ∀ y ∈ arr.toList, y.born < ck := fun y hy => by
  obtain ⟨i, hi, rfl⟩ := List.mem_iff_getElem.1 hy
  have hi' : i < arr.size := by simpa using hi
  have := born i (by omega) hi'
  rw [Array.getElem_toList, this]
  exact hb _ (List.getElem_mem _)
 rcases run_next_at (P := P) w ty r.b r2.b ck ck seen.toArray arr ck q2 p2 hold (Nat.le_refl _) with ⟨h0, hrun⟩ | ⟨e, he, w1, hw, hrun⟩
 ·refine .inl ⟨fun e he => ?_, hrun⟩
  obtain ⟨i, hi, rfl⟩ := List.mem_iff_getElem.1 he
  have hi' : i < arr.size := by omega
  have h1 : leftOf arr seen.toArray = #[] := Array.eq_empty_of_size_eq_zero h0
  unfold leftOf at h1
  rw [Array.filter_eq_empty_iff] at h1
  have := h1 arr[i] (Array.getElem_mem hi')
  rw [born i hi hi'] at this
  simpa using this
 ·have he' : e ∈ leftOf arr seen.toArray := by simpa using he
  unfold leftOf at he'
  rw [Array.mem_filter] at he'
  obtain ⟨h1, h2⟩ := he'
  obtain ⟨i, hi', rfl⟩ := Array.mem_iff_getElem.1 h1
  have hi : i < es.length := by omega
  refine .inr ⟨es[i], List.getElem_mem hi, ?_, _, _, _, hrun, ?_, ?_⟩
  ·rw [← born i hi hi']
   simpa using h2
  ·have hr1 : Rel P ρ m h w1 := by
    rcases hw with rfl | rfl
    ·exact hr
    ·exact ⟨hr.eT, hr.inj, hr.mem⟩
   refine hr1.upd g1 hρ (b := .iM mm ck (seen ++ [es[i].2.2]) ck) ?_ fun j => rfl
   rw [born i hi hi']
   have : seen.toArray.push es[i].2.2 = (seen ++ [es[i].2.2]).toArray := by simp
   rw [this]
   exact .iM _ _ _ _ _ r2 hρ2
  ·have f1 : Fr w w1 := by
    rcases hw with rfl | rfl
    ·exact .refl _
    ·exact ⟨rfl, rfl, rfl, Nat.le_refl _⟩
   exact f1.trans (World.pA _ _ _)
end Go.Am.Ytlgebaofkolkoaa.Ins
set_option linter.unusedSimpArgs false
set_option linter.unusedVariables false
set_option linter.defProp false
set_option maxRecDepth 10000
namespace Go.Am.Ytlgebaofkolkoaa.Ins
open Go Go.Am Go.Proofs
def dec (e : Ent) : Sc := match e.1 with
 | .str s => match e.2.1 with
  | .int _ v => (s, v)
  | _ => ([], 0)
 | _ => ([], 0)
structure Fit (es : List Ent) (ck : Nat) : Prop where
 e : ∀ x ∈ es, x.1 = .str (dec x).1 ∧ x.2.1 = .int .i64 (dec x).2 ∧ x.2.2 < ck
 d : (es.map fun x => x.2.2).Nodup
theorem xR : ∀ {es : List Ent} {e : Ent}, e ∈ es → (es.map fun x => x.2.2).Nodup → es.find? (fun x => x.2.2.beq e.2.2) = some e
 | x :: es, e, he, hd => by
  rw [List.find?_cons]
  by_cases c : x.2.2 = e.2.2
  ·rw [c, Nat.beq_refl]
   rcases List.mem_cons.1 he with q | q
   ·rw [q]
   ·rw [List.map_cons, List.nodup_cons] at hd
    exact absurd (List.mem_map.2 ⟨e, q, c.symm⟩) hd.1
  ·rw [show x.2.2.beq e.2.2 = false from kU c]
   rcases List.mem_cons.1 he with q | q
   ·exact absurd (by rw [q]) c
   ·rw [List.map_cons, List.nodup_cons] at hd
    exact xR q hd.2
theorem KS {α : Type} {x : M α} {h : Hp} {n : Nat} {Q : α → Hp → Nat → Prop} (hw : Wp x (fun id => if id < n then h id else none) n Q) {k : Nat} (hk : ∀ a h' n', Q a h' n' → n' ≤ n + k) (hf : ∀ id, n ≤ id → id < n + k → h id = none) :
  ∃ a t' hR, x.run (at0 h n) = .ok a t' ∧ cF t' ∧ Q a hR t'.next ∧ (∀ id, id < n → t'.heap.get id = hR id) ∧ (∀ id, n ≤ id → id < t'.next → t'.heap.get id = hR id) ∧ ∀ id, t'.next ≤ id → n ≤ id → t'.heap.get id = h id := by
 obtain ⟨a, s', he, hq⟩ := fM.1 hw
 obtain ⟨r, wr, ob, d⟩ := x.loc _ _ _ he.run
 have hn' := hk _ _ _ hq
 have lo : ∀ id, ((fun id => if id < n then h id else none) : Hp) id ≠ none → id < n := fun id q => by
  by_cases c : id < n
  ·exact c
  ·exact absurd (if_neg c) q
 obtain ⟨t', e1, e2, e3, e4, e5, e6, e7, e8⟩ := d.rP (at0 h n) rfl rfl fun id hid => by
  show h id = if id < n then h id else none
  by_cases c : id < n
  ·rw [if_pos c]
  ·rw [if_neg c]
   have nw : New (at0 (fun id => if id < n then h id else none) n) s' id → h id = none := fun q => by
    have q1 : n ≤ id := q.1
    have q2 := q.2
    exact hf id q1 (by omega)
   rcases hid with q | q | q
   ·rcases d.uX id q with u | u
    ·exact absurd (lo id u) c
    ·exact nw u
   ·rcases d.eT id q with u | u
    ·exact absurd (lo id u) c
    ·exact nw u
   ·exact nw q
 refine ⟨a, t', s'.heap.get, e1, ?_, by rw [e2]; exact hq, fun id hid => ?_, fun id h1 h2 => e7 id (.inr ⟨h1, by rw [← e2]; exact h2⟩), fun id h1 h2 => ?_⟩
 ·obtain ⟨o2, ho2, ho3⟩ := he.obs
  have : ob = o2 := by
   have := d.obs
   rw [ho2] at this
   exact (List.append_cancel_right this).symm
  unfold cF
  rw [e6, this]
  simpa [at0] using ho3
 ·by_cases c : id ∈ wr ∨ New (at0 (fun id => if id < n then h id else none) n) s' id
  ·exact e7 id c
  ·simp only [not_or] at c
   rw [e8 id c.1 c.2, d.bH id c.1 c.2]
   show h id = if id < n then h id else none
   rw [if_pos hid]
 ·refine e8 id (fun q => ?_) (fun q => by have := q.2; omega)
  rcases d.eT id q with u | u
  ·have := lo id u; omega
  ·have := u.2; omega
theorem _root_.Go.Am.jL.st {P : Program} {ρ : Ren} {m : Mem} {s : St} {w : World} {o : Option Nat} {a : Act} {e : fV} {tm : List a9} {s1 s2 : St} {e' : Exit} {a' : Act} {w' : World} {ρ' : Ren} {D : List Nat} (h : jL P ρ m s w o a e tm s1 e' a' w' ρ' D) (hh : s2.heap.get = s1.heap.get) (hn : s2.next = s1.next) : jL P ρ m s w o a e tm s2 e' a' w' ρ' D :=
 ⟨⟨h.post.ren, fun id q => (h.post.new id q).imp (fun u => u) fun u => ⟨u.1, by rw [hn]; exact u.2⟩, h.post.mem, by rw [hh]; exact h.post.rel, h.post.fr, by rw [hn]; exact h.post.next⟩, h.tmps, h.ex, h.defers, h.tE, h.inRound⟩
theorem CO (n1 : Nat) (h2 : Hp) (ρ : Ren) (m : Mem) (w : World) (a : Act) (o : Option Nat) (n : Nat) (Q : Exit → Act → World → Prop) (bb : Bool) (l : List a9) (x0 x1 x2 x6 x7 x9 x10 x12 x13 x14 x15 x16 x17 x25 x33 x34 x35 x36 x56 x58 x60 x72 : a9) (ht : RL ρ m (x0 :: x1 :: x2 :: a9.aA :: a9.aA :: a9.aA :: x6 :: x7 :: a9.aA :: x9 :: x10 :: a9.aA :: x12 :: x13 :: x14 :: x15 :: x16 :: x17 :: a9.aA :: a9.aA :: a9.aA :: a9.aA :: a9.aA :: a9.aA :: a9.aA :: x25 :: a9.aA :: a9.aA :: a9.aA :: a9.aA :: a9.aA :: a9.aA :: a9.aA :: x33 :: x34 :: x35 :: x36 :: a9.aA :: a9.aA :: a9.aA :: a9.aA :: a9.aA :: a9.aA :: a9.aA :: a9.aA :: a9.aA :: a9.aA :: a9.aA :: a9.aA :: a9.aA :: a9.aA :: a9.aA :: a9.aA :: a9.aA :: a9.aA :: a9.aA :: x56 :: a9.aA :: x58 :: .tup (.bool bb :: l) :: x60 :: a9.aA :: a9.aA :: a9.aA :: a9.aA :: a9.aA :: a9.aA :: a9.aA :: a9.aA :: a9.aA :: a9.aA :: a9.aA :: x72 :: a9.aA :: a9.aA :: a9.aA :: a9.aA :: a9.aA :: a9.aA :: a9.aA :: a9.aA :: a9.aA :: a9.aA :: a9.aA :: a9.aA :: []) a.tmps) (hr : Rel env.P ρ m h2 w)
  (hK : ∀ (a' : Act) (w' : World) (ρ' : Ren), fF env.P ρ m (at0 h2 n1) w ρ' m (at0 h2 n1) w' → RL ρ' m (x0 :: x1 :: x2 :: a9.aA :: a9.aA :: a9.aA :: x6 :: x7 :: a9.aA :: x9 :: x10 :: a9.aA :: x12 :: x13 :: x14 :: x15 :: x16 :: x17 :: a9.aA :: a9.aA :: a9.aA :: a9.aA :: a9.aA :: a9.aA :: a9.aA :: x25 :: a9.aA :: a9.aA :: a9.aA :: a9.aA :: a9.aA :: a9.aA :: a9.aA :: x33 :: x34 :: x35 :: x36 :: a9.aA :: a9.aA :: a9.aA :: a9.aA :: a9.aA :: a9.aA :: a9.aA :: a9.aA :: a9.aA :: a9.aA :: a9.aA :: a9.aA :: a9.aA :: a9.aA :: a9.aA :: a9.aA :: a9.aA :: a9.aA :: a9.aA :: x56 :: a9.aA :: x58 :: a9.aA :: .bool bb :: a9.aA :: a9.aA :: a9.aA :: a9.aA :: a9.aA :: a9.aA :: a9.aA :: a9.aA :: a9.aA :: a9.aA :: a9.aA :: x72 :: a9.aA :: a9.aA :: a9.aA :: a9.aA :: a9.aA :: a9.aA :: a9.aA :: a9.aA :: a9.aA :: a9.aA :: a9.aA :: a9.aA :: []) a'.tmps → a'.defers = a.defers → Q .normal a' w') : wpListIn (Fw o) n env.P #[zD, CP] Q [CP] a w := by
 refine vG lV [CP] (ops := #[zD, CP]) (tm' := (x0 :: x1 :: x2 :: a9.aA :: a9.aA :: a9.aA :: x6 :: x7 :: a9.aA :: x9 :: x10 :: a9.aA :: x12 :: x13 :: x14 :: x15 :: x16 :: x17 :: a9.aA :: a9.aA :: a9.aA :: a9.aA :: a9.aA :: a9.aA :: a9.aA :: x25 :: a9.aA :: a9.aA :: a9.aA :: a9.aA :: a9.aA :: a9.aA :: a9.aA :: x33 :: x34 :: x35 :: x36 :: a9.aA :: a9.aA :: a9.aA :: a9.aA :: a9.aA :: a9.aA :: a9.aA :: a9.aA :: a9.aA :: a9.aA :: a9.aA :: a9.aA :: a9.aA :: a9.aA :: a9.aA :: a9.aA :: a9.aA :: a9.aA :: a9.aA :: x56 :: a9.aA :: x58 :: .tup (.bool bb :: l) :: .bool bb :: a9.aA :: a9.aA :: a9.aA :: a9.aA :: a9.aA :: a9.aA :: a9.aA :: a9.aA :: a9.aA :: a9.aA :: a9.aA :: x72 :: a9.aA :: a9.aA :: a9.aA :: a9.aA :: a9.aA :: a9.aA :: a9.aA :: a9.aA :: a9.aA :: a9.aA :: a9.aA :: a9.aA :: [])) (s := at0 h2 n1) (s' := at0 h2 n1) rfl rfl hr (fun id q => by have := q.1; have := q.2; omega) ht fun a' w' ρ' hp ht' hd => hK a' w' ρ' hp ?_ hd
 have := sE (E := env) (fn := 17) ht'
 rw [RG] at this
 exact this
theorem I7 (rnd : Option Nat) (s : St) (ρ : Ren) (m : Mem) (w : World) (a : Act) (o : Option Nat) (n : Nat) (Q : Exit → Act → World → Prop) (it mm ck : Nat) (es : List Ent) (b : Sc) (x0 x1 x2 x6 x7 x9 x10 x12 x13 x16 x17 x25 x33 x34 x35 x36 x56 x60 x72 : a9) (hr : Rel env.P ρ m s.heap.get w)
  (hw : ∀ id, s.next ≤ id → id < s.next + es.length → ρ id = none) (ht : RL ρ m (x0 :: x1 :: x2 :: a9.aA :: a9.aA :: a9.aA :: x6 :: x7 :: a9.aA :: x9 :: x10 :: a9.aA :: x12 :: x13 :: .str b.1 :: .int .i64 b.2 :: x16 :: x17 :: a9.aA :: a9.aA :: a9.aA :: a9.aA :: a9.aA :: a9.aA :: a9.aA :: x25 :: a9.aA :: a9.aA :: a9.aA :: a9.aA :: a9.aA :: a9.aA :: a9.aA :: x33 :: x34 :: x35 :: x36 :: a9.aA :: a9.aA :: a9.aA :: a9.aA :: a9.aA :: a9.aA :: a9.aA :: a9.aA :: a9.aA :: a9.aA :: a9.aA :: a9.aA :: a9.aA :: a9.aA :: a9.aA :: a9.aA :: a9.aA :: a9.aA :: a9.aA :: x56 :: a9.aA :: .ptr it 0 :: a9.aA :: x60 :: a9.aA :: a9.aA :: a9.aA :: a9.aA :: a9.aA :: a9.aA :: a9.aA :: a9.aA :: a9.aA :: a9.aA :: a9.aA :: x72 :: a9.aA :: a9.aA :: a9.aA :: a9.aA :: a9.aA :: a9.aA :: a9.aA :: a9.aA :: a9.aA :: a9.aA :: a9.aA :: a9.aA :: []) a.tmps) (hn : RN ρ rnd o) (g1 : s.heap.get it = some (.iM mm ck [] ck)) (g2 : s.heap.get mm = some (.map es ck)) (fit : Fit es ck) (itn : it < s.next) (mmn : mm < s.next)
  (hQ : ∀ (a' : Act) (w' : World) (ρ' : Ren) (D : List Nat) (y16 y17 y60 y72 : a9) (h' : Hp), jL env.P ρ m s w o a .normal (x0 :: x1 :: x2 :: a9.aA :: a9.aA :: a9.aA :: x6 :: x7 :: a9.aA :: x9 :: x10 :: a9.aA :: x12 :: x13 :: .str ((es.map dec).foldl bet b).1 :: .int .i64 ((es.map dec).foldl bet b).2 :: y16 :: y17 :: a9.aA :: a9.aA :: a9.aA :: a9.aA :: a9.aA :: a9.aA :: a9.aA :: x25 :: a9.aA :: a9.aA :: a9.aA :: a9.aA :: a9.aA :: a9.aA :: a9.aA :: x33 :: x34 :: x35 :: x36 :: a9.aA :: a9.aA :: a9.aA :: a9.aA :: a9.aA :: a9.aA :: a9.aA :: a9.aA :: a9.aA :: a9.aA :: a9.aA :: a9.aA :: a9.aA :: a9.aA :: a9.aA :: a9.aA :: a9.aA :: a9.aA :: a9.aA :: x56 :: a9.aA :: .ptr it 0 :: a9.aA :: y60 :: a9.aA :: a9.aA :: a9.aA :: a9.aA :: a9.aA :: a9.aA :: a9.aA :: a9.aA :: a9.aA :: a9.aA :: a9.aA :: y72 :: a9.aA :: a9.aA :: a9.aA :: a9.aA :: a9.aA :: a9.aA :: a9.aA :: a9.aA :: a9.aA :: a9.aA :: a9.aA :: a9.aA :: []) (at0 h' (s.next + es.length)) .normal a' w' ρ' D →
   (∀ id, id ≠ it → (id < s.next ∨ s.next + es.length ≤ id) → h' id = s.heap.get id) → Q .normal a' w') :
  (Code.block 4 (.loop sD)).wpIn (Fw o) n env.P Q a w := by
 have xP : ∀ id, s.next ≤ id → id < s.next + es.length → s.heap.get id = none := fun id h1 h2 => by
  cases e : s.heap.get id with
  | none => rfl
  | some c =>
   obtain ⟨rb, ob, q1, _⟩ := hr.eT id c e
   rw [hw id h1 h2] at q1
   cases q1
 have itw : it < s.next ∨ s.next + es.length ≤ it := .inl itn
 have mmw : mm < s.next ∨ s.next + es.length ≤ mm := .inl mmn
 have mi : mm ≠ it := fun e => by rw [e, g1] at g2; cases g2
 let I : Nat → Act → World → Prop := fun j a1 w1 => ∃ (done bH : List Ent) (h1 : Hp) (ρ1 : Ren) (D1 : List Nat) (y16 y17 y60 y72 : a9), es.Perm (done ++ bH) ∧ j = bH.length + 1 ∧
  jL env.P ρ m s w o a .normal (x0 :: x1 :: x2 :: a9.aA :: a9.aA :: a9.aA :: x6 :: x7 :: a9.aA :: x9 :: x10 :: a9.aA :: x12 :: x13 :: .str ((done.map dec).foldl bet b).1 :: .int .i64 ((done.map dec).foldl bet b).2 :: y16 :: y17 :: a9.aA :: a9.aA :: a9.aA :: a9.aA :: a9.aA :: a9.aA :: a9.aA :: x25 :: a9.aA :: a9.aA :: a9.aA :: a9.aA :: a9.aA :: a9.aA :: a9.aA :: x33 :: x34 :: x35 :: x36 :: a9.aA :: a9.aA :: a9.aA :: a9.aA :: a9.aA :: a9.aA :: a9.aA :: a9.aA :: a9.aA :: a9.aA :: a9.aA :: a9.aA :: a9.aA :: a9.aA :: a9.aA :: a9.aA :: a9.aA :: a9.aA :: a9.aA :: x56 :: a9.aA :: .ptr it 0 :: a9.aA :: y60 :: a9.aA :: a9.aA :: a9.aA :: a9.aA :: a9.aA :: a9.aA :: a9.aA :: a9.aA :: a9.aA :: a9.aA :: a9.aA :: y72 :: a9.aA :: a9.aA :: a9.aA :: a9.aA :: a9.aA :: a9.aA :: a9.aA :: a9.aA :: a9.aA :: a9.aA :: a9.aA :: a9.aA :: []) (at0 h1 (s.next + done.length)) .normal a1 w1 ρ1 D1 ∧
  h1 it = some (.iM mm ck (done.map fun x => x.2.2) ck) ∧ (∀ id, id ≠ it → (id < s.next ∨ s.next + es.length ≤ id) → h1 id = s.heap.get id) ∧ ∀ id, s.next + done.length ≤ id → id < s.next + es.length → h1 id = none
 refine wpIn_block (rH I (fun a1 w1 hI => ?_) (fun j a1 w1 hI => ?_) (es.length + 1) ?_)
 ·obtain ⟨done, bH, h1, ρ1, D1, y16, y17, y60, y72, _, q, _⟩ := hI
  omega
 ·obtain ⟨done, bH, h1, ρ1, D1, y16, y17, y60, y72, hp, hj, he, k1, k2, k3⟩ := hI
  have hlen : es.length = done.length + bH.length := by rw [hp.length_eq, List.length_append]
  have k2m : h1 mm = some (.map es ck) := by rw [k2 mm mi mmw]; exact g2
  rw [UW]
  have hx : R ρ1 (m.with D1) (.ptr it 0) (a1.eval (.tmp 58)) := cI he.tmps (.tmp 58)
  have hns := IF (P := env.P) he.post.rel hx k1 k2m (fun e q => (fit.e e q).2.2) 0
  refine wpIn_seq (wpIn_region_list ?_)
  show (if Region.wanted zD (yielded #[zD, CP] a1.tmps) then zD.wpIn _ _ _ a1 w1 _ _ else _)
  rw [if_pos (by rfl)]
  refine ⟨fun _ _ => trivial, ?_⟩
  have hsem : zD.semAt (Fw o).round a1.eval = Go.execOp a1.eval zD := Oper.semAt_eq _ _ _ (fun c hc => by cases hc)
  rw [hsem]
  have hex : ∀ x w2, (Instr.next (a1.eval (.tmp 58)) false 0).run env.P w1 = .ok x w2 → (Go.execOp a1.eval zD).run env.P w1 = .ok (.value x) w2 := fun x w2 e => by
   simp only [Go.execOp, zD, Sem.run_bind, e, Result.andThen_ok, Sem.run_pure]
  have nd : ((done ++ bH).map fun x => x.2.2).Nodup := (hp.map _).nodup_iff.1 fit.d
  rw [List.map_append, List.nodup_append] at nd
  have ht1 := he.tmps
  rcases hns with ⟨hall, hrun⟩ | ⟨e, hes, hnew, k, v, w2, hrun, hr2, hfr⟩
  ·rw [hex _ _ hrun]
   show wpListIn _ _ _ _ _ [CP] (a1.put (some 59) (.tuple #[.bool false])) w1
   have rest0 : bH = [] := by
    cases bH with
    | nil => rfl
    | cons e bH =>
     have h1 := hall e (hp.mem_iff.2 (by simp))
     exact absurd rfl (nd.2.2 _ h1 e.2.2 (by simp))
   subst rest0
   rw [List.append_nil] at hp
   have hl : done.length = es.length := hp.length_eq.symm
   have hv : R ρ1 (m.with D1) (.tup (.bool false :: [])) (.tuple #[.bool false]) := .tup _ _ rfl fun i v x hv hx => by
    rcases i with _ | i
    ·simp at hv hx
     subst hv; subst hx
     exact .bool _
    ·simp at hv
   have ht2 := qO ht1 (some 59) hv
   refine CO (s.next + done.length) h1 ρ1 (m.with D1) w1 _ o n _ false [] _ _ _ _ _ _ _ _ _ _ _ _ _ _ _ _ _ _ _ _ _ _ ht2 he.post.rel fun a3 w3 ρ3 hp3 ht3 hd3 => ?_
   have hev : a3.eval (.tmp 60) = .bool false := by
    have := cI ht3 (.tmp 60)
    exact R.bool_inv this
   refine wpIn_seq (wpIn_cond_false hev (wpIn_exit ?_))
   show Exit.inBlock 4 Q (.exit 4) a3 w3
   simp only [Exit.inBlock, if_pos]
   have hfin : jL env.P ρ1 (m.with D1) (at0 h1 (s.next + done.length)) w1 o a1 .normal _ (at0 h1 (s.next + done.length)) .normal a3 w3 ρ3 [] := ⟨by rw [Mem.fG]; exact hp3, by rw [Mem.fG]; exact ht3, .normal, by rw [hd3, Act.mC]; rfl, .nil _, fun _ => rfl⟩
   have hA := he.trans hfin
   rw [hl, ← JM (hp.map dec) b] at hA
   exact hQ a3 w3 ρ3 _ y16 y17 _ y72 h1 hA k2
  ·rw [hex _ _ hrun]
   show wpListIn _ _ _ _ _ [CP] (a1.put (some 59) (.tuple #[.bool true, k, v])) w2
   have her : e ∈ bH := by
    rcases List.mem_append.1 (hp.mem_iff.1 hes) with q | q
    ·exact absurd (List.mem_map.2 ⟨e, q, rfl⟩) hnew
    ·exact q
   obtain ⟨r1, r2, rfl⟩ := List.append_of_mem her
   have hp' : es.Perm ((done ++ [e]) ++ (r1 ++ r2)) := hp.trans (by
    rw [List.append_assoc]
    exact List.Perm.append_left _ List.perm_middle)
   have hlen' : es.length = done.length + (r1.length + 1 + r2.length) := by rw [hlen, List.length_append, List.length_cons]; omega
   have hv : R ρ1 (m.with D1) (.tup (.bool true :: [.aA, .aA])) (.tuple #[.bool true, k, v]) := .tup _ _ rfl fun i v x hv hx => by
    rcases i with _ | _ | _ | i
    ·simp at hv hx
     subst hv; subst hx
     exact .bool _
    ·simp at hv
     subst hv
     exact .aA _
    ·simp at hv
     subst hv
     exact .aA _
    ·simp at hv
   have ht2 := qO ht1 (some 59) hv
   replace hr2 : Rel env.P ρ1 (m.with D1) (upd h1 it (some (.iM mm ck ((done.map fun x => x.2.2) ++ [e.2.2]) ck))) w2 := hr2
   generalize hh2 : upd h1 it (some (.iM mm ck ((done.map fun x => x.2.2) ++ [e.2.2]) ck)) = h2 at hr2
   have k1' : h2 it = some (.iM mm ck ((done.map fun x => x.2.2) ++ [e.2.2]) ck) := by rw [← hh2, aP]
   have o2 : ∀ j, j ≠ it → h2 j = h1 j := fun j hj => by rw [← hh2, aG _ _ hj]
   have fresh1 : ∀ id, s.next + done.length ≤ id → id < s.next + es.length → ρ1 id = none := fun id q1 q2 => by
    cases e1 : ρ1 id with
    | none => rfl
    | some rb =>
     rcases he.post.new id (by rw [e1]; simp) with q | q
     ·exact absurd (hw id (by omega) q2) q
     ·have := q.2
      have : id < s.next + done.length := this
      omega
   refine CO (s.next + done.length) h2 ρ1 (m.with D1) w2 _ o n _ true _ _ _ _ _ _ _ _ _ _ _ _ _ _ _ _ _ _ _ _ _ _ _ ht2 hr2 fun a3 w3 ρ3 hp3 ht3 hd3 => ?_
   have hev : a3.eval (.tmp 60) = .bool true := R.bool_inv (cI ht3 (.tmp 60))
   refine wpIn_seq (wpIn_cond_true hev (wpIn_skip ?_))
   show (Code.block 5 b5).wpIn _ _ _ _ a3 w3
   have fite := fit.e e hes
   have hfe := xR hes fit.d
   have hit := al8 rnd (fun ee tm' h' n' => ee = .normal ∧ ∃ (y16 y17 y72 : a9) (c : Blk), tm' = (x0 :: x1 :: x2 :: a9.aA :: a9.aA :: a9.aA :: x6 :: x7 :: a9.aA :: x9 :: x10 :: a9.aA :: x12 :: x13 :: .str (bet ((done.map dec).foldl bet b) (dec e)).1 :: .int .i64 (bet ((done.map dec).foldl bet b) (dec e)).2 :: y16 :: y17 :: a9.aA :: a9.aA :: a9.aA :: a9.aA :: a9.aA :: a9.aA :: a9.aA :: x25 :: a9.aA :: a9.aA :: a9.aA :: a9.aA :: a9.aA :: a9.aA :: a9.aA :: x33 :: x34 :: x35 :: x36 :: a9.aA :: a9.aA :: a9.aA :: a9.aA :: a9.aA :: a9.aA :: a9.aA :: a9.aA :: a9.aA :: a9.aA :: a9.aA :: a9.aA :: a9.aA :: a9.aA :: a9.aA :: a9.aA :: a9.aA :: a9.aA :: a9.aA :: x56 :: a9.aA :: .ptr it 0 :: a9.aA :: .bool true :: a9.aA :: a9.aA :: a9.aA :: a9.aA :: a9.aA :: a9.aA :: a9.aA :: a9.aA :: a9.aA :: a9.aA :: a9.aA :: y72 :: a9.aA :: a9.aA :: a9.aA :: a9.aA :: a9.aA :: a9.aA :: a9.aA :: a9.aA :: a9.aA :: a9.aA :: a9.aA :: a9.aA :: []) ∧ h' = upd (fun id => if id < s.next + done.length then h2 id else none) (s.next + done.length) (some c) ∧ n' = s.next + done.length + 1)
    it mm ck e.2.2 es (done.map fun x => x.2.2) (dec e).1 (dec e).2 ((done.map dec).foldl bet b) (fun id => if id < s.next + done.length then h2 id else none) (s.next + done.length) x0 x1 x2 x6 x7 x9 x10 x12 x13 y16 y17 x25 x33 x34 x35 x36 x56 (.bool true) y72
    (by rw [if_pos (by omega)]; exact k1') (by rw [if_pos (by omega), o2 mm mi]; exact k2m) (by rw [hfe, ← fite.1, ← fite.2.1]) (fun j hj => if_neg (by omega)) (fun y16 y17 y72 c => ⟨rfl, y16, y17, y72, c, rfl, rfl, rfl⟩)
   obtain ⟨⟨ee, tm4⟩, t4, hR, hrun4, ho4, ⟨he4, z16, z17, z72, c, htm4, hhR, hn4⟩, l1, l2, l3⟩ := KS (h := h2) hit (k := 1) (fun a' h' n' q => by obtain ⟨_, _, _, _, _, _, _, q⟩ := q; omega) (fun id q1 q2 => by rw [o2 id (by omega)]; exact k3 id q1 (by omega))
   simp only at he4 htm4
   subst he4; subst htm4
   have new4 : ∀ id, New (at0 h2 (s.next + done.length)) t4 id → s.next + done.length ≤ id ∧ id < s.next + es.length := fun id q => by
    have q1 : s.next + done.length ≤ id := q.1
    have q2 := q.2
    omega
   refine lV 17 rnd (.block 5 b5) _ _ _ (at0 h2 (s.next + done.length)) t4 hrun4 ho4 ρ3 (m.with D1) w3 a3 o n _ hp3.rel (fun id q => ?_) ht3 (hn.mono fun id r q => hp3.ren id r (he.post.ren id r q)) fun e5 a5 w5 ρ5 D5 he5 => ?_
   ·obtain ⟨q1, q2⟩ := new4 id q
    cases e1 : ρ3 id with
    | none => rfl
    | some rb =>
     rcases hp3.new id (by rw [e1]; simp) with q3 | q3
     ·exact absurd (fresh1 id q1 q2) q3
     ·have h1 := q3.1
      have h2 := q3.2
      have : id < s.next + done.length := h2
      omega
   ·have hex5 := he5.ex
    cases hex5
    show I j a5 w5
    have hpa : fF env.P ρ1 (m.with D1) (at0 h1 (s.next + done.length)) w1 ρ1 (m.with D1) (at0 h2 (s.next + done.length)) w2 := ⟨fun _ _ q => q, fun _ q => .inl q, fun _ _ q => q, hr2, hfr, Nat.le_refl _⟩
    have hA0 : jL env.P ρ1 (m.with D1) (at0 h1 (s.next + done.length)) w1 o a1 .normal _ (at0 h2 (s.next + done.length)) .normal a3 w3 ρ3 [] := ⟨by rw [Mem.fG]; exact hpa.trans hp3, by rw [Mem.fG]; exact ht3, .normal, by rw [hd3, Act.mC]; rfl, .nil _, fun _ => rfl⟩
    have hA1 := he.trans hA0
    have hA2 := hA1.trans he5
    have hl5 : (done ++ [e]).length = done.length + 1 := by simp
    have hfo : ((done ++ [e]).map dec).foldl bet b = bet ((done.map dec).foldl bet b) (dec e) := by simp
    have hRid : ∀ id, id < s.next + done.length → t4.heap.get id = h2 id := fun id q => by
     rw [l1 id q, hhR, aG _ _ (by omega), if_pos q]
    refine ⟨done ++ [e], r1 ++ r2, t4.heap.get, ρ5, D5 ++ ([] ++ D1), z16, z17, .bool true, z72, hp', ?_, ?_, ?_, fun id q1 q2 => ?_, fun id q1 q2 => ?_⟩
    ·rw [List.length_append] at hj ⊢
     rw [List.length_cons] at hj
     omega
    ·rw [hfo, hl5]
     exact hA2.st rfl (by rw [hn4]; rfl)
    ·rw [hRid it (by omega), k1', List.map_append]; rfl
    ·by_cases q : id < s.next + done.length
     ·rw [hRid id q, o2 id q1, k2 id q1 q2]
     ·rw [l3 id (by omega) (by omega), o2 id q1, k2 id q1 q2]
    ·rw [hl5] at q1
     rw [l3 id (by omega) (by omega), o2 id (by omega)]
     exact k3 id (by omega) q2
 ·refine ⟨[], es, s.heap.get, ρ, [], x16, x17, x60, x72, by simp, rfl, ⟨?_, ?_, .normal, rfl, .nil m, fun _ => rfl⟩, g1, fun id _ _ => rfl, fun id h1 h2 => xP id h1 h2⟩
  ·rw [Mem.fG]
   exact .same hr (fun _ => rfl) rfl
  ·rw [Mem.fG]
   exact ht
end Go.Am.Ytlgebaofkolkoaa.Ins
set_option linter.unusedSimpArgs false
set_option linter.unusedVariables false
set_option linter.defProp false
set_option maxRecDepth 10000
namespace Go.Am.Ytlgebaofkolkoaa.Ins
open Go Go.Am Go.Proofs
def CT : Nat → M Unit
 | 0 => M.pure ()
 | k + 1 => (pN (.mT [] 0)).bind fun id => (zG id).bind fun _ => CT k
def EJ : List Bool := [true, true, true, false, false, false, true, true, false, true, true, false, true, true, true, true, false, false, false, false, false, false, false, false, false, true, false, false, false, false, false, false, false, true, true, true, true, false, false, false, false, false, false, false, false, false, false, false, false, false, false, false, false, false, false, false, true, false, true, false, false, false, false, false, false, false, false, false, false, false, false, false, false, false, false, false, false, false, false, false, false, false, false, false, false]
def BU (es : List Ent) (b : Sc) : Sc := (es.map dec).foldl bet b
def HD (tm : List a9) (r : Sc) : List a9 := aE EJ (Go.Am.put (Go.Am.put tm 14 (.str r.1)) 15 (.int .i64 r.2))
open Classical in
noncomputable def qN (tm : List a9) : M (fV × List a9) := match tm.length.beq 85 with
 | false => bF "Rich"
 | true => match (tm[58]? : Option a9) with
  | some (.ptr it 0) => match (tm[14]? : Option a9) with
   | some (.str s) => match (tm[15]? : Option a9) with
    | some (.int .i64 v) => (fT it).bind fun x => match x with
     | .iM mm since seen iD => (fT mm).bind fun y => match y with
      | .map es ck => (pN (.mT [] 0)).bind fun id => (zG id).bind fun _ => if Fit es ck ∧ seen = [] ∧ since = ck ∧ iD = ck ∧ it < id ∧ mm < id then (CT es.length).bind fun _ => (zG it).bind fun _ => M.pure (.normal, HD tm (BU es (s, v))) else bF "Rich"
      | _ => bF "Rich"
     | _ => bF "Rich"
    | _ => bF "Rich"
   | _ => bF "Rich"
  | _ => bF "Rich"
theorem CS : ∀ (k : Nat) {s s' : St} {u : Unit}, (CT k).run s = .ok u s' → s'.next = s.next + k ∧ (∀ id, id < s.next → s'.heap.get id = s.heap.get id) ∧ (∀ id, s.next ≤ id → id < s.next + k → s'.heap.get id = none) ∧ ∀ id, s.next + k ≤ id → s'.heap.get id = s.heap.get id
 | 0, s, s', u, h => by
  obtain ⟨_, rfl⟩ := aC h
  exact ⟨rfl, fun _ _ => rfl, fun id h1 h2 => by omega, fun _ _ => rfl⟩
 | k + 1, s, s', u, h => by
  obtain ⟨id, s1, h1, h2⟩ := M.aF h
  obtain ⟨rfl, n1, g1⟩ := uI h1
  obtain ⟨_, s2, h3, h4⟩ := M.aF h2
  obtain ⟨_, n2, g2⟩ := tG h3
  obtain ⟨a, b, c, d⟩ := CS k h4
  have e : ∀ j, s2.heap.get j = if j = s.next then none else s.heap.get j := fun j => by
   rw [g2 j]
   by_cases q : j = s.next
   ·rw [if_pos q, if_pos q]
   ·rw [if_neg q, if_neg q, g1 j, if_neg q]
  refine ⟨by omega, fun id hid => ?_, fun id h5 h6 => ?_, fun id hid => ?_⟩
  ·rw [b id (by omega), e, if_neg (by omega)]
  ·by_cases q : id = s.next
   ·rw [b id (by omega), e, if_pos q]
   ·exact c id (by omega) (by omega)
  ·rw [d id (by omega), e, if_neg (by omega)]
def JL : List a9 → List a9 → Prop
 | [], [] => True
 | a :: l, b :: m => (a = .aA ∨ a = b) ∧ JL l m
 | _, _ => False
theorem JL.rl : ∀ {l l' : List a9} {ρ : Ren} {m : Mem} {c : List Value}, JL l' l → RL ρ m l c.toArray → RL ρ m l' c.toArray
 | [], [], _, _, _, _, h => h
 | b :: l, a :: l', ρ, m, c, hj, h => by
  obtain ⟨hl, hat⟩ := h
  cases c with
  | nil => simp at hl
  | cons y c =>
   have ih := JL.rl (l := l) (l' := l') (ρ := ρ) (m := m) (c := c) hj.2 ⟨by simpa using hl, fun i v x hv hx => hat (i + 1) v x (by simpa using hv) (by simpa using hx)⟩
   refine ⟨by simpa using ih.len, fun i v x hv hx => ?_⟩
   cases i with
   | zero =>
    simp at hv hx
    subst hv; subst hx
    rcases hj.1 with q | q
    ·rw [q]; exact .aA _
    ·exact hat 0 a y (by rw [q]; rfl) rfl
   | succ i => exact ih.at_ i v x (by simpa using hv) (by simpa using hx)
theorem JL.rl' {l l' : List a9} {ρ : Ren} {m : Mem} {c : Array Value} (h : JL l' l) (r : RL ρ m l c) : RL ρ m l' c := by
 have : c = c.toList.toArray := by simp
 rw [this] at r ⊢
 exact h.rl r
theorem JL.nil : JL [] [] := trivial
theorem JL.cons {a b : a9} {l m : List a9} (h : a = .aA ∨ a = b) (k : JL l m) : JL (a :: l) (b :: m) := ⟨h, k⟩
theorem aD2 {tm : List a9} (h : tm.length = 85) : ∃ g : Nat → a9, tm = [g 0, g 1, g 2, g 3, g 4, g 5, g 6, g 7, g 8, g 9, g 10, g 11, g 12, g 13, g 14, g 15, g 16, g 17, g 18, g 19, g 20, g 21, g 22, g 23, g 24, g 25, g 26, g 27, g 28, g 29, g 30, g 31, g 32, g 33, g 34, g 35, g 36, g 37, g 38, g 39, g 40, g 41, g 42, g 43, g 44, g 45, g 46, g 47, g 48, g 49, g 50, g 51, g 52, g 53, g 54, g 55, g 56, g 57, g 58, g 59, g 60, g 61, g 62, g 63, g 64, g 65, g 66, g 67, g 68, g 69, g 70, g 71, g 72, g 73, g 74, g 75, g 76, g 77, g 78, g 79, g 80, g 81, g 82, g 83, g 84] := by
 refine ⟨fun i => tm.getD i undef, ?_⟩
 have : tm = (List.range 85).map fun i => tm.getD i undef := by
  refine List.ext_getElem (by simp [h]) fun i h1 h2 => ?_
  simp [List.getD_eq_getElem?_getD, List.getElem?_eq_getElem h1]
 exact this
theorem KX (rnd : Option Nat) : sN env.P rnd (.block 4 (.loop sD)) qN := by
 intro tm e tm' s s' h ho ρ m w a o n Q hr hf ht hn hQ
 unfold qN at h
 split at h
 ·exact (aD h).elim
 rename_i hl85
 split at h
 case h_2 => exact (aD h).elim
 rename_i it h58
 split at h
 case h_2 => exact (aD h).elim
 rename_i b14 h14
 split at h
 case h_2 => exact (aD h).elim
 rename_i b15 h15
 obtain ⟨x, s1, h1, h2⟩ := M.aF h
 obtain ⟨hg1, e1⟩ := eC h1
 split at h2
 case h_2 => exact (aD h2).elim
 rename_i mm since seen iD
 obtain ⟨y, s2, h3, h4⟩ := M.aF h2
 obtain ⟨hg2, e2⟩ := eC h3
 split at h4
 case h_2 => exact (aD h4).elim
 rename_i es ck
 obtain ⟨id, s3, h5, h6⟩ := M.aF h4
 obtain ⟨rfl, n3, k3⟩ := uI h5
 obtain ⟨_, s4, h7, h8⟩ := M.aF h6
 obtain ⟨_, n4, k4⟩ := tG h7
 split at h8
 case isFalse => exact (aD h8).elim
 rename_i hc
 obtain ⟨fit, rfl, rfl, rfl, itn, mmn⟩ := hc
 obtain ⟨_, s5, h9, h10⟩ := M.aF h8
 obtain ⟨n5, q5, r5, t5⟩ := CS _ h9
 obtain ⟨_, s6, h11, h12⟩ := M.aF h10
 obtain ⟨_, n6, k6⟩ := tG h11
 obtain ⟨he, rfl⟩ := aC h12
 injection he with u1 u2
 subst u1; subst u2
 rw [e1.heap] at hg2
 have nn : s2.next = s.next := by rw [e2.next, e1.next]
 rw [nn] at itn mmn
 obtain ⟨g, rfl⟩ := aD2 (Nat.eq_of_beq_eq_true hl85)
 have p58 : g 58 = .ptr it 0 := Option.some.inj h58
 have p14 : g 14 = .str b14 := Option.some.inj h14
 have p15 : g 15 = .int .i64 b15 := Option.some.inj h15
 have hh2 : s2.heap.get = s.heap.get := by funext j; rw [e2.heap, e1.heap]
 have h4g : ∀ j, s4.heap.get j = if j = s.next then none else s.heap.get j := fun j => by
  rw [k4 j, nn]
  by_cases q : j = s.next
  ·rw [if_pos q, if_pos q]
  ·rw [if_neg q, if_neg q, k3 j, nn, if_neg q, hh2]
 have n4' : s4.next = s.next + 1 := by omega
 have ns' : s'.next = s.next + 1 + es.length := by omega
 have hs' : ∀ id c, s'.heap.get id = some c → id ≠ it ∧ (id < s.next ∨ s.next + es.length ≤ id) ∧ s.heap.get id = some c := fun id c hc => by
  rw [k6 id] at hc
  by_cases q : id = it
  ·rw [if_pos q] at hc; cases hc
  ·rw [if_neg q] at hc
   refine ⟨q, ?_⟩
   by_cases q1 : id < s4.next
   ·rw [q5 id q1, h4g] at hc
    by_cases q2 : id = s.next
    ·rw [if_pos q2] at hc; cases hc
    ·rw [if_neg q2] at hc
     exact ⟨.inl (by omega), hc⟩
   ·by_cases q3 : id < s4.next + es.length
    ·rw [r5 id (by omega) q3] at hc; cases hc
    ·rw [t5 id (by omega), h4g, if_neg (by omega)] at hc
     exact ⟨.inr (by omega), hc⟩
 refine I7 rnd s ρ m w a o n Q it mm _ es (b14, b15) (g 0) (g 1) (g 2) (g 6) (g 7) (g 9) (g 10) (g 12) (g 13) (g 16) (g 17) (g 25) (g 33) (g 34) (g 35) (g 36) (g 56) (g 60) (g 72) hr (fun id q1 q2 => hf id ⟨q1, by omega⟩) (JL.rl' ?_ ht) hn hg1 hg2 fit itn mmn ?_
 ·repeat' first | exact JL.nil | refine JL.cons (.inl rfl) ?_ | refine JL.cons (.inr rfl) ?_ | refine JL.cons (.inr p14.symm) ?_ | refine JL.cons (.inr p15.symm) ?_ | refine JL.cons (.inr p58.symm) ?_
 ·intro a' w' ρ' D y16 y17 y60 y72 h' hA hk
  refine hQ .normal a' w' ρ' D ⟨⟨hA.post.ren, fun id q => (hA.post.new id q).imp (fun u => u) fun u => ⟨u.1, ?_⟩, hA.post.mem, Rel.sub hA.post.rel fun id c hc => ?_, hA.post.fr, by omega⟩, JL.rl' ?_ hA.tmps, .normal, hA.defers, hA.tE, hA.inRound⟩
  ·have : id < s.next + es.length := u.2
   omega
  ·obtain ⟨q1, q2, q3⟩ := hs' id c hc
   show h' id = some c
   rw [hk id q1 q2]; exact q3
  ·unfold BU
   simp only [HD, EJ, aE, Go.Am.put]
   repeat' first | exact JL.nil | refine JL.cons (.inl rfl) ?_ | refine JL.cons (.inr rfl) ?_ | refine JL.cons (.inr p58) ?_
noncomputable def UM : p8 Try.prog := ⟨17, 4, .block 4 (.loop sD), qN, KX⟩
end Go.Am.Ytlgebaofkolkoaa.Ins
set_option linter.unusedSimpArgs false
set_option linter.unusedVariables false
set_option linter.defProp false
set_option maxRecDepth 10000
namespace Go.Am.Ytlgebaofkolkoaa.Ins
open Go Go.Am Go.Proofs
theorem u95 : und env 95 = M.pure (.slice 128) := by simp only [und, pC, aB]
theorem rC : sizeOf env 128 = M.pure 1 := by simp only [sizeOf, jB, aB]
theorem PN {h : Hp} {n id len C xid : Nat} {cells : List a9} {xc : bK} {e' : TypeId} (hh : h id = some (.row (.l cells) 128)) (hC : cells.length = C) (hl : len ≤ C) (hr : 2 * (len + 1) * 8 ≤ 281474976710656) (hr2 : len + 1 ≤ 281474976710656)
  (hx : h xid = some (.row xc e')) (hxc : 0 < xc.size) (hv : bI (xc.at 0) = true) :
  Wp (gH env [95, 95] (.sl id 0 len (some C) 1) (.sl xid 0 1 (some 1) 1)) h n fun v' h' n' =>
   (len + 1 ≤ C ∧ v' = .sl id 0 (len + 1) (some C) 1 ∧ n' = n ∧ h' = upd h id (some (.row (.l (cH cells len [xc.at 0])) 128))) ∨
   (C < len + 1 ∧ v' = .sl n 0 (len + 1) none 1 ∧ n' = n + 1 ∧ h' = upd h n (some (.row (.l (cells.take len ++ [xc.at 0])) 128))) := by
 have hx1 : Rds h 1 (.sl xid 0 1 (some 1) 1) 1 [xc.at 0] := .sl xid 0 1 (some 1) xc e' _ hx rfl (by simp; omega) (fun j hj => by
  have : j = 0 := by simpa using hj
  subst this; rfl)
 have hs : Rds h 1 (.sl id 0 len (some C) 1) len (cells.take len) := .sl id 0 len (some C) (.l cells) 128 _ hh (by rw [List.length_take]; omega) (by rw [List.length_take]; show 0 + _ ≤ cells.length; omega) (fun j hj => by
  rw [List.length_take] at hj
  rw [Nat.zero_add, bK.vW (by omega), List.getElem_take])
 simp only [gH, u95, aB, eJ, append, jB, lenOf, bind_assoc, hU, show (Nat.beq 1 0) = false from rfl]
 refine fL hx1.cells ?_
 simp only [bE, show (Nat.beq 1 1) = true from rfl, fW, hh, Option.some.injEq, exists_eq_left', cT, hU]
 by_cases hf : len + 1 ≤ C
 ·rw [dS hf]
  have hb : (len + 1).ble cells.length = true := dS (by omega)
  simp only [eK, Nat.zero_add, Nat.mul_one, bind_assoc, fW, hh, Option.some.injEq, exists_eq_left', cT, fP, bK.size, List.length_singleton, hb, List.all_cons, List.all_nil, hv, Bool.and_true, nZ, true_and, aM]
  rw [nH _ _ _ (by simp; omega)]
  exact ⟨by simp, .inl ⟨hf, rfl⟩⟩
 ·rw [iL hf]
  refine fL hs.cells ?_
  have r1 : ((2 * (len + 1) * 8).ble room && (len + 1).ble room) = true := by
   unfold room
   rw [dS hr, dS hr2]; rfl
  simp only [iS, fP, hO, aM, r1, true_and]
  exact .inr ⟨by omega, trivial⟩
theorem SC {id len C k : Nat} {z : Int} (hz : z = (k : Nat)) (hk : k ≤ C) {h' : Hp} {n' : Nat} : Rd (slice env 95 (.sl id 0 len (some C) 1) none (some (.int .i64 z)) none) h' n' [] (.sl id 0 k (some C) 1) := by
 subst hz
 simp only [slice, u95, rC, aB, dN, dC, bind_assoc, bE, show (Nat.beq 1 1) = true from rfl, Nat.zero_mul, Nat.add_zero, Nat.sub_zero, Int.toNat_natCast]
 exact Rd.bind (i2 := []) (Rd.ob (decide_eq_true ⟨by omega, by omega⟩)) (Rd.pure _)
theorem CD {id len C k : Nat} {z : Int} (hz : z = (k : Nat)) (hk : k ≤ len) (hl : len ≤ C) {h' : Hp} {n' : Nat} : Rd (slice env 95 (.sl id 0 len (some C) 1) (some (.int .i64 z)) none none) h' n' [] (.sl id k (len - k) (some (C - k)) 1) := by
 subst hz
 simp only [slice, u95, rC, aB, dN, dC, bind_assoc, bE, show (Nat.beq 1 1) = true from rfl, Nat.zero_add, Nat.mul_one, Int.toNat_natCast]
 exact Rd.bind (i2 := []) (Rd.ob (decide_eq_true ⟨by omega, by omega⟩)) (Rd.pure _)
theorem KO {id len k : Nat} {z : Int} (hz : z = (k : Nat)) (hk : k ≤ len) {h' : Hp} {n' : Nat} : Rd (slice env 95 (.sl id 0 len none 1) (some (.int .i64 z)) none none) h' n' [] (.sl id k (len - k) none 1) := by
 subst hz
 simp only [slice, mA, u95, rC, aB, dN, dC, bind_assoc, bE, show (Nat.beq 1 1) = true from rfl, Nat.zero_add, Nat.mul_one, Int.toNat_natCast]
 exact Rd.bind (i2 := []) (Rd.ob (decide_eq_true ⟨by omega, by omega⟩)) (Rd.pure _)
theorem YR (m : Nat) : (fS [a9.dP] m).length = m := by rw [KY]; simp
theorem PM {h : Hp} {n id k C m : Nat} {cells : List a9} {z : Int} (hz : z = (m : Nat)) (hh : h id = some (.row (.l cells) 128)) (hC : cells.length = C) (hk : k ≤ C) (hm : 0 < m) (hc : C < k + m) (hr : 2 * (k + m) * 8 ≤ 281474976710656) (hr2 : k + m ≤ 281474976710656) :
  Wp (gH env [95, 3] (.sl id 0 k (some C) 1) (.int .i64 z)) h n fun v' h' n' => v' = .sl n 0 (k + m) none 1 ∧ n' = n + 1 ∧ h' = upd h n (some (.row (.l (cells.take k ++ fS [.dP] m)) 128)) := by
 subst hz
 have hs : Rds h 1 (.sl id 0 k (some C) 1) k (cells.take k) := .sl id 0 k (some C) (.l cells) 128 _ hh (by rw [List.length_take]; omega) (by rw [List.length_take]; show 0 + _ ≤ cells.length; omega) (fun j hj => by
  rw [List.length_take] at hj
  rw [Nat.zero_add, bK.vW (by omega), List.getElem_take])
 have u3 : und env 3 = M.pure (.int .i64) := by simp only [und, ti3, aB]
 have d : decide (0 < ((m : Nat) : Int) ∧ C < k + ((m : Nat) : Int).toNat ∧ 0 < 1 ∧ (a9.dP.cells.all bI) = true) = true := decide_eq_true ⟨by omega, by rw [Int.toNat_natCast]; omega, by omega, rfl⟩
 have r1 : ((2 * (k + m) * 8).ble room && (k + m).ble room) = true := by
  unfold room
  rw [dS hr, dS hr2]; rfl
 simp only [gH, u3, aB, eJ, dC, wM, u95, jB, bE, show (Nat.beq 1 1) = true from rfl, bind_assoc, d, fP, true_and]
 refine fL hs.cells ?_
 simp only [iS, Int.toNat_natCast, fP, hO, aM, r1, true_and]
 rfl
theorem HF {h : Hp} {n d doff dl sid soff sl m : Nat} {dcap scap : Option Nat} {dc xs : List a9} {e' e2 : TypeId} {c2 : bK} (hd : h d = some (.row (.l dc) e')) (hs : h sid = some (.row c2 e2)) (hm : min sl dl = m) (h0 : 0 < m) (hf : doff + m ≤ dc.length) (hc : soff + m ≤ c2.size) (hx : c2.sub soff m = xs) (h1 : xs.all bI = true) :
  Wr (copy env 95 (.sl d doff dl dcap 1) (.sl sid soff sl scap 1)) h n [d, sid] [d] (.int .i64 m) (upd h d (some (.row (.l (cH dc doff xs)) e'))) := by
 have hl : xs.length = m := by rw [← hx, bK.iH hc]
 have hsl : m ≤ sl := by omega
 simp only [copy, u95, aB, lenOf, rC, hm]
 have a0 : (m.beq 0) = false := kU (by omega)
 refine Wr.bind (i1 := []) (rs := [d, sid]) (Rd.ask _) ?_
 rw [a0]
 simp only
 refine Wr.bind (rs := [d]) (i1 := [sid]) (a := xs) ?_ ?_
 ·simp only [dQ, bE, show (Nat.beq 1 1) = true from rfl, Nat.mul_one]
  refine Rd.bind (i2 := []) (i1 := [sid]) (Rd.get hs) ?_
  simp only [cT]
  refine Rd.bind (i1 := []) (i2 := []) (Rd.ob (dS hsl)) ?_
  refine Rd.bind (i1 := []) (i2 := []) (Rd.ob (dS hc)) ?_
  rw [hx]
  exact Rd.pure _
 simp only [bE, show (Nat.beq 1 1) = true from rfl]
 refine Wr.ret (a := ()) ?_
 simp only [eK]
 refine Wr.bind (rs := []) (i1 := [d]) (Rd.get hd) ?_
 simp only [cT, bK.size]
 refine Wr.bind (rs := []) (i1 := []) (Rd.ob (dS (by omega))) ?_
 simp only [h1]
 rw [nH _ _ _ (by omega)]
 exact Wr.set hd
theorem CW {α : Type} {ys : List α} {k : Nat} {v : α} (hk : k ≤ ys.length) (j : Nat) : (gR ys k v)[j]? = if j < k then ys[j]? else if j = k then some v else ys[j - 1]? := by
 have hl : (ys.take k).length = k := by rw [List.length_take]; omega
 unfold gR
 by_cases a : j < k
 ·rw [if_pos a, List.getElem?_append_left (by omega), List.getElem?_take, if_pos a]
 ·rw [if_neg a, List.getElem?_append_right (by omega), hl]
  by_cases b : j = k
  ·subst b; rw [if_pos rfl, Nat.sub_self]; rfl
  ·rw [if_neg b, show j - k = (j - k - 1) + 1 by omega, List.getElem?_cons_succ, List.getElem?_drop]
   congr 1; omega
theorem PS {xs ys : List a9} {k len : Nat} {v : a9} (hy : ys.length = len) (hk : k < len) (hx : len + 1 ≤ xs.length) (he : ∀ j, j < k → xs[j]? = ys[j]?) : (cH (cH xs k [v]) (k + 1) (ys.drop k)).take (len + 1) = gR ys k v := by
 have h1 : (cH xs k [v]).length = xs.length := fY (by simp; omega)
 have h2 : (ys.drop k).length = len - k := by rw [List.length_drop, hy]
 refine List.ext_getElem? fun j => ?_
 rw [CW (by omega)]
 by_cases hj : j < len + 1
 ·rw [List.getElem?_take, if_pos hj, qL (by rw [h1, h2]; omega), h2, qL (by simp; omega)]
  simp only [List.length_singleton]
  by_cases a : j < k
  ·rw [if_neg (by omega), if_neg (by omega), if_pos a, he j a]
  ·by_cases b : j = k
   ·subst b; rw [if_neg (by omega), if_pos (by omega), if_neg a, if_pos rfl, Nat.sub_self]; rfl
   ·rw [if_pos (by omega), if_neg a, if_neg b, List.getElem?_drop]
    congr 1; omega
 ·rw [List.getElem?_eq_none (by rw [List.length_take]; omega), if_neg (by omega), if_neg (by omega), List.getElem?_eq_none (by omega)]
theorem QV {xs : List a9} {k len : Nat} {v : a9} (hk : k < len) (hx : len + 1 ≤ xs.length) : (cH (cH xs (k + 1) ((xs.take len).drop k)) k [v]).take (len + 1) = gR (xs.take len) k v := by
 have hy : (xs.take len).length = len := by rw [List.length_take]; omega
 have h2 : ((xs.take len).drop k).length = len - k := by rw [List.length_drop, hy]
 have h1 : (cH xs (k + 1) ((xs.take len).drop k)).length = xs.length := fY (by rw [h2]; omega)
 refine List.ext_getElem? fun j => ?_
 rw [CW (by omega)]
 by_cases hj : j < len + 1
 ·rw [List.getElem?_take, if_pos hj, qL (by simp; omega), qL (by rw [h2]; omega), h2]
  simp only [List.length_singleton]
  by_cases a : j < k
  ·rw [if_neg (by omega), if_neg (by omega), if_pos a, List.getElem?_take, if_pos (by omega)]
  ·by_cases b : j = k
   ·subst b; rw [if_pos (by omega), if_neg a, if_pos rfl, Nat.sub_self]; rfl
   ·rw [if_neg (by omega), if_pos (by omega), if_neg a, if_neg b, List.getElem?_drop]
    congr 1; omega
 ·rw [List.getElem?_eq_none (by rw [List.length_take]; omega), if_neg (by omega), if_neg (by omega), List.getElem?_eq_none (by omega)]
theorem XM {h : Hp} {n xid id off len l2 off2 : Nat} {c1 c2 : Option Nat} {xc c : bK} {e' : TypeId} (hx : h xid = some (.row xc 128)) (hh : h id = some (.row c e')) (hne : xid ≠ id) (h1 : 0 < len) (h2 : 0 < l2) (h3 : 0 < c.size) :
  Wp (iE 128 [.sl xid off len c1 1, .sl id off2 l2 c2 1]) h n fun v' h' n' => v' = .bool false ∧ h' = h ∧ n' = n := by
 have b1 : (xid.beq id) = false := kU hne
 have b2 : Nat.blt 0 len = true := Nat.ble_eq_true_of_le h1
 have b3 : Nat.blt 0 l2 = true := Nat.ble_eq_true_of_le h2
 have b4 : Nat.blt 0 c.size = true := Nat.ble_eq_true_of_le h3
 simp only [iE, fP, b1, b2, b3, b4, Bool.not_false, Bool.and_self, true_and, fW, hx, hh, Option.some.injEq, exists_eq_left', cT, Nat.beq_refl, aM, and_self]
set_option maxHeartbeats 8000000 in
theorem f104 (h : Hp) (n : Nat) (id len C k xid : Nat) (cells : List a9) (xc : bK) (hh : h id = some (.row (.l cells) 128)) (hC : cells.length = C) (hl : len ≤ C) (h0 : 0 < C) (hr : 2 * (len + 1) * 8 ≤ 281474976710656) (hr2 : len + 1 ≤ 281474976710656) (hk : k ≤ len) (h1 : (cells.take len).all bI = true)
  (hx : h xid = some (.row xc 128)) (hxc : 0 < xc.size) (hv : bI (xc.at 0) = true) (hxn : xid < n) (hin : id < n) (hne : xid ≠ id) :
  Wp (bM env (aY env) 104 [.sl id 0 len (some C) 1, .int .i64 (k : Nat), .sl xid 0 1 (some 1) 1]) h n fun v' h' n' =>
   (v' = .sl id 0 (len + 1) (some C) 1 ∧ n' = n ∧ len + 1 ≤ C ∧ ∃ cells', cells'.length = C ∧ cells'.take (len + 1) = gR (cells.take len) k (xc.at 0) ∧ ∀ j, h' j = if j = id then some (.row (.l cells') 128) else h j) ∨
   (v' = .sl n 0 (len + 1) none 1 ∧ n' = n + 1 ∧ ∀ j, h' j = if j = n then some (.row (.l (gR (cells.take len) k (xc.at 0))) 128) else h j) := by
 refine aZ SP SO ?_
 have hs : Rds h 1 (.sl id 0 len (some C) 1) len (cells.take len) := .sl id 0 len (some C) (.l cells) 128 _ hh (by rw [List.length_take]; omega) (by rw [List.length_take]; show 0 + _ ≤ cells.length; omega) (fun j hj => by
  rw [List.length_take] at hj
  rw [Nat.zero_add, bK.vW (by omega), List.getElem_take])
 simp only [A7, Try.f104, Option.getD_some, List.replicate, bP, aN, cQ, u8, tyr, fgr, hkr, execOp, opd, dY, opt, ofValue, dF, ofList, eV, bX, put, nth, aE, cJ, bC, builtin, eX, eW, dH, cN, min2, max2, blr, dO, eJ, und, sizeOf, cE, lenOf, bor, cK, aR, cM, bZ, intOp, bS, strOp, eI, dC, slK, dE, unOp, aT, branch, idx, aW, cellsOf, dK, dT, cel, alloc, bW, newRow, nilCheck, extract, dG, dJ, bL, bO, cT, cW, aQ, fieldAddr, field, part, index, bE, aU, equal, cL, bT, cO, cR, cU, bU, List.getElem?_cons_succ, List.getElem?_cons_zero, List.append_eq, List.cons_append, List.nil_append, List.append_nil, List.length_cons, List.length_nil, Nat.reduceAdd, Nat.reduceSub, Nat.beq, Option.bind_some, nc0, nc1, Int.cast_ofNat_Int, cC, cB, cA, ↓reduceIte, Int.reduceEq, Int.reduceLT, Int.reduceLE, Int.reduceNe, Int.reduceAdd, Int.reduceSub, Int.reduceMul, Int.reduceNeg, Int.reduceGT, Int.reduceGE, ge_iff_le, gt_iff_lt, not_true_eq_false, not_false_eq_true, decide_not, decide_true, decide_false, Bool.not_true, Bool.not_false, Bool.and_true, Bool.true_and, Bool.and_false, Bool.false_and, Bool.or_true, Bool.true_or, Bool.or_false, Bool.false_or, and_true, true_and, and_self, Nat.zero_add, Nat.add_zero, Int.toNat_zero, Nat.zero_mul, aM, beq_self_eq_true, bne_self_eq_false, reduceCtorEq]
 rw [aI (hs.G7 u95 rC rfl hk)]
 by_cases ek : k = len
 ·subst ek
  have ei : (((k : Nat) : Int) = ((k : Nat) : Int)) = True := by simp
  have hI : gR (cells.take k) k (xc.at 0) = cells.take k ++ [xc.at 0] := by
   have hlt : (cells.take k).length = k := by rw [List.length_take]; omega
   unfold gR
   rw [List.take_of_length_le (Nat.le_of_eq hlt), List.drop_eq_nil_of_le (Nat.le_of_eq hlt)]
  simp only [bP, aN, cQ, u8, tyr, fgr, hkr, execOp, opd, dY, opt, ofValue, dF, ofList, eV, bX, put, nth, aE, cJ, bC, builtin, eX, eW, dH, cN, min2, max2, blr, dO, eJ, und, sizeOf, cE, lenOf, bor, cK, aR, cM, bZ, intOp, bS, strOp, eI, dC, slK, dE, unOp, aT, branch, idx, aW, cellsOf, dK, dT, cel, alloc, bW, newRow, nilCheck, extract, dG, dJ, bL, bO, cT, cW, aQ, fieldAddr, field, part, index, bE, aU, equal, cL, bT, cO, cR, cU, bU, List.getElem?_cons_succ, List.getElem?_cons_zero, List.append_eq, List.cons_append, List.nil_append, List.append_nil, List.length_cons, List.length_nil, Nat.reduceAdd, Nat.reduceSub, Nat.beq, Option.bind_some, nc0, nc1, Int.cast_ofNat_Int, cC, cB, cA, ↓reduceIte, Int.reduceEq, Int.reduceLT, Int.reduceLE, Int.reduceNe, Int.reduceAdd, Int.reduceSub, Int.reduceMul, Int.reduceNeg, Int.reduceGT, Int.reduceGE, ge_iff_le, gt_iff_lt, not_true_eq_false, not_false_eq_true, decide_not, decide_true, decide_false, Bool.not_true, Bool.not_false, Bool.and_true, Bool.true_and, Bool.and_false, Bool.false_and, Bool.or_true, Bool.true_or, Bool.or_false, Bool.false_or, and_true, true_and, and_self, Nat.zero_add, Nat.add_zero, Int.toNat_zero, Nat.zero_mul, aM, beq_self_eq_true, bne_self_eq_false, reduceCtorEq, ei]
  refine dL (PN hh hC hl hr hr2 hx hxc hv) fun v' h' n' hq => ?_
  rcases hq with ⟨c1, rfl, rfl, rfl⟩ | ⟨c1, rfl, rfl, rfl⟩
  ·simp only [bP, aN, cQ, u8, tyr, fgr, hkr, execOp, opd, dY, opt, ofValue, dF, ofList, eV, bX, put, nth, aE, cJ, bC, builtin, eX, eW, dH, cN, min2, max2, blr, dO, eJ, und, sizeOf, cE, lenOf, bor, cK, aR, cM, bZ, intOp, bS, strOp, eI, dC, slK, dE, unOp, aT, branch, idx, aW, cellsOf, dK, dT, cel, alloc, bW, newRow, nilCheck, extract, dG, dJ, bL, bO, cT, cW, aQ, fieldAddr, field, part, index, bE, aU, equal, cL, bT, cO, cR, cU, bU, List.getElem?_cons_succ, List.getElem?_cons_zero, List.append_eq, List.cons_append, List.nil_append, List.append_nil, List.length_cons, List.length_nil, Nat.reduceAdd, Nat.reduceSub, Nat.beq, Option.bind_some, nc0, nc1, Int.cast_ofNat_Int, cC, cB, cA, ↓reduceIte, Int.reduceEq, Int.reduceLT, Int.reduceLE, Int.reduceNe, Int.reduceAdd, Int.reduceSub, Int.reduceMul, Int.reduceNeg, Int.reduceGT, Int.reduceGE, ge_iff_le, gt_iff_lt, not_true_eq_false, not_false_eq_true, decide_not, decide_true, decide_false, Bool.not_true, Bool.not_false, Bool.and_true, Bool.true_and, Bool.and_false, Bool.false_and, Bool.or_true, Bool.true_or, Bool.or_false, Bool.false_or, and_true, true_and, and_self, Nat.zero_add, Nat.add_zero, Int.toNat_zero, Nat.zero_mul, aM, beq_self_eq_true, bne_self_eq_false, reduceCtorEq]
   refine .inl ⟨c1, _, by rw [fY (by simp; omega)]; exact hC, ?_, fun j => rfl⟩
   rw [hI, show k + 1 = k + ([xc.at 0] : List a9).length from rfl, pD (by simp; omega)]
  ·simp only [bP, aN, cQ, u8, tyr, fgr, hkr, execOp, opd, dY, opt, ofValue, dF, ofList, eV, bX, put, nth, aE, cJ, bC, builtin, eX, eW, dH, cN, min2, max2, blr, dO, eJ, und, sizeOf, cE, lenOf, bor, cK, aR, cM, bZ, intOp, bS, strOp, eI, dC, slK, dE, unOp, aT, branch, idx, aW, cellsOf, dK, dT, cel, alloc, bW, newRow, nilCheck, extract, dG, dJ, bL, bO, cT, cW, aQ, fieldAddr, field, part, index, bE, aU, equal, cL, bT, cO, cR, cU, bU, List.getElem?_cons_succ, List.getElem?_cons_zero, List.append_eq, List.cons_append, List.nil_append, List.append_nil, List.length_cons, List.length_nil, Nat.reduceAdd, Nat.reduceSub, Nat.beq, Option.bind_some, nc0, nc1, Int.cast_ofNat_Int, cC, cB, cA, ↓reduceIte, Int.reduceEq, Int.reduceLT, Int.reduceLE, Int.reduceNe, Int.reduceAdd, Int.reduceSub, Int.reduceMul, Int.reduceNeg, Int.reduceGT, Int.reduceGE, ge_iff_le, gt_iff_lt, not_true_eq_false, not_false_eq_true, decide_not, decide_true, decide_false, Bool.not_true, Bool.not_false, Bool.and_true, Bool.true_and, Bool.and_false, Bool.false_and, Bool.or_true, Bool.true_or, Bool.or_false, Bool.false_or, and_true, true_and, and_self, Nat.zero_add, Nat.add_zero, Int.toNat_zero, Nat.zero_mul, aM, beq_self_eq_true, bne_self_eq_false, reduceCtorEq]
   refine .inr fun j => ?_
   rw [hI]; rfl
 have hkl : k < len := by omega
 have ei : (((k : Nat) : Int) = ((len : Nat) : Int)) = False := by simp; omega
 simp (disch := omega) only [bP, aN, cQ, u8, tyr, fgr, hkr, execOp, opd, dY, opt, ofValue, dF, ofList, eV, bX, put, nth, aE, cJ, bC, builtin, eX, eW, dH, cN, min2, max2, blr, dO, eJ, und, sizeOf, cE, lenOf, bor, cK, aR, cM, bZ, intOp, bS, strOp, eI, dC, slK, dE, unOp, aT, branch, idx, aW, cellsOf, dK, dT, cel, alloc, bW, newRow, nilCheck, extract, dG, dJ, bL, bO, cT, cW, aQ, fieldAddr, field, part, index, bE, aU, equal, cL, bT, cO, cR, cU, bU, List.getElem?_cons_succ, List.getElem?_cons_zero, List.append_eq, List.cons_append, List.nil_append, List.append_nil, List.length_cons, List.length_nil, Nat.reduceAdd, Nat.reduceSub, Nat.beq, Option.bind_some, nc0, nc1, Int.cast_ofNat_Int, cC, cB, cA, ↓reduceIte, Int.reduceEq, Int.reduceLT, Int.reduceLE, Int.reduceNe, Int.reduceAdd, Int.reduceSub, Int.reduceMul, Int.reduceNeg, Int.reduceGT, Int.reduceGE, ge_iff_le, gt_iff_lt, not_true_eq_false, not_false_eq_true, decide_not, decide_true, decide_false, Bool.not_true, Bool.not_false, Bool.and_true, Bool.true_and, Bool.and_false, Bool.false_and, Bool.or_true, Bool.true_or, Bool.or_false, Bool.false_or, and_true, true_and, and_self, Nat.zero_add, Nat.add_zero, Int.toNat_zero, Nat.zero_mul, aM, beq_self_eq_true, bne_self_eq_false, reduceCtorEq, ei, S4, OC, w64]
 by_cases ec : C < len + 1
 ·have e1 : (((C : Nat) : Int) < ((len : Nat) : Int) + 1) = True := by simp; omega
  simp only [bP, aN, cQ, u8, tyr, fgr, hkr, execOp, opd, dY, opt, ofValue, dF, ofList, eV, bX, put, nth, aE, cJ, bC, builtin, eX, eW, dH, cN, min2, max2, blr, dO, eJ, und, sizeOf, cE, lenOf, bor, cK, aR, cM, bZ, intOp, bS, strOp, eI, dC, slK, dE, unOp, aT, branch, idx, aW, cellsOf, dK, dT, cel, alloc, bW, newRow, nilCheck, extract, dG, dJ, bL, bO, cT, cW, aQ, fieldAddr, field, part, index, bE, aU, equal, cL, bT, cO, cR, cU, bU, List.getElem?_cons_succ, List.getElem?_cons_zero, List.append_eq, List.cons_append, List.nil_append, List.append_nil, List.length_cons, List.length_nil, Nat.reduceAdd, Nat.reduceSub, Nat.beq, Option.bind_some, nc0, nc1, Int.cast_ofNat_Int, cC, cB, cA, ↓reduceIte, Int.reduceEq, Int.reduceLT, Int.reduceLE, Int.reduceNe, Int.reduceAdd, Int.reduceSub, Int.reduceMul, Int.reduceNeg, Int.reduceGT, Int.reduceGE, ge_iff_le, gt_iff_lt, not_true_eq_false, not_false_eq_true, decide_not, decide_true, decide_false, Bool.not_true, Bool.not_false, Bool.and_true, Bool.true_and, Bool.and_false, Bool.false_and, Bool.or_true, Bool.true_or, Bool.or_false, Bool.false_or, and_true, true_and, and_self, Nat.zero_add, Nat.add_zero, Int.toNat_zero, Nat.zero_mul, aM, beq_self_eq_true, bne_self_eq_false, reduceCtorEq, e1]
  rw [aI (SC rfl (by omega))]
  simp (disch := omega) only [bP, aN, cQ, u8, tyr, fgr, hkr, execOp, opd, dY, opt, ofValue, dF, ofList, eV, bX, put, nth, aE, cJ, bC, builtin, eX, eW, dH, cN, min2, max2, blr, dO, eJ, und, sizeOf, cE, lenOf, bor, cK, aR, cM, bZ, intOp, bS, strOp, eI, dC, slK, dE, unOp, aT, branch, idx, aW, cellsOf, dK, dT, cel, alloc, bW, newRow, nilCheck, extract, dG, dJ, bL, bO, cT, cW, aQ, fieldAddr, field, part, index, bE, aU, equal, cL, bT, cO, cR, cU, bU, List.getElem?_cons_succ, List.getElem?_cons_zero, List.append_eq, List.cons_append, List.nil_append, List.append_nil, List.length_cons, List.length_nil, Nat.reduceAdd, Nat.reduceSub, Nat.beq, Option.bind_some, nc0, nc1, Int.cast_ofNat_Int, cC, cB, cA, ↓reduceIte, Int.reduceEq, Int.reduceLT, Int.reduceLE, Int.reduceNe, Int.reduceAdd, Int.reduceSub, Int.reduceMul, Int.reduceNeg, Int.reduceGT, Int.reduceGE, ge_iff_le, gt_iff_lt, not_true_eq_false, not_false_eq_true, decide_not, decide_true, decide_false, Bool.not_true, Bool.not_false, Bool.and_true, Bool.true_and, Bool.and_false, Bool.false_and, Bool.or_true, Bool.true_or, Bool.or_false, Bool.false_or, and_true, true_and, and_self, Nat.zero_add, Nat.add_zero, Int.toNat_zero, Nat.zero_mul, aM, beq_self_eq_true, bne_self_eq_false, reduceCtorEq, w64]
  refine dL (PM (m := len + 1 - k) (by omega) hh hC (by omega) (by omega) (by omega) (by omega) (by omega)) fun v' h' n' ⟨e1, e2, e3⟩ => ?_
  subst e1; subst e2; subst e3
  rw [show k + (len + 1 - k) = len + 1 by omega]
  simp (disch := omega) only [bP, aN, cQ, u8, tyr, fgr, hkr, execOp, opd, dY, opt, ofValue, dF, ofList, eV, bX, put, nth, aE, cJ, bC, builtin, eX, eW, dH, cN, min2, max2, blr, dO, eJ, und, sizeOf, cE, lenOf, bor, cK, aR, cM, bZ, intOp, bS, strOp, eI, dC, slK, dE, unOp, aT, branch, idx, aW, cellsOf, dK, dT, cel, alloc, bW, newRow, nilCheck, extract, dG, dJ, bL, bO, cT, cW, aQ, fieldAddr, field, part, index, bE, aU, equal, cL, bT, cO, cR, cU, bU, List.getElem?_cons_succ, List.getElem?_cons_zero, List.append_eq, List.cons_append, List.nil_append, List.append_nil, List.length_cons, List.length_nil, Nat.reduceAdd, Nat.reduceSub, Nat.beq, Option.bind_some, nc0, nc1, Int.cast_ofNat_Int, cC, cB, cA, ↓reduceIte, Int.reduceEq, Int.reduceLT, Int.reduceLE, Int.reduceNe, Int.reduceAdd, Int.reduceSub, Int.reduceMul, Int.reduceNeg, Int.reduceGT, Int.reduceGE, ge_iff_le, gt_iff_lt, not_true_eq_false, not_false_eq_true, decide_not, decide_true, decide_false, Bool.not_true, Bool.not_false, Bool.and_true, Bool.true_and, Bool.and_false, Bool.false_and, Bool.or_true, Bool.true_or, Bool.or_false, Bool.false_or, and_true, true_and, and_self, Nat.zero_add, Nat.add_zero, Int.toNat_zero, Nat.zero_mul, aM, beq_self_eq_true, bne_self_eq_false, reduceCtorEq, w64]
  rw [aI (KO rfl (by omega))]
  simp (disch := omega) only [bP, aN, cQ, u8, tyr, fgr, hkr, execOp, opd, dY, opt, ofValue, dF, ofList, eV, bX, put, nth, aE, cJ, bC, builtin, eX, eW, dH, cN, min2, max2, blr, dO, eJ, und, sizeOf, cE, lenOf, bor, cK, aR, cM, bZ, intOp, bS, strOp, eI, dC, slK, dE, unOp, aT, branch, idx, aW, cellsOf, dK, dT, cel, alloc, bW, newRow, nilCheck, extract, dG, dJ, bL, bO, cT, cW, aQ, fieldAddr, field, part, index, bE, aU, equal, cL, bT, cO, cR, cU, bU, List.getElem?_cons_succ, List.getElem?_cons_zero, List.append_eq, List.cons_append, List.nil_append, List.append_nil, List.length_cons, List.length_nil, Nat.reduceAdd, Nat.reduceSub, Nat.beq, Option.bind_some, nc0, nc1, Int.cast_ofNat_Int, cC, cB, cA, ↓reduceIte, Int.reduceEq, Int.reduceLT, Int.reduceLE, Int.reduceNe, Int.reduceAdd, Int.reduceSub, Int.reduceMul, Int.reduceNeg, Int.reduceGT, Int.reduceGE, ge_iff_le, gt_iff_lt, not_true_eq_false, not_false_eq_true, decide_not, decide_true, decide_false, Bool.not_true, Bool.not_false, Bool.and_true, Bool.true_and, Bool.and_false, Bool.false_and, Bool.or_true, Bool.true_or, Bool.or_false, Bool.false_or, and_true, true_and, and_self, Nat.zero_add, Nat.add_zero, Int.toNat_zero, Nat.zero_mul, aM, beq_self_eq_true, bne_self_eq_false, reduceCtorEq, w64]
  have hh1 := aP h n (some (Blk.row (bK.l (cells.take k ++ fS [a9.dP] (len + 1 - k))) 128))
  have hL1 : (cells.take k ++ fS [a9.dP] (len + 1 - k)).length = len + 1 := by rw [List.length_append, List.length_take, YR]; omega
  have hxs : xc.sub 0 1 = [xc.at 0] := bK.mS hxc
  rw [eS (HF (m := 1) hh1 ((aG _ _ (by omega)).trans hx) (by omega) (by omega) (by rw [hL1]; omega) hxc hxs (by simp [hv]))]
  simp (disch := omega) only [bP, aN, cQ, u8, tyr, fgr, hkr, execOp, opd, dY, opt, ofValue, dF, ofList, eV, bX, put, nth, aE, cJ, bC, builtin, eX, eW, dH, cN, min2, max2, blr, dO, eJ, und, sizeOf, cE, lenOf, bor, cK, aR, cM, bZ, intOp, bS, strOp, eI, dC, slK, dE, unOp, aT, branch, idx, aW, cellsOf, dK, dT, cel, alloc, bW, newRow, nilCheck, extract, dG, dJ, bL, bO, cT, cW, aQ, fieldAddr, field, part, index, bE, aU, equal, cL, bT, cO, cR, cU, bU, List.getElem?_cons_succ, List.getElem?_cons_zero, List.append_eq, List.cons_append, List.nil_append, List.append_nil, List.length_cons, List.length_nil, Nat.reduceAdd, Nat.reduceSub, Nat.beq, Option.bind_some, nc0, nc1, Int.cast_ofNat_Int, cC, cB, cA, ↓reduceIte, Int.reduceEq, Int.reduceLT, Int.reduceLE, Int.reduceNe, Int.reduceAdd, Int.reduceSub, Int.reduceMul, Int.reduceNeg, Int.reduceGT, Int.reduceGE, ge_iff_le, gt_iff_lt, not_true_eq_false, not_false_eq_true, decide_not, decide_true, decide_false, Bool.not_true, Bool.not_false, Bool.and_true, Bool.true_and, Bool.and_false, Bool.false_and, Bool.or_true, Bool.true_or, Bool.or_false, Bool.false_or, and_true, true_and, and_self, Nat.zero_add, Nat.add_zero, Int.toNat_zero, Nat.zero_mul, aM, beq_self_eq_true, bne_self_eq_false, reduceCtorEq, w64]
  generalize hH : upd (upd h n (some (Blk.row (bK.l (cells.take k ++ fS [a9.dP] (len + 1 - k))) 128))) n (some (Blk.row (bK.l (cH (cells.take k ++ fS [a9.dP] (len + 1 - k)) k [xc.at 0])) 128)) = H
  have hHo : ∀ j, j ≠ n → H j = h j := fun j hj => by rw [← hH, aG _ _ hj, aG _ _ hj]
  have hHn : H n = some (Blk.row (bK.l (cH (cells.take k ++ fS [a9.dP] (len + 1 - k)) k [xc.at 0])) 128) := by rw [← hH, aP]
  refine cP ⟨rfl, ?_⟩
  simp (disch := omega) only [jG, lO, kE, jA, kD, oM, oP, oN, oO, oL, lN, oK, kB, kC, bP, aN, cQ, u8, tyr, fgr, hkr, execOp, opd, dY, opt, ofValue, dF, ofList, eV, bX, put, nth, aE, cJ, bC, builtin, eX, eW, dH, cN, min2, max2, blr, dO, eJ, und, sizeOf, cE, lenOf, bor, cK, aR, cM, bZ, intOp, bS, strOp, eI, dC, slK, dE, unOp, aT, branch, idx, aW, cellsOf, dK, dT, cel, alloc, bW, newRow, nilCheck, extract, dG, dJ, bL, bO, cT, cW, aQ, fieldAddr, field, part, index, bE, aU, equal, cL, bT, cO, cR, cU, bU, List.getElem?_cons_succ, List.getElem?_cons_zero, List.append_eq, List.cons_append, List.nil_append, List.append_nil, List.length_cons, List.length_nil, Nat.reduceAdd, Nat.reduceSub, Nat.beq, Option.bind_some, nc0, nc1, Int.cast_ofNat_Int, cC, cB, cA, ↓reduceIte, Int.reduceEq, Int.reduceLT, Int.reduceLE, Int.reduceNe, Int.reduceAdd, Int.reduceSub, Int.reduceMul, Int.reduceNeg, Int.reduceGT, Int.reduceGE, ge_iff_le, gt_iff_lt, not_true_eq_false, not_false_eq_true, decide_not, decide_true, decide_false, Bool.not_true, Bool.not_false, Bool.and_true, Bool.true_and, Bool.and_false, Bool.false_and, Bool.or_true, Bool.true_or, Bool.or_false, Bool.false_or, and_true, true_and, and_self, Nat.zero_add, Nat.add_zero, Int.toNat_zero, Nat.zero_mul, aM, beq_self_eq_true, bne_self_eq_false, reduceCtorEq, w64]
  rw [bJ (KO (k := k + 1) (by omega) (by omega))]
  simp (disch := omega) only [jG, lO, kE, jA, kD, oM, oP, oN, oO, oL, lN, oK, kB, kC, bP, aN, cQ, u8, tyr, fgr, hkr, execOp, opd, dY, opt, ofValue, dF, ofList, eV, bX, put, nth, aE, cJ, bC, builtin, eX, eW, dH, cN, min2, max2, blr, dO, eJ, und, sizeOf, cE, lenOf, bor, cK, aR, cM, bZ, intOp, bS, strOp, eI, dC, slK, dE, unOp, aT, branch, idx, aW, cellsOf, dK, dT, cel, alloc, bW, newRow, nilCheck, extract, dG, dJ, bL, bO, cT, cW, aQ, fieldAddr, field, part, index, bE, aU, equal, cL, bT, cO, cR, cU, bU, List.getElem?_cons_succ, List.getElem?_cons_zero, List.append_eq, List.cons_append, List.nil_append, List.append_nil, List.length_cons, List.length_nil, Nat.reduceAdd, Nat.reduceSub, Nat.beq, Option.bind_some, nc0, nc1, Int.cast_ofNat_Int, cC, cB, cA, ↓reduceIte, Int.reduceEq, Int.reduceLT, Int.reduceLE, Int.reduceNe, Int.reduceAdd, Int.reduceSub, Int.reduceMul, Int.reduceNeg, Int.reduceGT, Int.reduceGE, ge_iff_le, gt_iff_lt, not_true_eq_false, not_false_eq_true, decide_not, decide_true, decide_false, Bool.not_true, Bool.not_false, Bool.and_true, Bool.true_and, Bool.and_false, Bool.false_and, Bool.or_true, Bool.true_or, Bool.or_false, Bool.false_or, and_true, true_and, and_self, Nat.zero_add, Nat.add_zero, Int.toNat_zero, Nat.zero_mul, aM, beq_self_eq_true, bne_self_eq_false, reduceCtorEq, w64]
  rw [bJ (CD (k := k) (by omega) (by omega) (by omega))]
  simp (disch := omega) only [jG, lO, kE, jA, kD, oM, oP, oN, oO, oL, lN, oK, kB, kC, bP, aN, cQ, u8, tyr, fgr, hkr, execOp, opd, dY, opt, ofValue, dF, ofList, eV, bX, put, nth, aE, cJ, bC, builtin, eX, eW, dH, cN, min2, max2, blr, dO, eJ, und, sizeOf, cE, lenOf, bor, cK, aR, cM, bZ, intOp, bS, strOp, eI, dC, slK, dE, unOp, aT, branch, idx, aW, cellsOf, dK, dT, cel, alloc, bW, newRow, nilCheck, extract, dG, dJ, bL, bO, cT, cW, aQ, fieldAddr, field, part, index, bE, aU, equal, cL, bT, cO, cR, cU, bU, List.getElem?_cons_succ, List.getElem?_cons_zero, List.append_eq, List.cons_append, List.nil_append, List.append_nil, List.length_cons, List.length_nil, Nat.reduceAdd, Nat.reduceSub, Nat.beq, Option.bind_some, nc0, nc1, Int.cast_ofNat_Int, cC, cB, cA, ↓reduceIte, Int.reduceEq, Int.reduceLT, Int.reduceLE, Int.reduceNe, Int.reduceAdd, Int.reduceSub, Int.reduceMul, Int.reduceNeg, Int.reduceGT, Int.reduceGE, ge_iff_le, gt_iff_lt, not_true_eq_false, not_false_eq_true, decide_not, decide_true, decide_false, Bool.not_true, Bool.not_false, Bool.and_true, Bool.true_and, Bool.and_false, Bool.false_and, Bool.or_true, Bool.true_or, Bool.or_false, Bool.false_or, and_true, true_and, and_self, Nat.zero_add, Nat.add_zero, Int.toNat_zero, Nat.zero_mul, aM, beq_self_eq_true, bne_self_eq_false, reduceCtorEq, w64]
  have hsub : (bK.l cells).sub k (len - k) = (cells.take len).drop k := by
   show (cells.drop k).take (len - k) = _
   rw [List.drop_take]
  have hone : ((cells.take len).drop k).all bI = true := by
   rw [List.all_eq_true] at h1 ⊢
   exact fun x hx => h1 x (List.mem_of_mem_drop hx)
  refine jZ (HF (m := len - k) hHn ((hHo id (by omega)).trans hh) (by omega) (by omega) (by rw [fY (by rw [hL1]; simp; omega), hL1]; omega) (by show k + (len - k) ≤ cells.length; omega) hsub hone) ?_
  simp (disch := omega) only [jG, lO, kE, jA, kD, oM, oP, oN, oO, oL, lN, oK, kB, kC, bP, aN, cQ, u8, tyr, fgr, hkr, execOp, opd, dY, opt, ofValue, dF, ofList, eV, bX, put, nth, aE, cJ, bC, builtin, eX, eW, dH, cN, min2, max2, blr, dO, eJ, und, sizeOf, cE, lenOf, bor, cK, aR, cM, bZ, intOp, bS, strOp, eI, dC, slK, dE, unOp, aT, branch, idx, aW, cellsOf, dK, dT, cel, alloc, bW, newRow, nilCheck, extract, dG, dJ, bL, bO, cT, cW, aQ, fieldAddr, field, part, index, bE, aU, equal, cL, bT, cO, cR, cU, bU, List.getElem?_cons_succ, List.getElem?_cons_zero, List.append_eq, List.cons_append, List.nil_append, List.append_nil, List.length_cons, List.length_nil, Nat.reduceAdd, Nat.reduceSub, Nat.beq, Option.bind_some, nc0, nc1, Int.cast_ofNat_Int, cC, cB, cA, ↓reduceIte, Int.reduceEq, Int.reduceLT, Int.reduceLE, Int.reduceNe, Int.reduceAdd, Int.reduceSub, Int.reduceMul, Int.reduceNeg, Int.reduceGT, Int.reduceGE, ge_iff_le, gt_iff_lt, not_true_eq_false, not_false_eq_true, decide_not, decide_true, decide_false, Bool.not_true, Bool.not_false, Bool.and_true, Bool.true_and, Bool.and_false, Bool.false_and, Bool.or_true, Bool.true_or, Bool.or_false, Bool.false_or, and_true, true_and, and_self, Nat.zero_add, Nat.add_zero, Int.toNat_zero, Nat.zero_mul, aM, beq_self_eq_true, bne_self_eq_false, reduceCtorEq, w64]
  refine ⟨(by (try simp (disch := omega) only [dW, List.all_cons, List.all_nil, yJ, yI, yH, Bool.not_false, Bool.true_or, Bool.and_true, Bool.true_and, yG, yF, yE, yM, yL, yD, yK]); repeat' (first | rfl | exact (Bool.or_eq_true _ _).mpr (.inr rfl) | refine (Bool.and_eq_true _ _).mpr ⟨?_, ?_⟩)), .inr fun j => ?_⟩
  have := PS (xs := cells.take k ++ fS [a9.dP] (len + 1 - k)) (ys := cells.take len) (k := k) (len := len) (v := xc.at 0) (by rw [List.length_take]; omega) hkl (by omega) (fun j hj => by rw [List.getElem?_append_left (by rw [List.length_take]; omega), List.getElem?_take, if_pos hj, List.getElem?_take, if_pos (by omega)])
  rw [List.take_of_length_le (by rw [fY (by rw [fY (by rw [hL1]; simp; omega), hL1, List.length_drop, List.length_take]; omega), fY (by rw [hL1]; simp; omega)]; omega)] at this
  rw [this]
  by_cases q : j = n
  ·subst q; rw [aP, if_pos rfl]
  ·rw [aG _ _ q, if_neg q]; exact hHo j q
 have e1 : (((C : Nat) : Int) < ((len : Nat) : Int) + 1) = False := by simp; omega
 simp (disch := omega) only [bP, aN, cQ, u8, tyr, fgr, hkr, execOp, opd, dY, opt, ofValue, dF, ofList, eV, bX, put, nth, aE, cJ, bC, builtin, eX, eW, dH, cN, min2, max2, blr, dO, eJ, und, sizeOf, cE, lenOf, bor, cK, aR, cM, bZ, intOp, bS, strOp, eI, dC, slK, dE, unOp, aT, branch, idx, aW, cellsOf, dK, dT, cel, alloc, bW, newRow, nilCheck, extract, dG, dJ, bL, bO, cT, cW, aQ, fieldAddr, field, part, index, bE, aU, equal, cL, bT, cO, cR, cU, bU, List.getElem?_cons_succ, List.getElem?_cons_zero, List.append_eq, List.cons_append, List.nil_append, List.append_nil, List.length_cons, List.length_nil, Nat.reduceAdd, Nat.reduceSub, Nat.beq, Option.bind_some, nc0, nc1, Int.cast_ofNat_Int, cC, cB, cA, ↓reduceIte, Int.reduceEq, Int.reduceLT, Int.reduceLE, Int.reduceNe, Int.reduceAdd, Int.reduceSub, Int.reduceMul, Int.reduceNeg, Int.reduceGT, Int.reduceGE, ge_iff_le, gt_iff_lt, not_true_eq_false, not_false_eq_true, decide_not, decide_true, decide_false, Bool.not_true, Bool.not_false, Bool.and_true, Bool.true_and, Bool.and_false, Bool.false_and, Bool.or_true, Bool.true_or, Bool.or_false, Bool.false_or, and_true, true_and, and_self, Nat.zero_add, Nat.add_zero, Int.toNat_zero, Nat.zero_mul, aM, beq_self_eq_true, bne_self_eq_false, reduceCtorEq, e1, w64]
 rw [aI (SC (k := len + 1) (by omega) (by omega))]
 simp (disch := omega) only [bP, aN, cQ, u8, tyr, fgr, hkr, execOp, opd, dY, opt, ofValue, dF, ofList, eV, bX, put, nth, aE, cJ, bC, builtin, eX, eW, dH, cN, min2, max2, blr, dO, eJ, und, sizeOf, cE, lenOf, bor, cK, aR, cM, bZ, intOp, bS, strOp, eI, dC, slK, dE, unOp, aT, branch, idx, aW, cellsOf, dK, dT, cel, alloc, bW, newRow, nilCheck, extract, dG, dJ, bL, bO, cT, cW, aQ, fieldAddr, field, part, index, bE, aU, equal, cL, bT, cO, cR, cU, bU, List.getElem?_cons_succ, List.getElem?_cons_zero, List.append_eq, List.cons_append, List.nil_append, List.append_nil, List.length_cons, List.length_nil, Nat.reduceAdd, Nat.reduceSub, Nat.beq, Option.bind_some, nc0, nc1, Int.cast_ofNat_Int, cC, cB, cA, ↓reduceIte, Int.reduceEq, Int.reduceLT, Int.reduceLE, Int.reduceNe, Int.reduceAdd, Int.reduceSub, Int.reduceMul, Int.reduceNeg, Int.reduceGT, Int.reduceGE, ge_iff_le, gt_iff_lt, not_true_eq_false, not_false_eq_true, decide_not, decide_true, decide_false, Bool.not_true, Bool.not_false, Bool.and_true, Bool.true_and, Bool.and_false, Bool.false_and, Bool.or_true, Bool.true_or, Bool.or_false, Bool.false_or, and_true, true_and, and_self, Nat.zero_add, Nat.add_zero, Int.toNat_zero, Nat.zero_mul, aM, beq_self_eq_true, bne_self_eq_false, reduceCtorEq, w64]
 rw [aI (CD (k := k + 1) (by omega) (by omega) (by omega))]
 simp (disch := omega) only [bP, aN, cQ, u8, tyr, fgr, hkr, execOp, opd, dY, opt, ofValue, dF, ofList, eV, bX, put, nth, aE, cJ, bC, builtin, eX, eW, dH, cN, min2, max2, blr, dO, eJ, und, sizeOf, cE, lenOf, bor, cK, aR, cM, bZ, intOp, bS, strOp, eI, dC, slK, dE, unOp, aT, branch, idx, aW, cellsOf, dK, dT, cel, alloc, bW, newRow, nilCheck, extract, dG, dJ, bL, bO, cT, cW, aQ, fieldAddr, field, part, index, bE, aU, equal, cL, bT, cO, cR, cU, bU, List.getElem?_cons_succ, List.getElem?_cons_zero, List.append_eq, List.cons_append, List.nil_append, List.append_nil, List.length_cons, List.length_nil, Nat.reduceAdd, Nat.reduceSub, Nat.beq, Option.bind_some, nc0, nc1, Int.cast_ofNat_Int, cC, cB, cA, ↓reduceIte, Int.reduceEq, Int.reduceLT, Int.reduceLE, Int.reduceNe, Int.reduceAdd, Int.reduceSub, Int.reduceMul, Int.reduceNeg, Int.reduceGT, Int.reduceGE, ge_iff_le, gt_iff_lt, not_true_eq_false, not_false_eq_true, decide_not, decide_true, decide_false, Bool.not_true, Bool.not_false, Bool.and_true, Bool.true_and, Bool.and_false, Bool.false_and, Bool.or_true, Bool.true_or, Bool.or_false, Bool.false_or, and_true, true_and, and_self, Nat.zero_add, Nat.add_zero, Int.toNat_zero, Nat.zero_mul, aM, beq_self_eq_true, bne_self_eq_false, reduceCtorEq, w64]
 refine dA (XM hx hh hne (by omega) (by omega) (by show 0 < cells.length; omega)) ?_
 simp (disch := omega) only [bP, aN, cQ, u8, tyr, fgr, hkr, execOp, opd, dY, opt, ofValue, dF, ofList, eV, bX, put, nth, aE, cJ, bC, builtin, eX, eW, dH, cN, min2, max2, blr, dO, eJ, und, sizeOf, cE, lenOf, bor, cK, aR, cM, bZ, intOp, bS, strOp, eI, dC, slK, dE, unOp, aT, branch, idx, aW, cellsOf, dK, dT, cel, alloc, bW, newRow, nilCheck, extract, dG, dJ, bL, bO, cT, cW, aQ, fieldAddr, field, part, index, bE, aU, equal, cL, bT, cO, cR, cU, bU, List.getElem?_cons_succ, List.getElem?_cons_zero, List.append_eq, List.cons_append, List.nil_append, List.append_nil, List.length_cons, List.length_nil, Nat.reduceAdd, Nat.reduceSub, Nat.beq, Option.bind_some, nc0, nc1, Int.cast_ofNat_Int, cC, cB, cA, ↓reduceIte, Int.reduceEq, Int.reduceLT, Int.reduceLE, Int.reduceNe, Int.reduceAdd, Int.reduceSub, Int.reduceMul, Int.reduceNeg, Int.reduceGT, Int.reduceGE, ge_iff_le, gt_iff_lt, not_true_eq_false, not_false_eq_true, decide_not, decide_true, decide_false, Bool.not_true, Bool.not_false, Bool.and_true, Bool.true_and, Bool.and_false, Bool.false_and, Bool.or_true, Bool.true_or, Bool.or_false, Bool.false_or, and_true, true_and, and_self, Nat.zero_add, Nat.add_zero, Int.toNat_zero, Nat.zero_mul, aM, beq_self_eq_true, bne_self_eq_false, reduceCtorEq, w64]
 refine cP ⟨rfl, ?_⟩
 simp (disch := omega) only [jG, lO, kE, jA, kD, oM, oP, oN, oO, oL, lN, oK, kB, kC, bP, aN, cQ, u8, tyr, fgr, hkr, execOp, opd, dY, opt, ofValue, dF, ofList, eV, bX, put, nth, aE, cJ, bC, builtin, eX, eW, dH, cN, min2, max2, blr, dO, eJ, und, sizeOf, cE, lenOf, bor, cK, aR, cM, bZ, intOp, bS, strOp, eI, dC, slK, dE, unOp, aT, branch, idx, aW, cellsOf, dK, dT, cel, alloc, bW, newRow, nilCheck, extract, dG, dJ, bL, bO, cT, cW, aQ, fieldAddr, field, part, index, bE, aU, equal, cL, bT, cO, cR, cU, bU, List.getElem?_cons_succ, List.getElem?_cons_zero, List.append_eq, List.cons_append, List.nil_append, List.append_nil, List.length_cons, List.length_nil, Nat.reduceAdd, Nat.reduceSub, Nat.beq, Option.bind_some, nc0, nc1, Int.cast_ofNat_Int, cC, cB, cA, ↓reduceIte, Int.reduceEq, Int.reduceLT, Int.reduceLE, Int.reduceNe, Int.reduceAdd, Int.reduceSub, Int.reduceMul, Int.reduceNeg, Int.reduceGT, Int.reduceGE, ge_iff_le, gt_iff_lt, not_true_eq_false, not_false_eq_true, decide_not, decide_true, decide_false, Bool.not_true, Bool.not_false, Bool.and_true, Bool.true_and, Bool.and_false, Bool.false_and, Bool.or_true, Bool.true_or, Bool.or_false, Bool.false_or, and_true, true_and, and_self, Nat.zero_add, Nat.add_zero, Int.toNat_zero, Nat.zero_mul, aM, beq_self_eq_true, bne_self_eq_false, reduceCtorEq, w64]
 rw [bJ (CD (k := k + 1) (by omega) (by omega) (by omega))]
 simp (disch := omega) only [jG, lO, kE, jA, kD, oM, oP, oN, oO, oL, lN, oK, kB, kC, bP, aN, cQ, u8, tyr, fgr, hkr, execOp, opd, dY, opt, ofValue, dF, ofList, eV, bX, put, nth, aE, cJ, bC, builtin, eX, eW, dH, cN, min2, max2, blr, dO, eJ, und, sizeOf, cE, lenOf, bor, cK, aR, cM, bZ, intOp, bS, strOp, eI, dC, slK, dE, unOp, aT, branch, idx, aW, cellsOf, dK, dT, cel, alloc, bW, newRow, nilCheck, extract, dG, dJ, bL, bO, cT, cW, aQ, fieldAddr, field, part, index, bE, aU, equal, cL, bT, cO, cR, cU, bU, List.getElem?_cons_succ, List.getElem?_cons_zero, List.append_eq, List.cons_append, List.nil_append, List.append_nil, List.length_cons, List.length_nil, Nat.reduceAdd, Nat.reduceSub, Nat.beq, Option.bind_some, nc0, nc1, Int.cast_ofNat_Int, cC, cB, cA, ↓reduceIte, Int.reduceEq, Int.reduceLT, Int.reduceLE, Int.reduceNe, Int.reduceAdd, Int.reduceSub, Int.reduceMul, Int.reduceNeg, Int.reduceGT, Int.reduceGE, ge_iff_le, gt_iff_lt, not_true_eq_false, not_false_eq_true, decide_not, decide_true, decide_false, Bool.not_true, Bool.not_false, Bool.and_true, Bool.true_and, Bool.and_false, Bool.false_and, Bool.or_true, Bool.true_or, Bool.or_false, Bool.false_or, and_true, true_and, and_self, Nat.zero_add, Nat.add_zero, Int.toNat_zero, Nat.zero_mul, aM, beq_self_eq_true, bne_self_eq_false, reduceCtorEq, w64]
 rw [bJ (CD (k := k) (by omega) (by omega) (by omega))]
 simp (disch := omega) only [jG, lO, kE, jA, kD, oM, oP, oN, oO, oL, lN, oK, kB, kC, bP, aN, cQ, u8, tyr, fgr, hkr, execOp, opd, dY, opt, ofValue, dF, ofList, eV, bX, put, nth, aE, cJ, bC, builtin, eX, eW, dH, cN, min2, max2, blr, dO, eJ, und, sizeOf, cE, lenOf, bor, cK, aR, cM, bZ, intOp, bS, strOp, eI, dC, slK, dE, unOp, aT, branch, idx, aW, cellsOf, dK, dT, cel, alloc, bW, newRow, nilCheck, extract, dG, dJ, bL, bO, cT, cW, aQ, fieldAddr, field, part, index, bE, aU, equal, cL, bT, cO, cR, cU, bU, List.getElem?_cons_succ, List.getElem?_cons_zero, List.append_eq, List.cons_append, List.nil_append, List.append_nil, List.length_cons, List.length_nil, Nat.reduceAdd, Nat.reduceSub, Nat.beq, Option.bind_some, nc0, nc1, Int.cast_ofNat_Int, cC, cB, cA, ↓reduceIte, Int.reduceEq, Int.reduceLT, Int.reduceLE, Int.reduceNe, Int.reduceAdd, Int.reduceSub, Int.reduceMul, Int.reduceNeg, Int.reduceGT, Int.reduceGE, ge_iff_le, gt_iff_lt, not_true_eq_false, not_false_eq_true, decide_not, decide_true, decide_false, Bool.not_true, Bool.not_false, Bool.and_true, Bool.true_and, Bool.and_false, Bool.false_and, Bool.or_true, Bool.true_or, Bool.or_false, Bool.false_or, and_true, true_and, and_self, Nat.zero_add, Nat.add_zero, Int.toNat_zero, Nat.zero_mul, aM, beq_self_eq_true, bne_self_eq_false, reduceCtorEq, w64]
 have hsub : (bK.l cells).sub k (len - k) = (cells.take len).drop k := by
  show (cells.drop k).take (len - k) = _
  rw [List.drop_take]
 have hone : ((cells.take len).drop k).all bI = true := by
  rw [List.all_eq_true] at h1 ⊢
  exact fun x hx => h1 x (List.mem_of_mem_drop hx)
 have hl2 : ((cells.take len).drop k).length = len - k := by rw [List.length_drop, List.length_take]; omega
 refine jZ (HF (m := len - k) hh hh (by omega) (by omega) (by omega) (by show k + (len - k) ≤ cells.length; omega) hsub hone) ?_
 simp (disch := omega) only [jG, lO, kE, jA, kD, oM, oP, oN, oO, oL, lN, oK, kB, kC, bP, aN, cQ, u8, tyr, fgr, hkr, execOp, opd, dY, opt, ofValue, dF, ofList, eV, bX, put, nth, aE, cJ, bC, builtin, eX, eW, dH, cN, min2, max2, blr, dO, eJ, und, sizeOf, cE, lenOf, bor, cK, aR, cM, bZ, intOp, bS, strOp, eI, dC, slK, dE, unOp, aT, branch, idx, aW, cellsOf, dK, dT, cel, alloc, bW, newRow, nilCheck, extract, dG, dJ, bL, bO, cT, cW, aQ, fieldAddr, field, part, index, bE, aU, equal, cL, bT, cO, cR, cU, bU, List.getElem?_cons_succ, List.getElem?_cons_zero, List.append_eq, List.cons_append, List.nil_append, List.append_nil, List.length_cons, List.length_nil, Nat.reduceAdd, Nat.reduceSub, Nat.beq, Option.bind_some, nc0, nc1, Int.cast_ofNat_Int, cC, cB, cA, ↓reduceIte, Int.reduceEq, Int.reduceLT, Int.reduceLE, Int.reduceNe, Int.reduceAdd, Int.reduceSub, Int.reduceMul, Int.reduceNeg, Int.reduceGT, Int.reduceGE, ge_iff_le, gt_iff_lt, not_true_eq_false, not_false_eq_true, decide_not, decide_true, decide_false, Bool.not_true, Bool.not_false, Bool.and_true, Bool.true_and, Bool.and_false, Bool.false_and, Bool.or_true, Bool.true_or, Bool.or_false, Bool.false_or, and_true, true_and, and_self, Nat.zero_add, Nat.add_zero, Int.toNat_zero, Nat.zero_mul, aM, beq_self_eq_true, bne_self_eq_false, reduceCtorEq, w64]
 refine ⟨(by (try simp (disch := omega) only [dW, List.all_cons, List.all_nil, yJ, yI, yH, Bool.not_false, Bool.true_or, Bool.and_true, Bool.true_and, yG, yF, yE, yM, yL, yD, yK]); repeat' (first | rfl | exact (Bool.or_eq_true _ _).mpr (.inr rfl) | refine (Bool.and_eq_true _ _).mpr ⟨?_, ?_⟩)), ?_⟩
 rw [aI (CD (k := k) (by omega) (by omega) (by omega))]
 simp (disch := omega) only [bP, aN, cQ, u8, tyr, fgr, hkr, execOp, opd, dY, opt, ofValue, dF, ofList, eV, bX, put, nth, aE, cJ, bC, builtin, eX, eW, dH, cN, min2, max2, blr, dO, eJ, und, sizeOf, cE, lenOf, bor, cK, aR, cM, bZ, intOp, bS, strOp, eI, dC, slK, dE, unOp, aT, branch, idx, aW, cellsOf, dK, dT, cel, alloc, bW, newRow, nilCheck, extract, dG, dJ, bL, bO, cT, cW, aQ, fieldAddr, field, part, index, bE, aU, equal, cL, bT, cO, cR, cU, bU, List.getElem?_cons_succ, List.getElem?_cons_zero, List.append_eq, List.cons_append, List.nil_append, List.append_nil, List.length_cons, List.length_nil, Nat.reduceAdd, Nat.reduceSub, Nat.beq, Option.bind_some, nc0, nc1, Int.cast_ofNat_Int, cC, cB, cA, ↓reduceIte, Int.reduceEq, Int.reduceLT, Int.reduceLE, Int.reduceNe, Int.reduceAdd, Int.reduceSub, Int.reduceMul, Int.reduceNeg, Int.reduceGT, Int.reduceGE, ge_iff_le, gt_iff_lt, not_true_eq_false, not_false_eq_true, decide_not, decide_true, decide_false, Bool.not_true, Bool.not_false, Bool.and_true, Bool.true_and, Bool.and_false, Bool.false_and, Bool.or_true, Bool.true_or, Bool.or_false, Bool.false_or, and_true, true_and, and_self, Nat.zero_add, Nat.add_zero, Int.toNat_zero, Nat.zero_mul, aM, beq_self_eq_true, bne_self_eq_false, reduceCtorEq, w64]
 have hxs : xc.sub 0 1 = [xc.at 0] := bK.mS hxc
 have hsp : (cH cells (k + 1) ((cells.take len).drop k)).length = C := by rw [fY (by rw [hl2]; omega)]; exact hC
 rw [eS (HF (m := 1) (aP _ _ _) ((aG _ _ hne).trans hx) (by omega) (by omega) (by rw [hsp]; omega) hxc hxs (by simp [hv]))]
 simp (disch := omega) only [bP, aN, cQ, u8, tyr, fgr, hkr, execOp, opd, dY, opt, ofValue, dF, ofList, eV, bX, put, nth, aE, cJ, bC, builtin, eX, eW, dH, cN, min2, max2, blr, dO, eJ, und, sizeOf, cE, lenOf, bor, cK, aR, cM, bZ, intOp, bS, strOp, eI, dC, slK, dE, unOp, aT, branch, idx, aW, cellsOf, dK, dT, cel, alloc, bW, newRow, nilCheck, extract, dG, dJ, bL, bO, cT, cW, aQ, fieldAddr, field, part, index, bE, aU, equal, cL, bT, cO, cR, cU, bU, List.getElem?_cons_succ, List.getElem?_cons_zero, List.append_eq, List.cons_append, List.nil_append, List.append_nil, List.length_cons, List.length_nil, Nat.reduceAdd, Nat.reduceSub, Nat.beq, Option.bind_some, nc0, nc1, Int.cast_ofNat_Int, cC, cB, cA, ↓reduceIte, Int.reduceEq, Int.reduceLT, Int.reduceLE, Int.reduceNe, Int.reduceAdd, Int.reduceSub, Int.reduceMul, Int.reduceNeg, Int.reduceGT, Int.reduceGE, ge_iff_le, gt_iff_lt, not_true_eq_false, not_false_eq_true, decide_not, decide_true, decide_false, Bool.not_true, Bool.not_false, Bool.and_true, Bool.true_and, Bool.and_false, Bool.false_and, Bool.or_true, Bool.true_or, Bool.or_false, Bool.false_or, and_true, true_and, and_self, Nat.zero_add, Nat.add_zero, Int.toNat_zero, Nat.zero_mul, aM, beq_self_eq_true, bne_self_eq_false, reduceCtorEq, w64]
 refine .inl ⟨by omega, _, ?_, QV hkl (by omega), fun j => ?_⟩
 ·rw [fY (by rw [hsp]; simp; omega)]; exact hsp
 ·by_cases q : j = id
  ·subst q; rw [aP, if_pos rfl]
  ·rw [aG _ _ q, aG _ _ q, if_neg q]
theorem AQ {h : Hp} {n xid : Nat} {s : a9} {xc : bK} {e' : TypeId} (hs : s = .aV ∨ s = .emp ∨ ∃ id off c, s = .sl id off 0 (some 0) 1 ∧ h id = some (.row c 128) ∧ off ≤ c.size) (hx : h xid = some (.row xc e')) (hxc : 0 < xc.size) (hv : bI (xc.at 0) = true) :
  Wp (gH env [95, 95] s (.sl xid 0 1 (some 1) 1)) h n fun v' h' n' => v' = .sl n 0 1 none 1 ∧ n' = n + 1 ∧ ∀ j, h' j = if j = n then some (.row (.l [xc.at 0]) 128) else h j := by
 have hx1 : Rds h 1 (.sl xid 0 1 (some 1) 1) 1 [xc.at 0] := .sl xid 0 1 (some 1) xc e' _ hx rfl (by simp; omega) (fun j hj => by
  have : j = 0 := by simpa using hj
  subst this; rfl)
 have key : ∀ j, upd h n (some (Blk.row (bK.l [xc.at 0]) 128)) j = if j = n then some (.row (.l [xc.at 0]) 128) else h j := fun j => rfl
 have r1 : ((2 * 1 * 8).ble room && (1).ble room) = true := rfl
 rcases hs with rfl | rfl | ⟨id, off, c, rfl, hc1, hc2⟩
 ·simp only [gH, u95, aB, eJ, append, jB, lenOf, bind_assoc, hU, show (Nat.beq 1 0) = false from rfl]
  refine fL hx1.cells ?_
  simp only [iS, fP, hO, aM, r1, true_and]
  exact key
 ·simp only [gH, u95, aB, eJ, append, jB, lenOf, bind_assoc, hU, show (Nat.beq 1 0) = false from rfl]
  refine fL hx1.cells ?_
  simp only [iS, fP, hO, aM, r1, true_and]
  exact key
 ·simp only [gH, u95, aB, eJ, append, jB, lenOf, bind_assoc, hU, show (Nat.beq 1 0) = false from rfl]
  refine fL hx1.cells ?_
  have hs0 : Rds h 1 (.sl id off 0 (some 0) 1) 0 [] := .sl id off 0 (some 0) c 128 _ hc1 rfl (by simpa using hc2) (fun j hj => by simp at hj)
  simp only [bE, show (Nat.beq 1 1) = true from rfl, fW, hc1, Option.some.injEq, exists_eq_left', cT, hU, show (Nat.ble (0 + 1) 0) = false from rfl]
  refine fL hs0.cells ?_
  simp only [iS, Nat.zero_add, List.nil_append, fP, hO, aM, r1, true_and]
  exact key
theorem af7 (h : Hp) (n : Nat) (s : a9) (xid : Nat) (xc : bK) (hs : s = .aV ∨ s = .emp ∨ ∃ id off c, s = .sl id off 0 (some 0) 1 ∧ h id = some (.row c 128) ∧ off ≤ c.size) (hx : h xid = some (.row xc 128)) (hxc : 0 < xc.size) (hv : bI (xc.at 0) = true) (hxn : xid < n) :
  Wp (bM env (aY env) 104 [s, .int .i64 0, .sl xid 0 1 (some 1) 1]) h n fun v' h' n' => v' = .sl n 0 1 none 1 ∧ n' = n + 1 ∧ ∀ j, h' j = if j = n then some (.row (.l [xc.at 0]) 128) else h j := by
 refine aZ SP SO ?_
 have hxs : xc.sub 0 1 = [xc.at 0] := bK.mS hxc
 have b1 : Nat.ble (0 + 1) xc.size = true := Nat.ble_eq_true_of_le hxc
 have b2 : Nat.ble 1 xc.size = true := Nat.ble_eq_true_of_le hxc
 rcases hs with rfl | rfl | ⟨id, off, c, rfl, hc1, hc2⟩
 ·simp only [A7, Try.f104, Option.getD_some, List.replicate, bP, aN, cQ, u8, tyr, fgr, hkr, execOp, opd, dY, opt, ofValue, dF, ofList, eV, bX, put, nth, aE, cJ, bC, builtin, eX, eW, dH, cN, min2, max2, blr, dO, eJ, und, sizeOf, cE, lenOf, bor, cK, aR, cM, bZ, intOp, bS, strOp, eI, dC, slK, dE, unOp, aT, branch, idx, aW, cellsOf, dK, dT, cel, alloc, bW, newRow, nilCheck, extract, dG, dJ, bL, bO, cT, cW, aQ, fieldAddr, field, part, index, bE, aU, equal, cL, bT, cO, cR, cU, bU, List.getElem?_cons_succ, List.getElem?_cons_zero, List.append_eq, List.cons_append, List.nil_append, List.append_nil, List.length_cons, List.length_nil, Nat.reduceAdd, Nat.reduceSub, Nat.beq, Option.bind_some, nc0, nc1, Int.cast_ofNat_Int, cC, cB, cA, ↓reduceIte, Int.reduceEq, Int.reduceLT, Int.reduceLE, Int.reduceNe, Int.reduceAdd, Int.reduceSub, Int.reduceMul, Int.reduceNeg, Int.reduceGT, Int.reduceGE, ge_iff_le, gt_iff_lt, not_true_eq_false, not_false_eq_true, decide_not, decide_true, decide_false, Bool.not_true, Bool.not_false, Bool.and_true, Bool.true_and, Bool.and_false, Bool.false_and, Bool.or_true, Bool.true_or, Bool.or_false, Bool.false_or, and_true, true_and, and_self, Nat.zero_add, Nat.add_zero, Int.toNat_zero, Nat.zero_mul, aM, beq_self_eq_true, bne_self_eq_false, reduceCtorEq, slice, dN, uH]
  refine dL (AQ (.inl rfl) hx hxc hv) fun v' h' n' ⟨e1, e2, e3⟩ => ?_
  subst e1
  simp only [bP, aN, cQ, u8, tyr, fgr, hkr, execOp, opd, dY, opt, ofValue, dF, ofList, eV, bX, put, nth, aE, cJ, bC, builtin, eX, eW, dH, cN, min2, max2, blr, dO, eJ, und, sizeOf, cE, lenOf, bor, cK, aR, cM, bZ, intOp, bS, strOp, eI, dC, slK, dE, unOp, aT, branch, idx, aW, cellsOf, dK, dT, cel, alloc, bW, newRow, nilCheck, extract, dG, dJ, bL, bO, cT, cW, aQ, fieldAddr, field, part, index, bE, aU, equal, cL, bT, cO, cR, cU, bU, List.getElem?_cons_succ, List.getElem?_cons_zero, List.append_eq, List.cons_append, List.nil_append, List.append_nil, List.length_cons, List.length_nil, Nat.reduceAdd, Nat.reduceSub, Nat.beq, Option.bind_some, nc0, nc1, Int.cast_ofNat_Int, cC, cB, cA, ↓reduceIte, Int.reduceEq, Int.reduceLT, Int.reduceLE, Int.reduceNe, Int.reduceAdd, Int.reduceSub, Int.reduceMul, Int.reduceNeg, Int.reduceGT, Int.reduceGE, ge_iff_le, gt_iff_lt, not_true_eq_false, not_false_eq_true, decide_not, decide_true, decide_false, Bool.not_true, Bool.not_false, Bool.and_true, Bool.true_and, Bool.and_false, Bool.false_and, Bool.or_true, Bool.true_or, Bool.or_false, Bool.false_or, and_true, true_and, and_self, Nat.zero_add, Nat.add_zero, Int.toNat_zero, Nat.zero_mul, aM, beq_self_eq_true, bne_self_eq_false, reduceCtorEq, e2]
  exact e3
 ·simp only [A7, Try.f104, Option.getD_some, List.replicate, bP, aN, cQ, u8, tyr, fgr, hkr, execOp, opd, dY, opt, ofValue, dF, ofList, eV, bX, put, nth, aE, cJ, bC, builtin, eX, eW, dH, cN, min2, max2, blr, dO, eJ, und, sizeOf, cE, lenOf, bor, cK, aR, cM, bZ, intOp, bS, strOp, eI, dC, slK, dE, unOp, aT, branch, idx, aW, cellsOf, dK, dT, cel, alloc, bW, newRow, nilCheck, extract, dG, dJ, bL, bO, cT, cW, aQ, fieldAddr, field, part, index, bE, aU, equal, cL, bT, cO, cR, cU, bU, List.getElem?_cons_succ, List.getElem?_cons_zero, List.append_eq, List.cons_append, List.nil_append, List.append_nil, List.length_cons, List.length_nil, Nat.reduceAdd, Nat.reduceSub, Nat.beq, Option.bind_some, nc0, nc1, Int.cast_ofNat_Int, cC, cB, cA, ↓reduceIte, Int.reduceEq, Int.reduceLT, Int.reduceLE, Int.reduceNe, Int.reduceAdd, Int.reduceSub, Int.reduceMul, Int.reduceNeg, Int.reduceGT, Int.reduceGE, ge_iff_le, gt_iff_lt, not_true_eq_false, not_false_eq_true, decide_not, decide_true, decide_false, Bool.not_true, Bool.not_false, Bool.and_true, Bool.true_and, Bool.and_false, Bool.false_and, Bool.or_true, Bool.true_or, Bool.or_false, Bool.false_or, and_true, true_and, and_self, Nat.zero_add, Nat.add_zero, Int.toNat_zero, Nat.zero_mul, aM, beq_self_eq_true, bne_self_eq_false, reduceCtorEq, slice, dN, uH]
  refine dL (AQ (.inr (.inl rfl)) hx hxc hv) fun v' h' n' ⟨e1, e2, e3⟩ => ?_
  subst e1
  simp only [bP, aN, cQ, u8, tyr, fgr, hkr, execOp, opd, dY, opt, ofValue, dF, ofList, eV, bX, put, nth, aE, cJ, bC, builtin, eX, eW, dH, cN, min2, max2, blr, dO, eJ, und, sizeOf, cE, lenOf, bor, cK, aR, cM, bZ, intOp, bS, strOp, eI, dC, slK, dE, unOp, aT, branch, idx, aW, cellsOf, dK, dT, cel, alloc, bW, newRow, nilCheck, extract, dG, dJ, bL, bO, cT, cW, aQ, fieldAddr, field, part, index, bE, aU, equal, cL, bT, cO, cR, cU, bU, List.getElem?_cons_succ, List.getElem?_cons_zero, List.append_eq, List.cons_append, List.nil_append, List.append_nil, List.length_cons, List.length_nil, Nat.reduceAdd, Nat.reduceSub, Nat.beq, Option.bind_some, nc0, nc1, Int.cast_ofNat_Int, cC, cB, cA, ↓reduceIte, Int.reduceEq, Int.reduceLT, Int.reduceLE, Int.reduceNe, Int.reduceAdd, Int.reduceSub, Int.reduceMul, Int.reduceNeg, Int.reduceGT, Int.reduceGE, ge_iff_le, gt_iff_lt, not_true_eq_false, not_false_eq_true, decide_not, decide_true, decide_false, Bool.not_true, Bool.not_false, Bool.and_true, Bool.true_and, Bool.and_false, Bool.false_and, Bool.or_true, Bool.true_or, Bool.or_false, Bool.false_or, and_true, true_and, and_self, Nat.zero_add, Nat.add_zero, Int.toNat_zero, Nat.zero_mul, aM, beq_self_eq_true, bne_self_eq_false, reduceCtorEq, e2]
  exact e3
 ·simp only [A7, Try.f104, Option.getD_some, List.replicate, bP, aN, cQ, u8, tyr, fgr, hkr, execOp, opd, dY, opt, ofValue, dF, ofList, eV, bX, put, nth, aE, cJ, bC, builtin, eX, eW, dH, cN, min2, max2, blr, dO, eJ, und, sizeOf, cE, lenOf, bor, cK, aR, cM, bZ, intOp, bS, strOp, eI, dC, slK, dE, unOp, aT, branch, idx, aW, cellsOf, dK, dT, cel, alloc, bW, newRow, nilCheck, extract, dG, dJ, bL, bO, cT, cW, aQ, fieldAddr, field, part, index, bE, aU, equal, cL, bT, cO, cR, cU, bU, List.getElem?_cons_succ, List.getElem?_cons_zero, List.append_eq, List.cons_append, List.nil_append, List.append_nil, List.length_cons, List.length_nil, Nat.reduceAdd, Nat.reduceSub, Nat.beq, Option.bind_some, nc0, nc1, Int.cast_ofNat_Int, cC, cB, cA, ↓reduceIte, Int.reduceEq, Int.reduceLT, Int.reduceLE, Int.reduceNe, Int.reduceAdd, Int.reduceSub, Int.reduceMul, Int.reduceNeg, Int.reduceGT, Int.reduceGE, ge_iff_le, gt_iff_lt, not_true_eq_false, not_false_eq_true, decide_not, decide_true, decide_false, Bool.not_true, Bool.not_false, Bool.and_true, Bool.true_and, Bool.and_false, Bool.false_and, Bool.or_true, Bool.true_or, Bool.or_false, Bool.false_or, and_true, true_and, and_self, Nat.zero_add, Nat.add_zero, Int.toNat_zero, Nat.zero_mul, aM, beq_self_eq_true, bne_self_eq_false, reduceCtorEq, slice, dN, uH]
  refine dL (AQ (.inr (.inr ⟨id, off, c, rfl, hc1, hc2⟩)) hx hxc hv) fun v' h' n' ⟨e1, e2, e3⟩ => ?_
  subst e1
  simp only [bP, aN, cQ, u8, tyr, fgr, hkr, execOp, opd, dY, opt, ofValue, dF, ofList, eV, bX, put, nth, aE, cJ, bC, builtin, eX, eW, dH, cN, min2, max2, blr, dO, eJ, und, sizeOf, cE, lenOf, bor, cK, aR, cM, bZ, intOp, bS, strOp, eI, dC, slK, dE, unOp, aT, branch, idx, aW, cellsOf, dK, dT, cel, alloc, bW, newRow, nilCheck, extract, dG, dJ, bL, bO, cT, cW, aQ, fieldAddr, field, part, index, bE, aU, equal, cL, bT, cO, cR, cU, bU, List.getElem?_cons_succ, List.getElem?_cons_zero, List.append_eq, List.cons_append, List.nil_append, List.append_nil, List.length_cons, List.length_nil, Nat.reduceAdd, Nat.reduceSub, Nat.beq, Option.bind_some, nc0, nc1, Int.cast_ofNat_Int, cC, cB, cA, ↓reduceIte, Int.reduceEq, Int.reduceLT, Int.reduceLE, Int.reduceNe, Int.reduceAdd, Int.reduceSub, Int.reduceMul, Int.reduceNeg, Int.reduceGT, Int.reduceGE, ge_iff_le, gt_iff_lt, not_true_eq_false, not_false_eq_true, decide_not, decide_true, decide_false, Bool.not_true, Bool.not_false, Bool.and_true, Bool.true_and, Bool.and_false, Bool.false_and, Bool.or_true, Bool.true_or, Bool.or_false, Bool.false_or, and_true, true_and, and_self, Nat.zero_add, Nat.add_zero, Int.toNat_zero, Nat.zero_mul, aM, beq_self_eq_true, bne_self_eq_false, reduceCtorEq, e2]
  exact e3
theorem PO : HP env 104 128 oV.i := ⟨af7, fun h n id len C k xid cells xc hh hC hl h0 hr hr2 hk h1 hx hxc hv hxn hin hne => f104 h n id len C k xid cells xc hh hC hl h0 hr hr2 hk h1 hx hxc hv hxn hin hne⟩
theorem UJ : lP Try.prog 108 dR := by
 refine CE (E := env) fun args s v s' h ho => ?_
 have h0 := h
 unfold dR at h0
 split at h0
 ·rename_i x y
  obtain ⟨e, hw⟩ := DR h ho
  refine ⟨e, ?_⟩
  refine aZ ae4 ZY ?_
  simp only [NA, Try.f108, Option.getD_some, List.replicate, bP, aN, cQ, u8, tyr, fgr, hkr, execOp, opd, dY, opt, ofValue, dF, ofList, eV, bX, put, nth, aE, cJ, bC, builtin, eX, eW, dH, cN, min2, max2, blr, dO, eJ, und, sizeOf, cE, lenOf, bor, cK, aR, cM, bZ, intOp, bS, strOp, eI, dC, slK, dE, unOp, aT, branch, idx, aW, cellsOf, dK, dT, cel, alloc, bW, newRow, nilCheck, extract, dG, dJ, bL, bO, cT, cW, aQ, fieldAddr, field, part, index, bE, aU, equal, cL, bT, cO, cR, cU, bU, List.getElem?_cons_succ, List.getElem?_cons_zero, List.append_eq, List.cons_append, List.nil_append, List.append_nil, List.length_cons, List.length_nil, Nat.reduceAdd, Nat.reduceSub, Nat.beq, Option.bind_some, nc0, nc1, Int.cast_ofNat_Int, cC, cB, cA, ↓reduceIte, Int.reduceEq, Int.reduceLT, Int.reduceLE, Int.reduceNe, Int.reduceAdd, Int.reduceSub, Int.reduceMul, Int.reduceNeg, Int.reduceGT, Int.reduceGE, ge_iff_le, gt_iff_lt, not_true_eq_false, not_false_eq_true, decide_not, decide_true, decide_false, Bool.not_true, Bool.not_false, Bool.and_true, Bool.true_and, Bool.and_false, Bool.false_and, Bool.or_true, Bool.true_or, Bool.or_false, Bool.false_or, and_true, true_and, and_self, Nat.zero_add, Nat.add_zero, Int.toNat_zero, Nat.zero_mul, aM, beq_self_eq_true, bne_self_eq_false, reduceCtorEq]
  refine dL hw fun v' h' n' ⟨e1, e2, e3⟩ => ?_
  subst e1
  simp only [bP, aN, cQ, u8, tyr, fgr, hkr, execOp, opd, dY, opt, ofValue, dF, ofList, eV, bX, put, nth, aE, cJ, bC, builtin, eX, eW, dH, cN, min2, max2, blr, dO, eJ, und, sizeOf, cE, lenOf, bor, cK, aR, cM, bZ, intOp, bS, strOp, eI, dC, slK, dE, unOp, aT, branch, idx, aW, cellsOf, dK, dT, cel, alloc, bW, newRow, nilCheck, extract, dG, dJ, bL, bO, cT, cW, aQ, fieldAddr, field, part, index, bE, aU, equal, cL, bT, cO, cR, cU, bU, List.getElem?_cons_succ, List.getElem?_cons_zero, List.append_eq, List.cons_append, List.nil_append, List.append_nil, List.length_cons, List.length_nil, Nat.reduceAdd, Nat.reduceSub, Nat.beq, Option.bind_some, nc0, nc1, Int.cast_ofNat_Int, cC, cB, cA, ↓reduceIte, Int.reduceEq, Int.reduceLT, Int.reduceLE, Int.reduceNe, Int.reduceAdd, Int.reduceSub, Int.reduceMul, Int.reduceNeg, Int.reduceGT, Int.reduceGE, ge_iff_le, gt_iff_lt, not_true_eq_false, not_false_eq_true, decide_not, decide_true, decide_false, Bool.not_true, Bool.not_false, Bool.and_true, Bool.true_and, Bool.and_false, Bool.false_and, Bool.or_true, Bool.true_or, Bool.or_false, Bool.false_or, and_true, true_and, and_self, Nat.zero_add, Nat.add_zero, Int.toNat_zero, Nat.zero_mul, aM, beq_self_eq_true, bne_self_eq_false, reduceCtorEq]
  exact ⟨e2, e3⟩
 ·exact (aD h0).elim
def yW : List a9 → M a9
 | [a] => match a with
  | .ptr s off => match off.beq 0 with
   | true => (fT s).bind (cT fun c _ => match c with
     | .l cs => match cs with
      | [x, lv] => match x with
       | .ptr _ _ => match lv with
        | .aV => M.pure (.int .i64 (-1))
        | .sl _ _ len _ _ => match len.ble 1000000 with
         | true => M.pure (.int .i64 ((len : Nat) - 1))
         | false => bF "Tip"
        | _ => bF "Tip"
       | _ => bF "Tip"
      | _ => bF "Tip"
     | _ => bF "Tip")
   | false => bF "Tip"
  | .dP => M.pure (.int .i64 (-1))
  | _ => bF "Tip"
 | _ => bF "Tip"
theorem aB6 (s x o : Nat) (lv : a9) (h : Hp) (n : Nat) (hr : Row h s [.ptr x o, lv]) : Wp (bM env (aY env) 66 [.ptr s 0]) h n fun v' h' n' => v' = .bool false ∧ h' = h ∧ n' = n := by
 refine aZ J3 J2 ?_
 simp only [zI, Try.f66, Option.getD_some, List.replicate, bP, aN, cQ, u8, tyr, fgr, hkr, execOp, opd, dY, opt, ofValue, dF, ofList, eV, bX, put, nth, aE, cJ, bC, builtin, eX, eW, dH, cN, min2, max2, blr, dO, eJ, und, sizeOf, cE, lenOf, bor, cK, aR, cM, bZ, intOp, bS, strOp, eI, dC, slK, dE, unOp, aT, branch, idx, aW, cellsOf, dK, dT, cel, alloc, bW, newRow, nilCheck, extract, dG, dJ, bL, bO, cT, cW, aQ, fieldAddr, field, part, index, bE, aU, equal, cL, bT, cO, cR, cU, bU, List.getElem?_cons_succ, List.getElem?_cons_zero, List.append_eq, List.cons_append, List.nil_append, List.append_nil, List.length_cons, List.length_nil, Nat.reduceAdd, Nat.reduceSub, Nat.beq, Option.bind_some, nc0, nc1, Int.cast_ofNat_Int, cC, cB, cA, ↓reduceIte, Int.reduceEq, Int.reduceLT, Int.reduceLE, Int.reduceNe, Int.reduceAdd, Int.reduceSub, Int.reduceMul, Int.reduceNeg, Int.reduceGT, Int.reduceGE, ge_iff_le, gt_iff_lt, not_true_eq_false, not_false_eq_true, decide_not, decide_true, decide_false, Bool.not_true, Bool.not_false, Bool.and_true, Bool.true_and, Bool.and_false, Bool.false_and, Bool.or_true, Bool.true_or, Bool.or_false, Bool.false_or, and_true, true_and, and_self, Nat.zero_add, Nat.add_zero, Int.toNat_zero, Nat.zero_mul, aM, beq_self_eq_true, bne_self_eq_false, reduceCtorEq]
 rw [aI (hr.one (off := 0) rfl oC rfl)]
 simp only [bP, aN, cQ, u8, tyr, fgr, hkr, execOp, opd, dY, opt, ofValue, dF, ofList, eV, bX, put, nth, aE, cJ, bC, builtin, eX, eW, dH, cN, min2, max2, blr, dO, eJ, und, sizeOf, cE, lenOf, bor, cK, aR, cM, bZ, intOp, bS, strOp, eI, dC, slK, dE, unOp, aT, branch, idx, aW, cellsOf, dK, dT, cel, alloc, bW, newRow, nilCheck, extract, dG, dJ, bL, bO, cT, cW, aQ, fieldAddr, field, part, index, bE, aU, equal, cL, bT, cO, cR, cU, bU, List.getElem?_cons_succ, List.getElem?_cons_zero, List.append_eq, List.cons_append, List.nil_append, List.append_nil, List.length_cons, List.length_nil, Nat.reduceAdd, Nat.reduceSub, Nat.beq, Option.bind_some, nc0, nc1, Int.cast_ofNat_Int, cC, cB, cA, ↓reduceIte, Int.reduceEq, Int.reduceLT, Int.reduceLE, Int.reduceNe, Int.reduceAdd, Int.reduceSub, Int.reduceMul, Int.reduceNeg, Int.reduceGT, Int.reduceGE, ge_iff_le, gt_iff_lt, not_true_eq_false, not_false_eq_true, decide_not, decide_true, decide_false, Bool.not_true, Bool.not_false, Bool.and_true, Bool.true_and, Bool.and_false, Bool.false_and, Bool.or_true, Bool.true_or, Bool.or_false, Bool.false_or, and_true, true_and, and_self, Nat.zero_add, Nat.add_zero, Int.toNat_zero, Nat.zero_mul, aM, beq_self_eq_true, bne_self_eq_false, reduceCtorEq]
theorem af5 (s x o : Nat) (lv : a9) (k : Nat) (h : Hp) (n : Nat) (hr : Row h s [.ptr x o, lv]) (hl : dD env [57] lv = M.pure (.int .i64 (k : Nat))) (h1 : dT PQ.i.desc = false) (hk : k ≤ 1000000) : Wp (bM env (aY env) 20 [.ptr s 0]) h n fun v' h' n' => v' = .int .i64 ((k : Nat) - 1) ∧ h' = h ∧ n' = n := by
 have w1 : IntKind.i64.wrap (((k : Nat) : Int) - 1) = ((k : Nat) : Int) - 1 := w64 (by omega) (by omega)
 refine aZ ad4 ZO ?_
 simp only [R3, Try.f20, Option.getD_some, List.replicate, bP, aN, cQ, u8, tyr, fgr, hkr, execOp, opd, dY, opt, ofValue, dF, ofList, eV, bX, put, nth, aE, cJ, bC, builtin, eX, eW, dH, cN, min2, max2, blr, dO, eJ, und, sizeOf, cE, lenOf, bor, cK, aR, cM, bZ, intOp, bS, strOp, eI, dC, slK, dE, unOp, aT, branch, idx, aW, cellsOf, dK, dT, cel, alloc, bW, newRow, nilCheck, extract, dG, dJ, bL, bO, cT, cW, aQ, fieldAddr, field, part, index, bE, aU, equal, cL, bT, cO, cR, cU, bU, List.getElem?_cons_succ, List.getElem?_cons_zero, List.append_eq, List.cons_append, List.nil_append, List.append_nil, List.length_cons, List.length_nil, Nat.reduceAdd, Nat.reduceSub, Nat.beq, Option.bind_some, nc0, nc1, Int.cast_ofNat_Int, cC, cB, cA, ↓reduceIte, Int.reduceEq, Int.reduceLT, Int.reduceLE, Int.reduceNe, Int.reduceAdd, Int.reduceSub, Int.reduceMul, Int.reduceNeg, Int.reduceGT, Int.reduceGE, ge_iff_le, gt_iff_lt, not_true_eq_false, not_false_eq_true, decide_not, decide_true, decide_false, Bool.not_true, Bool.not_false, Bool.and_true, Bool.true_and, Bool.and_false, Bool.false_and, Bool.or_true, Bool.true_or, Bool.or_false, Bool.false_or, and_true, true_and, and_self, Nat.zero_add, Nat.add_zero, Int.toNat_zero, Nat.zero_mul, aM, beq_self_eq_true, bne_self_eq_false, reduceCtorEq]
 refine dA (aB6 s x o lv h n hr) ?_
 simp only [bP, aN, cQ, u8, tyr, fgr, hkr, execOp, opd, dY, opt, ofValue, dF, ofList, eV, bX, put, nth, aE, cJ, bC, builtin, eX, eW, dH, cN, min2, max2, blr, dO, eJ, und, sizeOf, cE, lenOf, bor, cK, aR, cM, bZ, intOp, bS, strOp, eI, dC, slK, dE, unOp, aT, branch, idx, aW, cellsOf, dK, dT, cel, alloc, bW, newRow, nilCheck, extract, dG, dJ, bL, bO, cT, cW, aQ, fieldAddr, field, part, index, bE, aU, equal, cL, bT, cO, cR, cU, bU, List.getElem?_cons_succ, List.getElem?_cons_zero, List.append_eq, List.cons_append, List.nil_append, List.append_nil, List.length_cons, List.length_nil, Nat.reduceAdd, Nat.reduceSub, Nat.beq, Option.bind_some, nc0, nc1, Int.cast_ofNat_Int, cC, cB, cA, ↓reduceIte, Int.reduceEq, Int.reduceLT, Int.reduceLE, Int.reduceNe, Int.reduceAdd, Int.reduceSub, Int.reduceMul, Int.reduceNeg, Int.reduceGT, Int.reduceGE, ge_iff_le, gt_iff_lt, not_true_eq_false, not_false_eq_true, decide_not, decide_true, decide_false, Bool.not_true, Bool.not_false, Bool.and_true, Bool.true_and, Bool.and_false, Bool.false_and, Bool.or_true, Bool.true_or, Bool.or_false, Bool.false_or, and_true, true_and, and_self, Nat.zero_add, Nat.add_zero, Int.toNat_zero, Nat.zero_mul, aM, beq_self_eq_true, bne_self_eq_false, reduceCtorEq]
 rw [aI (hr.one (off := 1) rfl sP rfl)]
 simp only [bP, aN, cQ, u8, tyr, fgr, hkr, execOp, opd, dY, opt, ofValue, dF, ofList, eV, bX, put, nth, aE, cJ, bC, builtin, eX, eW, dH, cN, min2, max2, blr, dO, eJ, und, sizeOf, cE, lenOf, bor, cK, aR, cM, bZ, intOp, bS, strOp, eI, dC, slK, dE, unOp, aT, branch, idx, aW, cellsOf, dK, dT, cel, alloc, bW, newRow, nilCheck, extract, dG, dJ, bL, bO, cT, cW, aQ, fieldAddr, field, part, index, bE, aU, equal, cL, bT, cO, cR, cU, bU, List.getElem?_cons_succ, List.getElem?_cons_zero, List.append_eq, List.cons_append, List.nil_append, List.append_nil, List.length_cons, List.length_nil, Nat.reduceAdd, Nat.reduceSub, Nat.beq, Option.bind_some, nc0, nc1, Int.cast_ofNat_Int, cC, cB, cA, ↓reduceIte, Int.reduceEq, Int.reduceLT, Int.reduceLE, Int.reduceNe, Int.reduceAdd, Int.reduceSub, Int.reduceMul, Int.reduceNeg, Int.reduceGT, Int.reduceGE, ge_iff_le, gt_iff_lt, not_true_eq_false, not_false_eq_true, decide_not, decide_true, decide_false, Bool.not_true, Bool.not_false, Bool.and_true, Bool.true_and, Bool.and_false, Bool.false_and, Bool.or_true, Bool.true_or, Bool.or_false, Bool.false_or, and_true, true_and, and_self, Nat.zero_add, Nat.add_zero, Int.toNat_zero, Nat.zero_mul, aM, beq_self_eq_true, bne_self_eq_false, reduceCtorEq, hl, w1]
theorem af2 (h : Hp) (n : Nat) : Wp (bM env (aY env) 66 [.dP]) h n fun v' h' n' => v' = .bool true ∧ h' = h ∧ n' = n := by
 refine aZ J3 J2 ?_
 simp only [zI, Try.f66, Option.getD_some, List.replicate, bP, aN, cQ, u8, tyr, fgr, hkr, execOp, opd, dY, opt, ofValue, dF, ofList, eV, bX, put, nth, aE, cJ, bC, builtin, eX, eW, dH, cN, min2, max2, blr, dO, eJ, und, sizeOf, cE, lenOf, bor, cK, aR, cM, bZ, intOp, bS, strOp, eI, dC, slK, dE, unOp, aT, branch, idx, aW, cellsOf, dK, dT, cel, alloc, bW, newRow, nilCheck, extract, dG, dJ, bL, bO, cT, cW, aQ, fieldAddr, field, part, index, bE, aU, equal, cL, bT, cO, cR, cU, bU, List.getElem?_cons_succ, List.getElem?_cons_zero, List.append_eq, List.cons_append, List.nil_append, List.append_nil, List.length_cons, List.length_nil, Nat.reduceAdd, Nat.reduceSub, Nat.beq, Option.bind_some, nc0, nc1, Int.cast_ofNat_Int, cC, cB, cA, ↓reduceIte, Int.reduceEq, Int.reduceLT, Int.reduceLE, Int.reduceNe, Int.reduceAdd, Int.reduceSub, Int.reduceMul, Int.reduceNeg, Int.reduceGT, Int.reduceGE, ge_iff_le, gt_iff_lt, not_true_eq_false, not_false_eq_true, decide_not, decide_true, decide_false, Bool.not_true, Bool.not_false, Bool.and_true, Bool.true_and, Bool.and_false, Bool.false_and, Bool.or_true, Bool.true_or, Bool.or_false, Bool.false_or, and_true, true_and, and_self, Nat.zero_add, Nat.add_zero, Int.toNat_zero, Nat.zero_mul, aM, beq_self_eq_true, bne_self_eq_false, reduceCtorEq]
theorem af6 (h : Hp) (n : Nat) : Wp (bM env (aY env) 20 [.dP]) h n fun v' h' n' => v' = .int .i64 (-1) ∧ h' = h ∧ n' = n := by
 refine aZ ad4 ZO ?_
 simp only [R3, Try.f20, Option.getD_some, List.replicate, bP, aN, cQ, u8, tyr, fgr, hkr, execOp, opd, dY, opt, ofValue, dF, ofList, eV, bX, put, nth, aE, cJ, bC, builtin, eX, eW, dH, cN, min2, max2, blr, dO, eJ, und, sizeOf, cE, lenOf, bor, cK, aR, cM, bZ, intOp, bS, strOp, eI, dC, slK, dE, unOp, aT, branch, idx, aW, cellsOf, dK, dT, cel, alloc, bW, newRow, nilCheck, extract, dG, dJ, bL, bO, cT, cW, aQ, fieldAddr, field, part, index, bE, aU, equal, cL, bT, cO, cR, cU, bU, List.getElem?_cons_succ, List.getElem?_cons_zero, List.append_eq, List.cons_append, List.nil_append, List.append_nil, List.length_cons, List.length_nil, Nat.reduceAdd, Nat.reduceSub, Nat.beq, Option.bind_some, nc0, nc1, Int.cast_ofNat_Int, cC, cB, cA, ↓reduceIte, Int.reduceEq, Int.reduceLT, Int.reduceLE, Int.reduceNe, Int.reduceAdd, Int.reduceSub, Int.reduceMul, Int.reduceNeg, Int.reduceGT, Int.reduceGE, ge_iff_le, gt_iff_lt, not_true_eq_false, not_false_eq_true, decide_not, decide_true, decide_false, Bool.not_true, Bool.not_false, Bool.and_true, Bool.true_and, Bool.and_false, Bool.false_and, Bool.or_true, Bool.true_or, Bool.or_false, Bool.false_or, and_true, true_and, and_self, Nat.zero_add, Nat.add_zero, Int.toNat_zero, Nat.zero_mul, aM, beq_self_eq_true, bne_self_eq_false, reduceCtorEq]
 refine dA (af2 h n) ?_
 simp only [bP, aN, cQ, u8, tyr, fgr, hkr, execOp, opd, dY, opt, ofValue, dF, ofList, eV, bX, put, nth, aE, cJ, bC, builtin, eX, eW, dH, cN, min2, max2, blr, dO, eJ, und, sizeOf, cE, lenOf, bor, cK, aR, cM, bZ, intOp, bS, strOp, eI, dC, slK, dE, unOp, aT, branch, idx, aW, cellsOf, dK, dT, cel, alloc, bW, newRow, nilCheck, extract, dG, dJ, bL, bO, cT, cW, aQ, fieldAddr, field, part, index, bE, aU, equal, cL, bT, cO, cR, cU, bU, List.getElem?_cons_succ, List.getElem?_cons_zero, List.append_eq, List.cons_append, List.nil_append, List.append_nil, List.length_cons, List.length_nil, Nat.reduceAdd, Nat.reduceSub, Nat.beq, Option.bind_some, nc0, nc1, Int.cast_ofNat_Int, cC, cB, cA, ↓reduceIte, Int.reduceEq, Int.reduceLT, Int.reduceLE, Int.reduceNe, Int.reduceAdd, Int.reduceSub, Int.reduceMul, Int.reduceNeg, Int.reduceGT, Int.reduceGE, ge_iff_le, gt_iff_lt, not_true_eq_false, not_false_eq_true, decide_not, decide_true, decide_false, Bool.not_true, Bool.not_false, Bool.and_true, Bool.true_and, Bool.and_false, Bool.false_and, Bool.or_true, Bool.true_or, Bool.or_false, Bool.false_or, and_true, true_and, and_self, Nat.zero_add, Nat.add_zero, Int.toNat_zero, Nat.zero_mul, aM, beq_self_eq_true, bne_self_eq_false, reduceCtorEq]
theorem YO : lP Try.prog 20 yW := by
 refine CE (E := env) fun args s v s' h ho => ?_
 unfold yW at h
 split at h
 case h_2 => exact (aD h).elim
 rename_i a
 split at h
 case h_3 => exact (aD h).elim
 case h_2 =>
  obtain ⟨rfl, rfl⟩ := aC h
  exact ⟨gL.refl _, af6 _ _⟩
 rename_i p off
 split at h
 case h_2 => exact (aD h).elim
 rename_i hoff
 have hoff := Nat.eq_of_beq_eq_true hoff
 subst hoff
 obtain ⟨b, s1, h1, h2⟩ := M.aF h
 obtain ⟨hg, e1⟩ := eC h1
 cases b with
 | row c t =>
  simp only [cT] at h2
  split at h2
  case h_2 => exact (aD h2).elim
  rename_i cs
  split at h2
  case h_2 => exact (aD h2).elim
  rename_i x lv
  split at h2
  case h_2 => exact (aD h2).elim
  rename_i xi xo
  split at h2
  ·obtain ⟨rfl, rfl⟩ := aC h2
   exact ⟨e1, af5 p xi xo .aV 0 _ _ ⟨t, hg⟩ rfl rfl (by omega)⟩
  ·rename_i i o len cap sz
   split at h2
   ·rename_i hle
    obtain ⟨rfl, rfl⟩ := aC h2
    exact ⟨e1, af5 p xi xo _ len _ _ ⟨t, hg⟩ rfl rfl (Nat.le_of_ble_eq_true hle)⟩
   ·exact (aD h2).elim
  ·exact (aD h2).elim
 | _ => exact (aD h2).elim
end Go.Am.Ytlgebaofkolkoaa.Ins
