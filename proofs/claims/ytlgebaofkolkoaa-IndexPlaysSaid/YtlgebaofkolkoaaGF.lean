/- What the statement reaches, gone through; and the abstract machine that goes through it. -/
import Derived.Test.YtlgebaofkolkoaaGE
set_option linter.unusedSimpArgs false
set_option linter.unusedVariables false
set_option linter.defProp false
set_option maxRecDepth 10000
namespace Go.Am.Ytlgebaofkolkoaa
open Go Go.Am Go.Proofs
set_option maxHeartbeats 4000000 in
theorem PR (Q : dM) (ks : List Kf) (b n0 : Nat) (z : Int) (v : aA) (l : List Ver) (hc : l.length ≤ 900000) (D : Nat → Prop) (h0 : Hp) (l0 : Acc D 0 h0 v l) (bt : TypeId) (b0 : h0 b = some (.row (.l fA.i.zero.cells) bt))
  (hb : b < n0) (hv : ∀ j, aL v = some j → j < n0 ∧ j ≠ b) (hD : ∀ j, D j → j < n0 ∧ j ≠ b)
  (hT : ∀ (h : Hp) (n : Nat) (w : Ver) (sw : aA) (x0 x1 x2 x4 x8 x9 x10 x18 x27 : aA), w.Ok → (l.filter fun v => dC v z).getLast? = some w → Bytes h sw w.aE → (∀ j, aL sw = some j → D j) → Row h b (aH w sw) → (∀ j, j < n0 → j ≠ b → h j = h0 j) → n0 ≤ n → dR env 48 none Q ks .ret (x0 :: x1 :: x2 :: aA.aB :: x4 :: aA.aB :: .ptr b 0 :: .bool true :: x8 :: x9 :: x10 :: aA.aB :: aA.aB :: aA.aB :: aA.aB :: aA.aB :: aA.aB :: aA.aB :: x18 :: aA.aB :: aA.aB :: aA.aB :: aA.aB :: aA.aB :: aA.aB :: aA.aB :: aA.aB :: x27 :: aA.aB :: aA.aB :: aA.aB :: aA.aB :: aA.aB :: []) h n)
  (hF : ∀ (h : Hp) (n : Nat) (x0 x1 x2 x4 x8 x9 x10 x18 x27 : aA), (l.filter fun v => dC v z).getLast? = none → Old h0 h n0 → n0 ≤ n → bI h n → dR env 48 none Q ks (.exit 0) (x0 :: x1 :: x2 :: aA.aB :: x4 :: aA.aB :: .ptr b 0 :: .bool false :: x8 :: x9 :: x10 :: aA.aB :: aA.aB :: aA.aB :: aA.aB :: aA.aB :: aA.aB :: aA.aB :: x18 :: aA.aB :: aA.aB :: aA.aB :: aA.aB :: aA.aB :: aA.aB :: aA.aB :: aA.aB :: x27 :: aA.aB :: aA.aB :: aA.aB :: aA.aB :: aA.aB :: []) h n) :
  ∀ (i : Nat) (h : Hp) (n : Nat) (ii : Int) (x0 x1 x4 x10 x18 x27 : aA), ii = (i : Int) - 1 → i ≤ l.length → (∀ k (hk : k < l.length), i ≤ k → dC l[k] z = false) → Old h0 h n0 → n0 ≤ n → bI h n →
   Run env 48 none Q (.loop CL) ks (x0 :: x1 :: .int .i64 z :: aA.aB :: x4 :: aA.aB :: .ptr b 0 :: .bool false :: v :: .int .i64 ii :: x10 :: aA.aB :: aA.aB :: aA.aB :: aA.aB :: aA.aB :: aA.aB :: aA.aB :: x18 :: aA.aB :: aA.aB :: aA.aB :: aA.aB :: aA.aB :: aA.aB :: aA.aB :: aA.aB :: x27 :: aA.aB :: aA.aB :: aA.aB :: aA.aB :: aA.aB :: []) h n := by
 intro i
 induction i with
 | zero =>
  intro h n ii x0 x1 x4 x10 x18 x27 hii hil hno ho hn hf
  subst hii
  rw [bP]
  simp only [CL, bC, Try.f48, Option.getD_some, fgr, bor, Int.cast_ofNat_Int, Int.reduceLE, Int.reduceSub, Int.reduceNeg, ge_iff_le, List.getD_cons_zero, gE]
  exact hF h n _ _ _ _ _ _ _ _ _ (FD fun k hk => hno k hk (Nat.zero_le _)) ho hn hf
 | succ i ih =>
  intro h n ii x0 x1 x4 x10 x18 x27 hii hil hno ho hn hf
  have hii' : ii = (i : Nat) := by omega
  subst hii'
  have c0 : (0 : Int) ≤ ((i : Nat) : Int) := by omega
  have w1 : IntKind.i64.wrap (((i : Nat) : Int) - 1) = ((i : Nat) : Int) - 1 := by rw [w64 (by omega) (by omega)]
  have hi : i < l.length := by omega
  have kp : ∀ (H : Hp), Old h0 H n0 → Acc D 0 H v l := fun H hO => l0.aO fun j q => hO j (q.elim (fun q => (hD j q).1) (fun q => (hv j q).1))
  have lh := kp h ho
  obtain ⟨sx, va, sd, sm⟩ := lh.at_ hi (n := n0) (fun j q => (hD j q).1)
  rw [bP]
  simp only [CL, bC, Try.f48, Option.getD_some, fgr, bor, ge_iff_le, List.getD_cons_zero, c0, gE]
  rw [aF (lh.idx hi)]
  simp only [gE]
  rw [aF (va.all n)]
  simp only [hkr, gE]
  refine bD hf (f46 l[i] sx va.ok z h n hf) fun v2 h2 n2 hn2 f2 ⟨e2, o2⟩ => ?_
  subst e2
  have O2 : Old h0 h2 n0 := fun j hj => by rw [o2 j (by omega), ho j hj]
  have l2 := kp h2 O2
  obtain ⟨sy, vb, se, sn⟩ := l2.at_ hi (n := n0) (fun j q => (hD j q).1)
  cases c : dC l[i] z with
  | false =>
   simp only [fgr, bor, bR, w1, gE]
   exact ih h2 n2 _ _ _ _ _ _ _ rfl (by omega) (fun k hk q => by
    by_cases e : k = i
    ·subst e; exact c
    ·exact hno k hk (by omega)) O2 (by omega) f2
  | true =>
   have g2 : h2 b = some (.row (.l fA.i.zero.cells) bt) := (O2 b hb).trans b0
   simp only [fgr, gE]
   rw [aF (l2.idx hi)]
   simp only [gE]
   rw [aF (vb.all n2)]
   simp only [gE]
   rw [eQ (Row.fH (off := 0) (v := .agg (aH l[i] sy)) g2 dZ (aW vb.ok.h vb.ok.b) (by decide) (dH vb.s.kind.2.1))]
   rw [gY (by show (aH l[i] sy).length = _; rw [aW vb.ok.h vb.ok.b]; rfl)]
   simp only [fgr, cel, gE]
   exact hT _ n2 l[i] sy _ _ _ _ _ _ _ _ _ vb.ok (FC hi c fun k hk q => hno k hk (by omega)) (vb.s.aO fun j q => aP _ _ (hD j (se j q)).2) se (Row.new _ _ _ _) (fun j hj hjb => by rw [aP _ _ hjb, O2 j hj]) (by omega)
theorem f48 {K : Nat → Prop} {r : Nat} (aG : List UInt8) (pn z : Int) (hl : aG.length = 32) {L : List Ver} {h : Hp} {n : Nat} (hs : RI K h n r L) (hc : L.length ≤ 900000) (hf : bI h n) :
  Wp (bO env (aX env) 48 [.ptr r 0, .agg (aQ aG pn), .int .i64 z]) h n fun v' h' n' => Old h h' n ∧ ∃ s', v' = .tup [.agg (aH ((atV L aG pn z).getD noV) s'), .bool (atV L aG pn z).isSome] ∧ ((atV L aG pn z).getD noV).Ok ∧ Bytes h' s' ((atV L aG pn z).getD noV).aE ∧ ∀ j, aL s' = some j → K j := by
 have hK : ∀ j, K j → j < n := by obtain ⟨_, _, _, _, _, _, _, q⟩ := hs; exact q
 refine bG ai3 ZH ?_
 simp only [R6, Try.f48, Option.getD_some, List.replicate, Nat.reduceAdd, Nat.reduceSub, gE]
 refine cL (v := .agg (aQ aG pn)) gQ rfl hf fun H1 r1 o1 f1 => ?_
 replace r1 : Row H1 n (aQ aG pn) := r1
 have O1 : Old h H1 n := fun j hj => o1 j (by omega)
 simp only [gE]
 rw [fI dZ rfl]
 obtain ⟨H2, hH2⟩ : ∃ H2, H2 = upd H1 (n + 1) (some (Blk.row (bH.l fA.i.zero.cells) 31)) := ⟨_, rfl⟩
 have f2 : bI H2 (n + 1 + 1) := by rw [hH2]; exact f1.new
 have o2 : ∀ j, j ≠ n + 1 → H2 j = H1 j := fun j hj => by rw [hH2, aP _ _ hj]
 have g2 : H2 (n + 1) = some (Blk.row (bH.l fA.i.zero.cells) 31) := by rw [hH2, bE]
 show Ops env 48 none _ _ _ _ _ (upd H1 (n + 1) (some (Blk.row (bH.l fA.i.zero.cells) 31))) _
 rw [← hH2]
 clear hH2
 have O2 : Old h H2 n := fun j hj => by rw [o2 j (by omega), O1 j hj]
 have r2 := r1.aO (o2 n (by omega))
 have s2 := hs.old (n' := n + 1 + 1) (by omega) O2
 simp only [fgr, gE]
 rw [aF (Row.j9 r2 gQ rfl (c9 hl))]
 simp only [hkr, gE]
 refine bD f2 (f51 aG pn hl s2 hc f2) fun v3 h3 n3 hn3 f3 ⟨a3, o3⟩ => ?_
 have g3 : h3 (n + 1) = some (Blk.row (bH.l fA.i.zero.cells) 31) := (o3 _ (by omega)).trans g2
 have hlen : (sK L aG pn).length ≤ L.length := List.length_filter_le _ _
 have w1 : IntKind.i64.wrap ((((sK L aG pn).length : Nat) : Int) - 1) = (((sK L aG pn).length : Nat) : Int) - 1 := by rw [w64 (by omega) (by omega)]
 have O3 : Old h h3 n := fun j hj => by rw [o3 j (by omega), O2 j hj]
 have lv := fun j => a3.dJ f3 (j := j)
 have ge : ∀ j, aL v3 = some j → n + 1 + 1 ≤ j := by obtain ⟨_, _, _, q⟩ := a3; exact q
 simp only [fgr, builtin, bor, bR, a3.len, w1, gE]
 refine PR _ _ (n + 1) n3 z v3 (sK L aG pn) (by omega) K h3 (a3.sub (fun j q => q) (Nat.zero_le _)) 31 g3 (by omega) (fun j q => ⟨lv j q, by have := ge j q; omega⟩) (fun j q => by have := hK j q; omega) ?_ ?_ (sK L aG pn).length h3 n3 _ _ _ _ _ _ _ rfl (Nat.le_refl _) (fun k hk q => by omega) (Old.refl _ _) (Nat.le_refl _) f3
 ·intro h4 n4 w sw x0 x1 x2 x4 x8 x9 x10 x18 x27 ow hw bw dw r4 o4 hn4
  have e : atV L aG pn z = some w := by rw [KH, hw]
  simp only [cC, nth, true_and]
  refine iH (dY r4 ow) (aS.2 ?_)
  rw [e]
  exact ⟨fun j hj => by rw [o4 j (by omega) (by omega), O3 j hj], sw, rfl, ow, bw, fun j q => dw j q⟩
 ·intro h4 n4 x0 x1 x2 x4 x8 x9 x10 x18 x27 hw o4 hn4 f4
  have e : atV L aG pn z = none := by rw [KH, hw]
  have g4 : h4 (n + 1) = some (Blk.row (bH.l fA.i.zero.cells) 31) := (o4 _ (by omega)).trans g3
  simp only [WM, gE]
  rw [eQ (Row.fH (off := 0) (v := .agg fA.i.zero.cells) g4 dZ rfl (by decide) rfl)]
  rw [gY (by rfl)]
  simp only [fgr, cel, gE]
  refine iH (Row.j9 (cs := fA.i.zero.cells) (Row.new _ _ _ _) dZ rfl rfl) (aS.2 ?_)
  rw [e]
  exact ⟨fun j hj => by rw [aP _ _ (by omega), o4 j (by omega), O3 j hj], .aT, rfl, HX, .aT, fun j q => by cases q⟩
theorem PG (L : List Ver) (aE : List UInt8) (z : Int) : ofV L aE z = (L.filter fun v => dC v z).filter fun v => v.aE == aE := by
 unfold ofV
 rw [List.filter_filter]
set_option maxHeartbeats 4000000 in
theorem PN (Q : dM) (ks : List Kf) (n0 : Nat) (v sv : aA) (aE : List UInt8) (l : List Ver) (hc : l.length ≤ 900000) (D : Nat → Prop) (h0 : Hp) (l0 : Acc D 0 h0 v l) (b0 : Bytes h0 sv aE)
  (hv : ∀ j, aL v = some j → j < n0) (hsv : ∀ j, aL sv = some j → j < n0) (hD : ∀ j, D j → j < n0)
  (hT : ∀ (h : Hp) (n : Nat) (acc : aA) (x0 x1 x2 x8 x9 x16 x27 : aA), Acc D n0 h acc (l.filter fun v => v.aE == aE) → Old h0 h n0 → n0 ≤ n → bI h n → dR env 53 none Q ks (.exit 0) (x0 :: x1 :: x2 :: aA.aB :: aA.aB :: aA.aB :: .aT :: acc :: x8 :: x9 :: aA.aB :: aA.aB :: aA.aB :: aA.aB :: aA.aB :: aA.aB :: x16 :: aA.aB :: aA.aB :: aA.aB :: aA.aB :: aA.aB :: aA.aB :: aA.aB :: aA.aB :: aA.aB :: aA.aB :: x27 :: aA.aB :: aA.aB :: aA.aB :: aA.aB :: aA.aB :: aA.aB :: aA.aB :: aA.aB :: []) h n) :
  ∀ (m i : Nat) (h : Hp) (n : Nat) (acc : aA) (x0 x2 x16 x27 : aA), i + m = l.length → Acc D n0 h acc ((l.take i).filter fun v => v.aE == aE) → Old h0 h n0 → n0 ≤ n → bI h n →
   Run env 53 none Q (.loop CI) ks (x0 :: sv :: x2 :: aA.aB :: aA.aB :: aA.aB :: .aT :: acc :: v :: .int .i64 (i : Nat) :: aA.aB :: aA.aB :: aA.aB :: aA.aB :: aA.aB :: aA.aB :: x16 :: aA.aB :: aA.aB :: aA.aB :: aA.aB :: aA.aB :: aA.aB :: aA.aB :: aA.aB :: aA.aB :: aA.aB :: x27 :: aA.aB :: aA.aB :: aA.aB :: aA.aB :: aA.aB :: aA.aB :: aA.aB :: aA.aB :: []) h n := by
 intro m
 induction m with
 | zero =>
  intro i h n acc x0 x2 x16 x27 hm ha ho hn hf
  have : i = l.length := by omega
  subst this
  have hcc : ¬ ((l.length : Nat) : Int) < ((l.length : Nat) : Int) := by omega
  rw [List.take_length] at ha
  rw [bP]
  simp only [CI, bC, Try.f53, Option.getD_some, fgr, builtin, bor, List.getD_cons_zero, l0.len, hcc, gE]
  exact hT h n acc _ _ _ _ _ _ _ ha ho hn hf
 | succ m ih =>
  intro i h n acc x0 x2 x16 x27 hm ha ho hn hf
  have hil : i < l.length := by omega
  have hcc : (((i : Nat) : Int) < ((l.length : Nat) : Int)) := by omega
  have w1 : IntKind.i64.wrap (((i : Nat) : Int) + 1) = ((i + 1 : Nat) : Int) := by rw [w64 (by omega) (by omega)]; omega
  have lh : Acc D 0 h v l := l0.aO fun j q => ho j (q.elim (hD j) (hv j))
  have bh := b0.aO fun j q => ho j (hsv j q)
  have hs := oG hil (fun v => v.aE == aE)
  obtain ⟨sx, va, sd, sm⟩ := lh.at_ hil (n := n0) hD
  rw [bP]
  simp only [CI, bC, Try.f53, Option.getD_some, fgr, builtin, bor, List.getD_cons_zero, l0.len, hcc, gE]
  refine bY ⟨rfl, ?_⟩
  simp only [Nat.reduceAdd, gE]
  rw [aR (lh.idx hil)]
  simp only [tyr, Nat.reduceAdd, va.mv, gE]
  rw [aR (va.aE n)]
  simp only [Nat.reduceAdd, gE]
  rw [aR (va.s.lW t29 t9 t5)]
  simp only [Nat.reduceAdd, gE]
  rw [aR (bh.lW t29 t9 t5)]
  by_cases c : l[i].aE = aE
  ·have c1 : (l[i].aE == aE) = true := by simp [c]
   rw [c1] at hs
   simp only [fgr, bor, strOp, Nat.reduceAdd, c, gE]
   refine ⟨(by (try simp (disch := first | assumption | omega) only [dX, gF]); repeat' (first | rfl | exact (Bool.or_eq_true _ _).mpr (.inr rfl) | refine (Bool.and_eq_true _ _).mpr ⟨?_, ?_⟩)), ?_⟩
   rw [aF (lh.idx hil)]
   simp only [gE]
   rw [aF (va.all n)]
   simp only [sO (aW va.ok.h va.ok.b), gE]
   refine i6 dZ hf (f := fun id => aA.sl id 0 1 (some 1) 70) fun H3 g3 o3 f3 => ?_
   simp only [builtin, gE]
   refine jB (ha.aO fun j q => o3 j (by rcases q with q | q; have := hD j q; omega; have := ha.dJ hf q; omega)) hD g3 va.ok (va.s.aO fun j q => o3 j (by have := (va.sn j q).2; omega)) sd sm (by have := qF l i (fun v => v.aE == aE); omega) (by omega) f3 ?_
   intro acc' h4 n4 hn4 f4 a4 o4
   simp only at hs
   rw [← hs] at a4
   simp only [fgr, bor, bR, w1, gE]
   exact ih (i + 1) h4 n4 acc' _ _ _ _ (by omega) a4 (fun j hj => by rw [o4 j hj, o3 j (by omega), ho j hj]) (by omega) f4
  ·have c1 : (l[i].aE == aE) = false := by simp [c]
   rw [c1] at hs
   simp only [List.append_nil] at hs
   rw [← hs] at ha
   simp only [fgr, bor, bR, strOp, Nat.reduceAdd, c, gE]
   refine ⟨(by (try simp (disch := first | assumption | omega) only [dX, gF]); repeat' (first | rfl | exact (Bool.or_eq_true _ _).mpr (.inr rfl) | refine (Bool.and_eq_true _ _).mpr ⟨?_, ?_⟩)), ?_⟩
   simp only [w1]
   exact ih (i + 1) h n acc _ _ _ _ (by omega) ha ho hn hf
theorem f53 {K : Nat → Prop} {r : Nat} (sv : aA) (aE : List UInt8) (z : Int) {L : List Ver} {h : Hp} {n : Nat} (hs : RI K h n r L) (hb : Bytes h sv aE) (hsn : ∀ j, aL sv = some j → j < n) (hc : L.length ≤ 900000) (hf : bI h n) :
  Wp (bO env (aX env) 53 [.ptr r 0, sv, .int .i64 z]) h n fun v' h' n' => Acc K n h' v' (ofV L aE z) ∧ Old h h' n := by
 have hK : ∀ j, K j → j < n := by obtain ⟨_, _, _, _, _, _, _, q⟩ := hs; exact q
 refine bG ah8 ZC ?_
 simp only [R1, Try.f53, Option.getD_some, List.replicate, fgr, hkr, Nat.reduceAdd, Nat.reduceSub, gE]
 refine bD hf (f52 z hs hc hf) fun v1 h1 n1 hn1 f1 ⟨a1, o1⟩ => ?_
 have hlen : (L.filter fun v => dC v z).length ≤ L.length := List.length_filter_le _ _
 have lv := fun j => a1.dJ f1 (j := j)
 simp only [fgr, gE]
 refine PN _ _ n1 v1 sv aE (L.filter fun v => dC v z) (by omega) K h1 (a1.sub (fun j q => q) (Nat.zero_le _)) (hb.aO fun j q => o1 j (hsn j q)) lv (fun j q => by have := hsn j q; omega) (fun j q => by have := hK j q; omega) ?_ (L.filter fun v => dC v z).length 0 h1 n1 .aT _ _ _ _ (by omega) (by rw [List.take_zero]; exact Acc.nil) (Old.refl _ _) (Nat.le_refl _) f1
 intro h2 n2 acc x0 x1 x2 x8 x9 x16 x27 a2 o2 hn2 f2
 simp only [fgr, gE]
 rw [PG]
 exact ⟨a2.sub (fun j q => q) hn1, fun j hj => by rw [o2 j (by omega), o1 j hj]⟩
def UpB (ls : List (List UInt8)) : Prop := ls.Pairwise fun a b => Lib.compareBytes a b < 0
theorem zW : ∀ {a b : List (List UInt8)}, UpB a → UpB b → (∀ s, s ∈ a ↔ s ∈ b) → a = b
 | [], [], _, _, _ => rfl
 | [], y :: b, _, _, h => by have := (h y).2 (List.mem_cons_self); simp at this
 | x :: a, [], _, _, h => by have := (h x).1 (List.mem_cons_self); simp at this
 | x :: a, y :: b, ha, hb, h => by
  have ha' := List.pairwise_cons.1 ha
  have hb' := List.pairwise_cons.1 hb
  have lI := fun u v => iO.lI u v
  have refl := fun u => iO.refl u
  have e : x = y := by
   have h1 : x ∈ y :: b := (h x).1 (List.mem_cons_self)
   have h2 : y ∈ x :: a := (h y).2 (List.mem_cons_self)
   rcases List.mem_cons.1 h1 with q | q
   ·exact q
   ·rcases List.mem_cons.1 h2 with w | w
    ·exact w.symm
    ·have q1 := hb'.1 x q
     have q2 := ha'.1 y w
     have q3 := lI x y
     omega
  subst e
  congr 1
  refine zW ha'.2 hb'.2 fun s => ⟨fun hs => ?_, fun hs => ?_⟩
  ·rcases List.mem_cons.1 ((h s).1 (List.mem_cons_of_mem _ hs)) with q | q
   ·subst q
    have q1 := ha'.1 s hs
    have q2 := refl s
    omega
   ·exact q
  ·rcases List.mem_cons.1 ((h s).2 (List.mem_cons_of_mem _ hs)) with q | q
   ·subst q
    have q1 := hb'.1 s hs
    have q2 := refl s
    omega
   ·exact q
def N8 (ls : List (List UInt8)) (s : List UInt8) (p : Nat) : Prop := p ≤ ls.length ∧ ∀ k (hk : k < ls.length), (Lib.compareBytes ls[k] s < 0 ↔ k < p)
theorem I6 : ∀ (ls : List (List UInt8)) (s : List UInt8), UpB ls → ∃ p, N8 ls s p
 | [], s, _ => ⟨0, Nat.le_refl _, fun k hk => absurd hk (Nat.not_lt_zero _)⟩
 | a :: l, s, h => by
  have h' := List.pairwise_cons.1 h
  by_cases c : Lib.compareBytes a s < 0
  ·obtain ⟨p, h1, h2⟩ := I6 l s h'.2
   refine ⟨p + 1, by simp; exact h1, fun k hk => ?_⟩
   cases k with
   | zero => exact ⟨fun _ => by omega, fun _ => c⟩
   | succ k => rw [List.getElem_cons_succ, h2 k (by simpa using hk)]; omega
  ·refine ⟨0, Nat.zero_le _, fun k hk => ⟨fun q => ?_, fun q => absurd q (Nat.not_lt_zero _)⟩⟩
   cases k with
   | zero => exact absurd q c
   | succ k =>
    have h1 := h'.1 _ (List.getElem_mem (show k < l.length by simpa using hk))
    rw [List.getElem_cons_succ] at q
    exact absurd (iO.lt _ _ _ h1 q) c
theorem LX {ls : List (List UInt8)} {s : List UInt8} {p : Nat} (h : UpB ls) (hp : N8 ls s p) (hn : s ∉ ls) : UpB (ls.take p ++ s :: ls.drop p) := by
 have h' := h
 unfold UpB at h' ⊢
 rw [← List.take_append_drop p ls, List.pairwise_append] at h'
 obtain ⟨a, b, c⟩ := h'
 have hlo : ∀ x ∈ ls.take p, Lib.compareBytes x s < 0 := fun x hx => by
  obtain ⟨k, hk, rfl⟩ := List.mem_iff_getElem.1 hx
  rw [List.length_take] at hk
  rw [List.getElem_take]
  exact (hp.2 k (by omega)).2 (by omega)
 have hhi : ∀ x ∈ ls.drop p, Lib.compareBytes s x < 0 := fun x hx => by
  obtain ⟨k, hk, rfl⟩ := List.mem_iff_getElem.1 hx
  rw [List.length_drop] at hk
  rw [List.getElem_drop]
  have h1 : ¬ Lib.compareBytes ls[p + k] s < 0 := fun q => by have := (hp.2 (p + k) (by omega)).1 q; omega
  have h2 : Lib.compareBytes ls[p + k] s ≠ 0 := fun q => hn (by rw [← vR _ _ q]; exact List.getElem_mem _)
  have h3 := iO.lI ls[p + k] s
  omega
 rw [List.pairwise_append, List.pairwise_cons]
 exact ⟨a, ⟨hhi, b⟩, fun x hx y hy => by
  rcases List.mem_cons.1 hy with q | q
  ·rw [q]; exact hlo x hx
  ·exact c x hx y q⟩
theorem LY {ls : List (List UInt8)} {s : List UInt8} {p : Nat} {t : List UInt8} : t ∈ ls.take p ++ s :: ls.drop p ↔ t = s ∨ t ∈ ls := by
 rw [List.mem_append, List.mem_cons]
 constructor
 ·rintro (h | h | h)
  ·exact .inr (List.mem_of_mem_take h)
  ·exact .inl h
  ·exact .inr (List.mem_of_mem_drop h)
 ·rintro (h | h)
  ·exact .inr (.inl h)
  ·rw [← List.take_append_drop p ls, List.mem_append] at h
   exact h.elim .inl fun h => .inr (.inr h)
def AcB (D : Nat → Prop) (n0 : Nat) (h : Hp) (acc : aA) (l : List (List UInt8)) : Prop := ∃ xs, Lst h 29 1 acc l.length xs ∧ Bs h D xs l ∧ ∀ j, aL acc = some j → n0 ≤ j
theorem AcB.aO {D : Nat → Prop} {n0 : Nat} {h h' : Hp} {acc : aA} {l : List (List UInt8)} (a : AcB D n0 h acc l) (hk : ∀ j, D j ∨ aL acc = some j → h' j = h j) : AcB D n0 h' acc l := by
 obtain ⟨xs, c1, c2, c3⟩ := a
 exact ⟨xs, c1.aO fun j q => hk j (.inr q), c2.mono (fun j q => q) (fun j q => hk j (.inl q)), c3⟩
theorem AcB.nil {D : Nat → Prop} {n0 : Nat} {h : Hp} : AcB D n0 h .aT [] := ⟨[], .nil, Bs.nil _ _, fun j q => by cases q⟩
theorem AcB.dJ {D : Nat → Prop} {n0 : Nat} {h : Hp} {acc : aA} {l : List (List UInt8)} (a : AcB D n0 h acc l) {n : Nat} (hf : bI h n) {j : Nat} (hj : aL acc = some j) : j < n := by
 obtain ⟨xs, c1, c2, c3⟩ := a
 exact c1.dJ hf hj
theorem AcB.YF {D : Nat → Prop} {n0 n1 : Nat} {h : Hp} {acc : aA} {l : List (List UInt8)} (a : AcB D n0 h acc l) (hn : n1 ≤ n0) : AcB D n1 h acc l := by
 obtain ⟨xs, c1, c2, c3⟩ := a
 exact ⟨xs, c1, c2, fun j q => by have := c3 j q; omega⟩
theorem AcB.idx {D : Nat → Prop} {n0 : Nat} {h : Hp} {v : aA} {ls : List (List UInt8)} (l : AcB D n0 h v ls) {i : Nat} (hi : i < ls.length) {h' : Hp} {n' : Nat} : Rd (indexAddr env 81 v (.int .i64 ((i : Nat) : Int))) h' n' [] (eM (i * 1) v) := by
 obtain ⟨xs, c1, c2, c3⟩ := l
 exact c1.rds.idx u81 z29 rfl hi
theorem AcB.len {D : Nat → Prop} {n0 : Nat} {h : Hp} {v : aA} {ls : List (List UInt8)} (l : AcB D n0 h v ls) {ts : List TypeId} : cP env (81 :: ts) v = M.pure (.int .i64 (ls.length : Nat)) := by
 obtain ⟨xs, c1, c2, c3⟩ := l
 exact c1.rds.cP u81
theorem AcB.at_ {D : Nat → Prop} {n0 : Nat} {h : Hp} {v : aA} {ls : List (List UInt8)} (l : AcB D n0 h v ls) {i : Nat} (hi : i < ls.length) : ∃ x, (∀ n, Rd (load env 29 (eM (i * 1) v)) h n (rid v) x) ∧ Bytes h x ls[i] := by
 obtain ⟨xs, c1, c2, c3⟩ := l
 obtain ⟨x, e, b, d⟩ := c2.at_ i hi
 exact ⟨x, fun n => c1.rds.load jJ rfl (by rw [Nat.mul_one]; exact e), b⟩
theorem AcB.bl {D : Nat → Prop} {n0 n : Nat} {h : Hp} {v : aA} {ls : List (List UInt8)} (a : AcB D n0 h v ls) (hD : ∀ j, D j → j < n0) (hn : n0 ≤ n) (hf : bI h n) : BL h 0 n v ls := by
 have lv := fun j => a.dJ hf (j := j)
 obtain ⟨xs, c1, c2, c3⟩ := a
 exact ⟨xs, c1, c2.mono (fun j q => ⟨Nat.zero_le _, by have := hD j q; omega, fun w => by have := c3 j w; have := hD j q; omega⟩) (fun j q => rfl), fun j q => ⟨Nat.zero_le _, lv j q⟩⟩
theorem Bs.app {h : Hp} {D : Nat → Prop} {xs ys : List aA} {ls ms : List (List UInt8)} (a : Bs h D xs ls) (b : Bs h D ys ms) : Bs h D (xs ++ ys) (ls ++ ms) := by
 refine ⟨by simp [a.len, b.len], fun j hj => ?_⟩
 by_cases c : j < ls.length
 ·obtain ⟨y, e, bb, d⟩ := a.at_ j c
  refine ⟨y, ?_, ?_, d⟩
  ·rw [List.getElem?_append_left (by rw [a.len]; exact c), e]
  ·rw [List.getElem_append_left c]; exact bb
 ·rw [List.length_append] at hj
  obtain ⟨y, e, bb, d⟩ := b.at_ (j - ls.length) (by omega)
  refine ⟨y, ?_, ?_, d⟩
  ·rw [List.getElem?_append_right (by rw [a.len]; omega), a.len, e]
  ·rw [List.getElem_append_right (by omega)]; exact bb
theorem Bs.take {h : Hp} {D : Nat → Prop} {xs : List aA} {ls : List (List UInt8)} (a : Bs h D xs ls) (p : Nat) : Bs h D (xs.take p) (ls.take p) := by
 refine ⟨by simp [a.len], fun j hj => ?_⟩
 rw [List.length_take] at hj
 obtain ⟨y, e, bb, d⟩ := a.at_ j (by omega)
 exact ⟨y, by rw [List.getElem?_take, if_pos (by omega), e], by rw [List.getElem_take]; exact bb, d⟩
theorem Bs.drop {h : Hp} {D : Nat → Prop} {xs : List aA} {ls : List (List UInt8)} (a : Bs h D xs ls) (p : Nat) : Bs h D (xs.drop p) (ls.drop p) := by
 refine ⟨by simp [a.len], fun j hj => ?_⟩
 rw [List.length_drop] at hj
 obtain ⟨y, e, bb, d⟩ := a.at_ (p + j) (by omega)
 exact ⟨y, by rw [List.getElem?_drop, e], by rw [List.getElem_drop]; exact bb, d⟩
theorem sE {fn : FuncId} {rnd : Option Nat} {Q : dM} {ks : List Kf} {ops bM : List Oper} {d : Option Tmp} {tm : List aA} {D : Nat → Prop} {n0 n k : Nat} {h : Hp} {acc x : aA} {ys : List aA} {l m : List (List UInt8)} (a : AcB D n0 h acc l) (hD : ∀ j, D j → j < n0) (hx : Rds h 1 x k ys) (hy : Bs h D ys m) (hk : k = m.length) (hl : l.length + m.length ≤ 1000000) (hn : n0 ≤ n) (hf : bI h n)
  (hq : ∀ acc' h' n', n ≤ n' → bI h' n' → AcB D n0 h' acc' (l ++ m) → (∀ j, j < n → aL acc ≠ some j → h' j = h j) → Ops env fn rnd Q ks ops bM (cE tm d acc') h' n') : OpV env fn rnd Q ks ops bM d tm (fP env [81, 81] acc x) h n := by
 subst hk
 obtain ⟨xs, c1, c2, c3⟩ := a
 refine fV (i := zX.i) (e := 29) c1 hx u81 u81 jJ hy.kind (by decide) (by show 2 * (_ + _) * 24 ≤ _; omega) (by omega) hf ?_
 intro acc' h4 n4 hn4 f4 l4 i4 o4
 have hkp : ∀ j, D j → h4 j = h j := fun j q => o4 j (by have := hD j q; omega) (fun w => by have := c3 j w; have := hD j q; omega)
 refine hq acc' h4 n4 hn4 f4 ⟨xs ++ ys, by rw [List.length_append]; exact l4, (c2.mono (fun j q => q) hkp).app (hy.mono (fun j q => q) hkp), fun j q => ?_⟩ o4
 rcases i4 with w | ⟨w, _⟩
 ·rw [w] at q; exact c3 j q
 ·rw [w] at q; injection q with q; omega
theorem I3 {ls : List (List UInt8)} {k : Nat} (hk : k < ls.length) (s : List UInt8) : (s ∈ ls.take (k + 1)) ↔ (s ∈ ls.take k ∨ ls[k] = s) := by
 rw [hG hk, List.mem_append, List.mem_singleton]
 exact or_congr Iff.rfl ⟨fun h => h.symm, fun h => h.symm⟩
set_option maxHeartbeats 4000000 in
theorem IC (Q : dM) (ks : List Kf) (out v : aA) (l : List Ver) (ls : List (List UInt8)) (i p : Nat) (D D2 : Nat → Prop) (n0 n1 nD : Nat) (h : Hp) (n : Nat) (lo : AcB D n0 h out ls) (lv : Acc D2 n1 h v l) (hD : ∀ j, D2 j → j < nD) (hil : i < l.length) (hp : N8 ls l[i].aE p) (hls : ls.length ≤ 900000)
  (hq : ∀ (x0 x1 x11 x18 x24 x38 x56 : aA), dR env 55 none Q ks (.exit 2) (x0 :: x1 :: aA.aB :: aA.aB :: .aT :: out :: v :: .int .i64 (i : Nat) :: .int .i64 (p : Nat) :: .bool (decide (l[i].aE ∈ ls)) :: .int .i64 (ls.length : Nat) :: x11 :: aA.aB :: aA.aB :: aA.aB :: aA.aB :: aA.aB :: aA.aB :: x18 :: aA.aB :: aA.aB :: aA.aB :: aA.aB :: aA.aB :: x24 :: aA.aB :: aA.aB :: aA.aB :: aA.aB :: aA.aB :: aA.aB :: aA.aB :: aA.aB :: aA.aB :: aA.aB :: aA.aB :: aA.aB :: aA.aB :: x38 :: aA.aB :: aA.aB :: aA.aB :: aA.aB :: aA.aB :: aA.aB :: aA.aB :: aA.aB :: aA.aB :: aA.aB :: aA.aB :: aA.aB :: aA.aB :: aA.aB :: aA.aB :: aA.aB :: aA.aB :: x56 :: aA.aB :: aA.aB :: aA.aB :: aA.aB :: aA.aB :: aA.aB :: aA.aB :: aA.aB :: aA.aB :: aA.aB :: aA.aB :: aA.aB :: aA.aB :: aA.aB :: aA.aB :: aA.aB :: aA.aB :: aA.aB :: aA.aB :: []) h n) :
  ∀ (m k : Nat) (x0 x1 x11 x18 x24 x38 x56 : aA), k + m = ls.length →
   Run env 55 none Q (.loop yW) ks (x0 :: x1 :: aA.aB :: aA.aB :: .aT :: out :: v :: .int .i64 (i : Nat) :: .int .i64 (min k p : Nat) :: .bool (decide (l[i].aE ∈ ls.take k)) :: .int .i64 (k : Nat) :: x11 :: aA.aB :: aA.aB :: aA.aB :: aA.aB :: aA.aB :: aA.aB :: x18 :: aA.aB :: aA.aB :: aA.aB :: aA.aB :: aA.aB :: x24 :: aA.aB :: aA.aB :: aA.aB :: aA.aB :: aA.aB :: aA.aB :: aA.aB :: aA.aB :: aA.aB :: aA.aB :: aA.aB :: aA.aB :: aA.aB :: x38 :: aA.aB :: aA.aB :: aA.aB :: aA.aB :: aA.aB :: aA.aB :: aA.aB :: aA.aB :: aA.aB :: aA.aB :: aA.aB :: aA.aB :: aA.aB :: aA.aB :: aA.aB :: aA.aB :: aA.aB :: x56 :: aA.aB :: aA.aB :: aA.aB :: aA.aB :: aA.aB :: aA.aB :: aA.aB :: aA.aB :: aA.aB :: aA.aB :: aA.aB :: aA.aB :: aA.aB :: aA.aB :: aA.aB :: aA.aB :: aA.aB :: aA.aB :: aA.aB :: []) h n := by
 intro m
 induction m with
 | zero =>
  intro k x0 x1 x11 x18 x24 x38 x56 hk
  have : k = ls.length := by omega
  subst this
  have hcc : ¬ ((ls.length : Nat) : Int) < ((ls.length : Nat) : Int) := by omega
  rw [bP]
  simp only [yW, bC, Try.f55, Option.getD_some, fgr, builtin, bor, List.getD_cons_zero, List.getD_cons_succ, lo.len, hcc, gE]
  rw [List.take_length, Nat.min_eq_right hp.1]
  exact hq _ _ _ _ _ _ _
 | succ m ih =>
  intro k x0 x1 x11 x18 x24 x38 x56 hk
  have hkl : k < ls.length := by omega
  have hcc : (((k : Nat) : Int) < ((ls.length : Nat) : Int)) := by omega
  have w1 : IntKind.i64.wrap (((k : Nat) : Int) + 1) = ((k + 1 : Nat) : Int) := by rw [w64 (by omega) (by omega)]; omega
  obtain ⟨x, xr, xb⟩ := lo.at_ hkl
  obtain ⟨sx, va, sd, sm⟩ := lv.at_ hil (n := nD) hD
  have hb : Op.bytesLess ls[k] l[i].aE = decide (k < p) := by
   rw [E1]
   exact decide_eq_decide.2 (hp.2 k hkl)
  have ms := I3 hkl l[i].aE
  have hih := ih (k + 1)
  rw [bP]
  by_cases c : k < p
  case' pos =>
   have e1 : min (k + 1) p = k + 1 := by omega
   rw [decide_eq_true c] at hb
   simp only [yW, bC, Try.f55, Option.getD_some, fgr, builtin, bor, List.getD_cons_zero, List.getD_cons_succ, lo.len, hcc, gE]
   refine bY ⟨rfl, ?_⟩
   simp only [Nat.reduceAdd, gE]
   rw [aR (lo.idx hkl)]
   simp only [Nat.reduceAdd, gE]
   rw [aR (xr n)]
   simp only [Nat.reduceAdd, gE]
   rw [aR (xb.lW t29 t9 t5)]
   simp only [Nat.reduceAdd, gE]
   rw [aR (lv.idx hil)]
   simp only [tyr, Nat.reduceAdd, va.mv, gE]
   rw [aR (va.aE n)]
   simp only [Nat.reduceAdd, gE]
   rw [aR (va.s.lW t29 t9 t5)]
   simp only [fgr, bor, bR, strOp, Nat.reduceAdd, hb, gE]
   refine ⟨(by (try simp (disch := first | assumption | omega) only [dX, gF]); repeat' (first | rfl | exact (Bool.or_eq_true _ _).mpr (.inr rfl) | refine (Bool.and_eq_true _ _).mpr ⟨?_, ?_⟩)), ?_⟩
   simp only [w1]
  case' neg =>
   have e1 : min (k + 1) p = min k p := by omega
   rw [decide_eq_false c] at hb
   simp only [yW, bC, Try.f55, Option.getD_some, fgr, builtin, bor, List.getD_cons_zero, List.getD_cons_succ, lo.len, hcc, gE]
   refine bY ⟨rfl, ?_⟩
   simp only [Nat.reduceAdd, gE]
   rw [aR (lo.idx hkl)]
   simp only [Nat.reduceAdd, gE]
   rw [aR (xr n)]
   simp only [Nat.reduceAdd, gE]
   rw [aR (xb.lW t29 t9 t5)]
   simp only [Nat.reduceAdd, gE]
   rw [aR (lv.idx hil)]
   simp only [tyr, Nat.reduceAdd, va.mv, gE]
   rw [aR (va.aE n)]
   simp only [Nat.reduceAdd, gE]
   rw [aR (va.s.lW t29 t9 t5)]
   simp only [fgr, bor, strOp, Nat.reduceAdd, hb, gE]
   refine ⟨(by (try simp (disch := first | assumption | omega) only [dX, gF]); repeat' (first | rfl | exact (Bool.or_eq_true _ _).mpr (.inr rfl) | refine (Bool.and_eq_true _ _).mpr ⟨?_, ?_⟩)), ?_⟩
  all_goals
   refine bY ⟨rfl, ?_⟩
   rw [e1] at hih
   by_cases t : l[i].aE ∈ ls.take k
   ·rw [decide_eq_true (ms.2 (.inl t))] at hih
    simp only [fgr, bor, bR, aY, Nat.reduceAdd, decide_eq_true t, gE]
    refine ⟨(by (try simp (disch := first | assumption | omega) only [dX, gF]); repeat' (first | rfl | exact (Bool.or_eq_true _ _).mpr (.inr rfl) | refine (Bool.and_eq_true _ _).mpr ⟨?_, ?_⟩)), ?_⟩
    simp only [w1]
    exact hih _ _ _ _ _ _ _ (by omega)
   ·simp only [Nat.reduceAdd, decide_eq_false t, gE]
    rw [aR (lo.idx hkl)]
    simp only [Nat.reduceAdd, gE]
    rw [aR (xr n)]
    simp only [Nat.reduceAdd, gE]
    rw [aR (xb.lW t29 t9 t5)]
    simp only [Nat.reduceAdd, gE]
    rw [aR (lv.idx hil)]
    simp only [tyr, Nat.reduceAdd, va.mv, gE]
    rw [aR (va.aE n)]
    simp only [Nat.reduceAdd, gE]
    rw [aR (va.s.lW t29 t9 t5)]
    by_cases u : ls[k] = l[i].aE
    ·rw [decide_eq_true (ms.2 (.inr u))] at hih
     simp only [fgr, bor, bR, strOp, aY, Nat.reduceAdd, u, gE]
     refine ⟨(by (try simp (disch := first | assumption | omega) only [dX, gF]); repeat' (first | rfl | exact (Bool.or_eq_true _ _).mpr (.inr rfl) | refine (Bool.and_eq_true _ _).mpr ⟨?_, ?_⟩)), ?_⟩
     simp only [w1]
     exact hih _ _ _ _ _ _ _ (by omega)
    ·rw [decide_eq_false (fun w => (ms.1 w).elim t u)] at hih
     simp only [fgr, bor, bR, strOp, aY, Nat.reduceAdd, u, gE]
     refine ⟨(by (try simp (disch := first | assumption | omega) only [dX, gF]); repeat' (first | rfl | exact (Bool.or_eq_true _ _).mpr (.inr rfl) | refine (Bool.and_eq_true _ _).mpr ⟨?_, ?_⟩)), ?_⟩
     simp only [w1]
     exact hih _ _ _ _ _ _ _ (by omega)
def BU (ls : List (List UInt8)) (l : List Ver) (i : Nat) : Prop := UpB ls ∧ ∀ s, s ∈ ls ↔ s ∈ (l.take i).map Ver.aE
theorem SH (l : List Ver) : BU [] l 0 := ⟨List.Pairwise.nil, fun s => by simp⟩
theorem KM {l : List Ver} {i : Nat} (hi : i < l.length) (s : List UInt8) : (s ∈ (l.take (i + 1)).map Ver.aE) ↔ (s ∈ (l.take i).map Ver.aE ∨ s = l[i].aE) := by
 rw [hG hi, List.map_append, List.mem_append, List.map_singleton, List.mem_singleton]
theorem N7 {ls : List (List UInt8)} {l : List Ver} {i : Nat} (h : BU ls l i) (hi : i < l.length) (hm : l[i].aE ∈ ls) : BU ls l (i + 1) :=
 ⟨h.1, fun s => by
  rw [KM hi, ← h.2 s]
  exact ⟨.inl, fun q => q.elim id fun q => by rw [q]; exact hm⟩⟩
theorem KN {ls : List (List UInt8)} {l : List Ver} {i p : Nat} (h : BU ls l i) (hi : i < l.length) (hp : N8 ls l[i].aE p) (hm : l[i].aE ∉ ls) : BU (ls.take p ++ l[i].aE :: ls.drop p) l (i + 1) :=
 ⟨LX h.1 hp hm, fun s => by
  rw [KM hi, ← h.2 s, LY]
  exact or_comm⟩
theorem AL : ∀ (l m : List (List UInt8)), l.Pairwise (fun a b => a ≠ b) → (∀ x ∈ l, x ∈ m) → l.length ≤ m.length
 | [], _, _, _ => Nat.zero_le _
 | a :: l, m, nd, h => by
  have nd' := List.pairwise_cons.1 nd
  have ha := h a (List.mem_cons_self)
  have q := AL l (m.erase a) nd'.2 fun x hx => (List.mem_erase_of_ne (fun e => nd'.1 x hx e.symm)).2 (h x (List.mem_cons_of_mem _ hx))
  rw [List.length_erase_of_mem ha] at q
  have := List.length_pos_of_mem ha
  rw [List.length_cons]; omega
theorem KO {ls : List (List UInt8)} {l : List Ver} {i : Nat} (h : BU ls l i) : ls.length ≤ l.length := by
 have nd : ls.Pairwise (fun a b => a ≠ b) := h.1.imp fun {a b} q e => by
  subst e
  have := iO.refl a
  omega
 have h1 := AL ls ((l.take i).map Ver.aE) nd fun s hs => (h.2 s).1 hs
 rw [List.length_map, List.length_take] at h1
 omega
set_option maxHeartbeats 4000000 in
theorem ID (Q : dM) (ks : List Kf) (v : aA) (l : List Ver) (hc : l.length ≤ 900000) (D : Nat → Prop) (n0 n1 : Nat) (h0 : Hp) (lv0 : Acc D n1 h0 v l) (hv : ∀ j, aL v = some j → j < n0) (hD : ∀ j, D j → j < n0)
  (hT : ∀ (h : Hp) (n : Nat) (out : aA) (ls : List (List UInt8)) (x0 x1 x6 x7 x8 x9 x10 x11 x18 x24 x38 x56 : aA), AcB D n0 h out ls → BU ls l l.length → Old h0 h n0 → n0 ≤ n → bI h n → dR env 55 none Q ks (.exit 0) (x0 :: x1 :: aA.aB :: aA.aB :: .aT :: out :: x6 :: x7 :: x8 :: x9 :: x10 :: x11 :: aA.aB :: aA.aB :: aA.aB :: aA.aB :: aA.aB :: aA.aB :: x18 :: aA.aB :: aA.aB :: aA.aB :: aA.aB :: aA.aB :: x24 :: aA.aB :: aA.aB :: aA.aB :: aA.aB :: aA.aB :: aA.aB :: aA.aB :: aA.aB :: aA.aB :: aA.aB :: aA.aB :: aA.aB :: aA.aB :: x38 :: aA.aB :: aA.aB :: aA.aB :: aA.aB :: aA.aB :: aA.aB :: aA.aB :: aA.aB :: aA.aB :: aA.aB :: aA.aB :: aA.aB :: aA.aB :: aA.aB :: aA.aB :: aA.aB :: aA.aB :: x56 :: aA.aB :: aA.aB :: aA.aB :: aA.aB :: aA.aB :: aA.aB :: aA.aB :: aA.aB :: aA.aB :: aA.aB :: aA.aB :: aA.aB :: aA.aB :: aA.aB :: aA.aB :: aA.aB :: aA.aB :: aA.aB :: aA.aB :: []) h n) :
  ∀ (m i : Nat) (h : Hp) (n : Nat) (out : aA) (ls : List (List UInt8)) (x0 x1 x8 x9 x10 x11 x18 x24 x38 x56 : aA), i + m = l.length → AcB D n0 h out ls → BU ls l i → Old h0 h n0 → n0 ≤ n → bI h n →
   Run env 55 none Q (.loop CG) ks (x0 :: x1 :: aA.aB :: aA.aB :: .aT :: out :: v :: .int .i64 (i : Nat) :: x8 :: x9 :: x10 :: x11 :: aA.aB :: aA.aB :: aA.aB :: aA.aB :: aA.aB :: aA.aB :: x18 :: aA.aB :: aA.aB :: aA.aB :: aA.aB :: aA.aB :: x24 :: aA.aB :: aA.aB :: aA.aB :: aA.aB :: aA.aB :: aA.aB :: aA.aB :: aA.aB :: aA.aB :: aA.aB :: aA.aB :: aA.aB :: aA.aB :: x38 :: aA.aB :: aA.aB :: aA.aB :: aA.aB :: aA.aB :: aA.aB :: aA.aB :: aA.aB :: aA.aB :: aA.aB :: aA.aB :: aA.aB :: aA.aB :: aA.aB :: aA.aB :: aA.aB :: aA.aB :: x56 :: aA.aB :: aA.aB :: aA.aB :: aA.aB :: aA.aB :: aA.aB :: aA.aB :: aA.aB :: aA.aB :: aA.aB :: aA.aB :: aA.aB :: aA.aB :: aA.aB :: aA.aB :: aA.aB :: aA.aB :: aA.aB :: aA.aB :: []) h n := by
 intro m
 induction m with
 | zero =>
  intro i h n out ls x0 x1 x8 x9 x10 x11 x18 x24 x38 x56 hm lo ab ho hn hf
  have : i = l.length := by omega
  subst this
  have hcc : ¬ ((l.length : Nat) : Int) < ((l.length : Nat) : Int) := by omega
  rw [bP]
  simp only [CG, bC, Try.f55, Option.getD_some, fgr, builtin, bor, List.getD_cons_zero, lv0.len, hcc, gE]
  exact hT h n out ls _ _ _ _ _ _ _ _ _ _ _ _ lo ab ho hn hf
 | succ m ih =>
  intro i h n out ls x0 x1 x8 x9 x10 x11 x18 x24 x38 x56 hm lo ab ho hn hf
  have hil : i < l.length := by omega
  have hcc : (((i : Nat) : Int) < ((l.length : Nat) : Int)) := by omega
  have w1 : IntKind.i64.wrap (((i : Nat) : Int) + 1) = ((i + 1 : Nat) : Int) := by rw [w64 (by omega) (by omega)]; omega
  have lv : Acc D n1 h v l := lv0.aO fun j q => ho j (q.elim (hD j) (hv j))
  obtain ⟨p, hp⟩ := I6 ls l[i].aE ab.1
  have hll := KO ab
  obtain ⟨sx, va, sd, sm⟩ := lv.at_ hil (n := n0) hD
  rw [bP]
  simp only [CG, bC, Try.f55, Option.getD_some, fgr, builtin, bor, List.getD_cons_zero, lv0.len, hcc, gE]
  have inner := fun (Q : dM) (ks : List Kf) hq => IC Q ks out v l ls i p D D n0 n1 n0 h n lo lv hD hil hp (by omega) hq ls.length 0
  simp only [Nat.zero_min, List.take_zero, List.not_mem_nil, decide_false] at inner
  refine inner _ _ ?_ _ _ _ _ _ _ _ (by omega)
  intro x0 x1 x11 x18 x24 x38 x56
  by_cases hm' : l[i].aE ∈ ls
  ·simp only [fgr, bor, bR, decide_eq_true hm', w1, gE]
   exact ih (i + 1) h n out ls _ _ _ _ _ _ _ _ _ _ (by omega) lo (N7 ab hil hm') ho hn hf
  simp only [fgr, opt, decide_eq_false hm', gE]
  have lo' := lo
  obtain ⟨xs, c1, c2, c3⟩ := lo'
  rw [aF (c1.rds.z6 c1.GU u81 z29 rfl hp.1)]
  simp only [builtin, gE]
  have pre := (c1.pre hp.1).rds
  rw [Nat.mul_one] at pre
  have ltl : (ls.take p).length = p := by rw [List.length_take]; have := hp.1; omega
  refine sE (n0 := n) AcB.nil (fun j q => by have := hD j q; omega) pre (c2.take p) ltl.symm (by rw [ltl, List.length_nil]; have := hp.1; omega) (Nat.le_refl _) hf ?_
  intro a1 h1 n1' hn1 f1 b1 o1
  have O1 : Old h h1 n := fun j hj => o1 j hj (fun w => by cases w)
  rw [List.nil_append] at b1
  have lv1 : Acc D n1 h1 v l := lv.aO fun j q => O1 j (by have := q.elim (hD j) (hv j); omega)
  obtain ⟨sy, vb, se, sn⟩ := lv1.at_ hil (n := n0) hD
  have kb := vb.s.kind
  simp only [fgr, gE]
  rw [aF (lv1.idx hil)]
  simp only [tyr, vb.mv, gE]
  rw [aF (vb.aE n1')]
  simp only [W5 kb, gE]
  refine i6 jJ f1 (f := fun id => aA.sl id 0 1 (some 1) 1) fun H2 g2 o2 f2 => ?_
  simp only [builtin, gE]
  have b1' : AcB D n H2 a1 (ls.take p) := b1.aO fun j q => o2 j (by rcases q with q | q; have := hD j q; omega; have := b1.dJ f1 q; omega)
  have one : Bs H2 D [sy] [l[i].aE] := (Bs.nil H2 D).wI (vb.s.aO fun j q => o2 j (by have := (vb.sn j q).2; omega)) se
  refine sE (n0 := n) b1' (fun j q => by have := hD j q; omega) (mL (cnt := 1) g2 rfl) one rfl (by rw [ltl]; have := hp.1; simp only [List.length_singleton]; omega) (by omega) f2 ?_
  intro a3 h3 n3 hn3 f3 b3 o3
  have a1n : ∀ j, j < n → aL a1 ≠ some j := fun j hj w => by obtain ⟨_, _, _, q⟩ := b1; have := q j w; omega
  have O3 : Old h h3 n := fun j hj => by rw [o3 j (by omega) (a1n j hj), o2 j (by omega), O1 j hj]
  have lo3 : AcB D n0 h3 out ls := lo.aO fun j q => O3 j (by rcases q with q | q; have := hD j q; omega; exact lo.dJ hf q)
  obtain ⟨xs3, d1, d2, d3⟩ := lo3
  simp only [fgr, opt, gE]
  rw [aF (d1.rds.qQ u81 z29 rfl hp.1)]
  simp only [builtin, gE]
  have suf := d1.rds.sub (lo := p) (hi := ls.length) hp.1 (Nat.le_refl _)
  rw [Nat.mul_one, Nat.mul_one, List.take_of_length_le (by rw [List.length_drop, d2.len]; omega)] at suf
  refine sE (n0 := n) b3 (fun j q => by have := hD j q; omega) suf (d2.drop p) (by rw [List.length_drop]) (by rw [List.length_append, ltl, List.length_singleton, List.length_drop]; have := hp.1; omega) (by omega) f3 ?_
  intro a5 h5 n5 hn5 f5 b5 o5
  have a3n : ∀ j, j < n → aL a3 ≠ some j := fun j hj w => by obtain ⟨_, _, _, q⟩ := b3; have := q j w; omega
  have O5 : Old h h5 n := fun j hj => by rw [o5 j (by omega) (a3n j hj), O3 j hj]
  have e5 : ls.take p ++ [l[i].aE] ++ ls.drop p = ls.take p ++ l[i].aE :: ls.drop p := by rw [List.append_assoc]; rfl
  rw [e5] at b5
  simp only [fgr, bor, bR, w1, gE]
  exact ih (i + 1) h5 n5 a5 _ _ _ _ _ _ _ _ _ _ _ (by omega) (b5.YF hn) (KN ab hil hp hm') (fun j hj => by rw [O5 j (by omega), ho j hj]) (by omega) f5
theorem f55 {K : Nat → Prop} {r : Nat} (z : Int) {L : List Ver} {h : Hp} {n : Nat} (hs : RI K h n r L) (hc : L.length ≤ 900000) (hf : bI h n) :
  Wp (bO env (aX env) 55 [.ptr r 0, .int .i64 z]) h n fun v' h' n' => (∃ ls, BL h' 0 n' v' ls ∧ UpB ls ∧ ∀ s, s ∈ ls ↔ ∃ v ∈ L, dC v z = true ∧ v.aE = s) ∧ Old h h' n := by
 have hK : ∀ j, K j → j < n := by obtain ⟨_, _, _, _, _, _, _, q⟩ := hs; exact q
 refine bG ah6 ZA ?_
 simp only [QZ, Try.f55, Option.getD_some, List.replicate, fgr, hkr, Nat.reduceAdd, Nat.reduceSub, gE]
 refine bD hf (f52 z hs hc hf) fun v1 h1 n1 hn1 f1 ⟨a1, o1⟩ => ?_
 have hlen : (L.filter fun v => dC v z).length ≤ L.length := List.length_filter_le _ _
 simp only [fgr, gE]
 refine ID _ _ v1 (L.filter fun v => dC v z) (by omega) K n1 n h1 a1 (fun j q => a1.dJ f1 q) (fun j q => by have := hK j q; omega) ?_ (L.filter fun v => dC v z).length 0 h1 n1 .aT [] _ _ _ _ _ _ _ _ _ _ (by omega) AcB.nil (SH _) (Old.refl _ _) (Nat.le_refl _) f1
 intro h2 n2 out ls x0 x1 x6 x7 x8 x9 x10 x11 x18 x24 x38 x56 b2 ab o2 hn2 f2
 simp only [fgr, gE]
 refine ⟨⟨ls, b2.bl (fun j q => by have := hK j q; omega) hn2 f2, ab.1, fun s => ?_⟩, fun j hj => by rw [o2 j (by omega), o1 j hj]⟩
 rw [ab.2 s, List.take_length]
 simp only [List.mem_map, List.mem_filter]
 exact ⟨fun ⟨v, ⟨a, b⟩, c⟩ => ⟨v, a, b, c⟩, fun ⟨v, a, b, c⟩ => ⟨v, ⟨a, b⟩, c⟩⟩
set_option maxHeartbeats 4000000 in
theorem PM (Q : dM) (ks : List Kf) (v w : aA) (ls : List (List UInt8)) (a b c d : Nat) (h : Hp) (n : Nat) (hc : ls.length ≤ 900000) (lv : BL h a b v ls) (lw : BL h c d w ls)
  (hT : ∀ (x0 x1 x5 x10 x14 x27 : aA), dR env 54 none Q ks (.exit 0) (x0 :: x1 :: aA.aB :: aA.aB :: .bool false :: x5 :: aA.aB :: aA.aB :: aA.aB :: aA.aB :: x10 :: aA.aB :: aA.aB :: aA.aB :: x14 :: aA.aB :: aA.aB :: aA.aB :: aA.aB :: aA.aB :: aA.aB :: aA.aB :: aA.aB :: aA.aB :: aA.aB :: aA.aB :: aA.aB :: x27 :: []) h n) :
  ∀ (m i : Nat) (x10 x14 x27 : aA), i + m = ls.length →
   Run env 54 none Q (.loop CH) ks (v :: w :: aA.aB :: aA.aB :: .bool false :: .int .i64 (i : Nat) :: aA.aB :: aA.aB :: aA.aB :: aA.aB :: x10 :: aA.aB :: aA.aB :: aA.aB :: x14 :: aA.aB :: aA.aB :: aA.aB :: aA.aB :: aA.aB :: aA.aB :: aA.aB :: aA.aB :: aA.aB :: aA.aB :: aA.aB :: aA.aB :: x27 :: []) h n := by
 intro m
 induction m with
 | zero =>
  intro i x10 x14 x27 hi
  have : i = ls.length := by omega
  subst this
  have hcc : ¬ ((ls.length : Nat) : Int) < ((ls.length : Nat) : Int) := by omega
  rw [bP]
  simp only [CH, bC, Try.f54, Option.getD_some, fgr, builtin, bor, List.getD_cons_zero, lv.len u81, hcc, gE]
  exact hT _ _ _ _ _ _
 | succ m ih =>
  intro i x10 x14 x27 hi
  have hil : i < ls.length := by omega
  have hcc : (((i : Nat) : Int) < ((ls.length : Nat) : Int)) := by omega
  have w1 : IntKind.i64.wrap (((i : Nat) : Int) + 1) = ((i + 1 : Nat) : Int) := by rw [w64 (by omega) (by omega)]; omega
  obtain ⟨x, xr, xb, _⟩ := lv.at_ hil
  obtain ⟨y, yr, yb, _⟩ := lw.at_ hil
  rw [bP]
  simp only [CH, bC, Try.f54, Option.getD_some, fgr, builtin, bor, List.getD_cons_zero, lv.len u81, hcc, gE]
  refine bY ⟨rfl, ?_⟩
  simp only [Nat.reduceAdd, gE]
  rw [aR (lv.idx hil)]
  simp only [Nat.reduceAdd, gE]
  rw [aR (xr n)]
  simp only [Nat.reduceAdd, gE]
  rw [aR (xb.lW t29 t9 t5)]
  simp only [Nat.reduceAdd, gE]
  rw [aR (lw.idx hil)]
  simp only [Nat.reduceAdd, gE]
  rw [aR (yr n)]
  simp only [Nat.reduceAdd, gE]
  rw [aR (yb.lW t29 t9 t5)]
  simp only [fgr, bor, bR, strOp, Nat.reduceAdd, gE]
  refine ⟨(by (try simp (disch := first | assumption | omega) only [dX, gF]); repeat' (first | rfl | exact (Bool.or_eq_true _ _).mpr (.inr rfl) | refine (Bool.and_eq_true _ _).mpr ⟨?_, ?_⟩)), ?_⟩
  simp only [w1]
  exact ih (i + 1) _ _ _ (by omega)
theorem f54 (v w : aA) (ls : List (List UInt8)) (a b c d : Nat) (h : Hp) (n : Nat) (hc : ls.length ≤ 900000) (lv : BL h a b v ls) (lw : BL h c d w ls) :
  Wp (bO env (aX env) 54 [v, w]) h n fun v' h' n' => v' = .bool true ∧ h' = h ∧ n' = n := by
 refine bG ah7 ZB ?_
 simp only [R0, Try.f54, Option.getD_some, List.replicate, fgr, builtin, bor, Nat.reduceAdd, Nat.reduceSub, lv.len u81, lw.len u81, gE]
 refine PM _ _ v w ls a b c d h n hc lv lw ?_ ls.length 0 _ _ _ (by omega)
 intro x0 x1 x5 x10 x14 x27
 simp only [fgr, gE]
theorem KS {h : Hp} {n id off : Nat} {c : bH} {e : TypeId} {t : TypeId} {i : TI} {x : aA} (hh : h id = some (.row c e)) (hi : ti env t = M.pure i) (hs : i.size = 1) (ho : off < c.size) (hx : x.cells = [x]) (h1 : bK x = true) :
  Wr (kL env t (.ptr id off) x) h n [id] [id] undef (upd h id (some (.row (c.set off x) e))) := by
 simp only [kL, Go.Am.store, hi, aI, hx, hs, List.length_singleton, Nat.beq_refl, dS]
 refine Wr.ret (a := ()) ?_
 refine Wr.bind (rs := []) (Rd.get hh) ?_
 simp only [cW]
 refine Wr.bind (rs := []) (i1 := []) (Rd.ob (dQ (by omega))) ?_
 simp only [List.all_cons, List.all_nil, h1, Bool.and_true, kV]
 exact Wr.set hh
def Bw (h : Hp) (v : aA) (cnt : Nat) : Prop := ∃ xs, Rds h 1 v cnt xs ∧ (∀ (j : Nat) x, xs[j]? = some x → ∃ z, x = .int .u8 z) ∧ nW v = true
theorem Bw.of {h : Hp} {v : aA} {l : List UInt8} (hb : Bytes h v l) (hm : nW v = true) : Bw h v l.length := ⟨_, hb.rds, fun j x hx => by
 rw [List.getElem?_map] at hx
 cases hj : l[j]? with
 | none => rw [hj] at hx; cases hx
 | some b => rw [hj] at hx; injection hx with hx; exact ⟨_, hx.symm⟩, hm⟩
theorem Bw.aO {h h' : Hp} {v : aA} {cnt : Nat} (hb : Bw h v cnt) (hk : ∀ j, aL v = some j → h' j = h j) : Bw h' v cnt := by
 obtain ⟨xs, l, b, m⟩ := hb
 exact ⟨xs, l.aO hk, b, m⟩
theorem Bw.at {h : Hp} {v : aA} {cnt i : Nat} (hb : Bw h v cnt) (hi : i < cnt) : ∃ xs z, Rds h 1 v cnt xs ∧ xs[i]? = some (.int .u8 z) := by
 obtain ⟨xs, l, b, m⟩ := hb
 have hx := l.length
 have : i < xs.length := by omega
 obtain ⟨z, hz⟩ := b i _ (List.getElem?_eq_getElem this)
 exact ⟨xs, z, l, by rw [List.getElem?_eq_getElem this, hz]⟩
theorem S4 {h : Hp} {id p : Nat} {c : bH} {e : TypeId} (hh : h id = some (.row c e)) (hp : p < c.size) (z : Int) {w : aA} {k : Nat} (hb : Bw h w k) : Bw (upd h id (some (.row (c.set p (.int .u8 z)) e))) w k := by
 by_cases hw : aL w = some id
 case neg => exact hb.aO fun j hj => aP _ _ (fun q => hw (by rw [← q]; exact hj))
 obtain ⟨xs, hr, hb, hm⟩ := hb
 cases hr with
 | aT => cases hw
 | emp => cases hw
 | isl => cases hw
 | sl id' off cnt cap c' e' xs hh' hl hs hc =>
  have q : id' = id := by injection hw
  subst q
  rw [hh] at hh'
  injection hh' with hh'; injection hh' with h1 h2
  subst h1; subst h2
  have hsz := wP c p (.int .u8 z)
  refine ⟨(List.range k).map fun j => (c.set p (.int .u8 z)).at (off + j), .sl id' off k cap _ _ _ (bE _ _ _) (by simp) (by rw [hsz, List.length_map, List.length_range]; omega) (fun j hj => by simp), fun j x hx => ?_, hm⟩
  rw [List.getElem?_map] at hx
  cases hj : (List.range k)[j]? with
  | none => rw [hj] at hx; cases hx
  | some i =>
   rw [hj] at hx
   injection hx with hx
   have hjl := (List.getElem?_eq_some_iff.1 hj).1
   have hi := (List.getElem?_eq_some_iff.1 hj).2
   rw [List.getElem_range] at hi
   subst hi
   rw [List.length_range] at hjl
   have hx : (c.set p (.int .u8 z)).at (off + j) = x := hx
   rw [BD _ _ _ _ hp] at hx
   split at hx
   ·exact ⟨z, hx.symm⟩
   ·have hjx : j < xs.length := by omega
    rw [hc j hjx] at hx
    exact hb j x (by rw [List.getElem?_eq_getElem hjx, hx])
theorem Bw.put {h : Hp} {n : Nat} {v : aA} {cnt i : Nat} (hb : Bw h v cnt) (hi : i < cnt) (z : Int) : ∃ h2 rs ws, Wr (kL env 5 (eM i v) (.int .u8 z)) h n rs ws undef h2 ∧ (∀ w c, Bw h w c → Bw h2 w c) ∧ ∀ j, aL v ≠ some j → h2 j = h j := by
 obtain ⟨xs, hr, hb, hm⟩ := hb
 cases hr with
 | aT => omega
 | emp => omega
 | isl => cases hm
 | sl id off cnt cap c e xs hh hl hs hc =>
  exact ⟨_, _, _, KS (off := off + i) hh ti5 rfl (by omega) rfl rfl, fun w k hb => S4 hh (by omega) z hb, fun j hj => aP _ _ (fun e => hj (by rw [e]; rfl))⟩
def SW (h : Hp) (cells : List aA) (D : Nat → Prop) (cnt : Nat) : Prop := ∀ i, i < cnt → ∃ sw k, cells[i * 70 + 35]? = some sw ∧ k ≤ 1000000 ∧ Bw h sw k ∧ ∀ j, aL sw = some j → D j
set_option maxHeartbeats 4000000 in
theorem IA (Q : dM) (ks : List Kf) (v sw : aA) (cells : List aA) (cl k i : Nat) (D : Nat → Prop) (h0 : Hp) (n : Nat) (x5 x6 : aA) (hl : Lst h0 31 70 v cl cells) (hv : ∀ j, aL v = some j → ¬ D j) (hi : i < cl) (hx : cells[i * 70 + 35]? = some sw) (hsd : ∀ j, aL sw = some j → D j) (hk : k ≤ 1000000)
  (hq : ∀ (h : Hp) (x3 x7 x14 x15 x16 : aA), SW h cells D cl → (∀ j, ¬ D j → h j = h0 j) → dR env 56 none Q ks (.exit 2) (v :: aA.aB :: .int .i64 (i : Nat) :: x3 :: aA.aB :: x5 :: x6 :: x7 :: aA.aB :: aA.aB :: aA.aB :: aA.aB :: aA.aB :: aA.aB :: x14 :: x15 :: x16 :: aA.aB :: aA.aB :: aA.aB :: aA.aB :: aA.aB :: aA.aB :: aA.aB :: aA.aB :: aA.aB :: aA.aB :: aA.aB :: aA.aB :: aA.aB :: []) h n) :
  ∀ (m j : Nat) (h : Hp) (x3 x7 x16 : aA), j + m = k → SW h cells D cl → Bw h sw k → (∀ j, ¬ D j → h j = h0 j) →
   Run env 56 none Q (.loop CE) ks (v :: aA.aB :: .int .i64 (i : Nat) :: x3 :: aA.aB :: x5 :: x6 :: x7 :: aA.aB :: aA.aB :: aA.aB :: aA.aB :: aA.aB :: aA.aB :: .int .i64 (k : Nat) :: .int .i64 (j : Nat) :: x16 :: aA.aB :: aA.aB :: aA.aB :: aA.aB :: aA.aB :: aA.aB :: aA.aB :: aA.aB :: aA.aB :: aA.aB :: aA.aB :: aA.aB :: aA.aB :: []) h n := by
 intro m
 induction m with
 | zero =>
  intro j h x3 x7 x16 hj hs hb ho
  have : j = k := by omega
  subst this
  have hcc : ¬ ((j : Nat) : Int) < ((j : Nat) : Int) := by omega
  rw [bP]
  simp only [CE, bC, Try.f56, Option.getD_some, fgr, bor, List.getD_cons_zero, List.getD_cons_succ, hcc, gE]
  exact hq h _ _ _ _ _ hs ho
 | succ m ih =>
  intro j h x3 x7 x16 hj hs hb ho
  have hjl : j < k := by omega
  have hcc : ((j : Nat) : Int) < ((k : Nat) : Int) := by omega
  have w1 : IntKind.i64.wrap (((j : Nat) : Int) + 1) = ((j + 1 : Nat) : Int) := by rw [w64 (by omega) (by omega)]; omega
  obtain ⟨xs, z, hr, hz⟩ := hb.at hjl
  obtain ⟨h2, rs, ws, hw, hb2, ho2⟩ := hb.put (n := n) hjl (IntKind.u8.wrap (z + 1))
  have lh : Lst h 31 70 v cl cells := hl.aO fun j hj => ho j (hv j hj)
  have mv := jN lh.rds (by omega) (i * 70) 35
  rw [bP]
  simp only [CE, bC, Try.f56, Option.getD_some, fgr, bor, List.getD_cons_zero, List.getD_cons_succ, hcc, gE]
  rw [aF (lh.rds.idx (j := i) u43 BV rfl hi)]
  simp only [tyr, mv, gE]
  rw [aF (lh.rds.load (k := i * 70 + 35) jJ rfl hx)]
  simp only [gE]
  rw [aF (hr.idx (j := j) t29 s5 rfl hjl)]
  simp only [Nat.mul_one, gE]
  rw [aF (hr.load (k := j) ti5 rfl hz)]
  simp only [bor, bR, gE]
  rw [aF (hr.idx (j := j) t29 s5 rfl hjl)]
  simp only [Nat.mul_one, gE]
  rw [eQ hw]
  simp only [fgr, bor, bR, w1, gE]
  exact ih (j + 1) h2 _ _ _ (by omega) (fun i hi => by obtain ⟨s, c, a, b, e, f⟩ := hs i hi; exact ⟨s, c, a, b, hb2 s c e, f⟩) (hb2 sw k hb) fun j q => (ho2 j (fun w => q (hsd j w))).trans (ho j q)
set_option maxHeartbeats 4000000 in
theorem IB (Q : dM) (ks : List Kf) (v : aA) (cells : List aA) (cl : Nat) (D : Nat → Prop) (h0 : Hp) (n : Nat) (hl : Lst h0 31 70 v cl cells) (hv : ∀ j, aL v = some j → ¬ D j) (hcl : cl ≤ 1000000)
  (hq : ∀ (h : Hp) (x2 x3 x5 x6 x7 x14 x15 x16 : aA), (∀ j, ¬ D j → h j = h0 j) → dR env 56 none Q ks (.exit 0) (v :: aA.aB :: x2 :: x3 :: aA.aB :: x5 :: x6 :: x7 :: aA.aB :: aA.aB :: aA.aB :: aA.aB :: aA.aB :: aA.aB :: x14 :: x15 :: x16 :: aA.aB :: aA.aB :: aA.aB :: aA.aB :: aA.aB :: aA.aB :: aA.aB :: aA.aB :: aA.aB :: aA.aB :: aA.aB :: aA.aB :: aA.aB :: []) h n) :
  ∀ (m i : Nat) (h : Hp) (x2 x3 x7 x14 x15 x16 : aA), i + m = cl → SW h cells D cl → (∀ j, ¬ D j → h j = h0 j) →
   Run env 56 none Q (.loop CF) ks (v :: aA.aB :: x2 :: x3 :: aA.aB :: .int .i64 (cl : Nat) :: .int .i64 (i : Nat) :: x7 :: aA.aB :: aA.aB :: aA.aB :: aA.aB :: aA.aB :: aA.aB :: x14 :: x15 :: x16 :: aA.aB :: aA.aB :: aA.aB :: aA.aB :: aA.aB :: aA.aB :: aA.aB :: aA.aB :: aA.aB :: aA.aB :: aA.aB :: aA.aB :: aA.aB :: []) h n := by
 intro m
 induction m with
 | zero =>
  intro i h x2 x3 x7 x14 x15 x16 hi hs ho
  have : i = cl := by omega
  subst this
  have hcc : ¬ ((i : Nat) : Int) < ((i : Nat) : Int) := by omega
  rw [bP]
  simp only [CF, bC, Try.f56, Option.getD_some, fgr, bor, List.getD_cons_zero, hcc, gE]
  exact hq h _ _ _ _ _ _ _ _ ho
 | succ m ih =>
  intro i h x2 x3 x7 x14 x15 x16 hi hs ho
  have hil : i < cl := by omega
  have hcc : ((i : Nat) : Int) < ((cl : Nat) : Int) := by omega
  have w1 : IntKind.i64.wrap (((i : Nat) : Int) + 1) = ((i + 1 : Nat) : Int) := by rw [w64 (by omega) (by omega)]; omega
  obtain ⟨sw, k, hx, hk, hb, hsd⟩ := hs i hil
  have lh : Lst h 31 70 v cl cells := hl.aO fun j hj => ho j (hv j hj)
  have mv := jN lh.rds (by omega) (i * 70) 35
  have hb' := hb
  obtain ⟨xs, hr, _, _⟩ := hb'
  rw [bP]
  simp only [CF, bC, Try.f56, Option.getD_some, fgr, bor, List.getD_cons_zero, hcc, gE]
  rw [aF (lh.rds.idx (j := i) u43 BV rfl hil)]
  simp only [tyr, mv, gE]
  rw [aF (lh.rds.load (k := i * 70 + 35) jJ rfl hx)]
  simp only [fgr, builtin, hr.cP t29, gE]
  refine IA _ _ v sw cells cl k i D h n (.int .i64 (cl : Nat)) (.int .i64 (i : Nat)) lh hv hil hx hsd hk ?_ k 0 h _ _ _ (by omega) hs hb (fun j q => rfl)
  intro h2 x3 x7 x14 x15 x16 hs2 ho2
  simp only [fgr, bor, bR, w1, gE]
  exact ih (i + 1) h2 _ _ _ _ _ _ (by omega) hs2 fun j q => (ho2 j q).trans (ho j q)
theorem f56 {D : Nat → Prop} {n0 : Nat} {v : aA} {vs : List Ver} {h : Hp} {n : Nat} (a : Acc D n0 h v vs) (hD : ∀ j, D j → aL v ≠ some j) (hc : vs.length ≤ 900000) (hs : ∀ w ∈ vs, w.aE.length ≤ 1000000) :
  Wp (bO env (aX env) 56 [v]) h n fun v' h' n' => (∀ j, ¬ D j → h' j = h j) ∧ n' = n := by
 obtain ⟨cells, c1, c2, c3⟩ := a
 refine bG ah5 Z9 ?_
 simp only [QY, Try.f56, Option.getD_some, List.replicate, fgr, builtin, Nat.reduceSub, c1.rds.cP u43, gE]
 refine IB _ _ v cells vs.length D h n c1 (fun j q w => hD j w q) (by omega) ?_ vs.length 0 h _ _ _ _ _ _ (by omega) (fun i hi => ?_) (fun j q => rfl)
 ·intro h2 x2 x3 x5 x6 x7 x14 x15 x16 ho
  simp only [cC, and_true, true_and]
  exact ho
 ·obtain ⟨sw, e, bb, o, d⟩ := c2.at_ i hi
  have hx : cells[i * 70 + 35]? = some sw := by rw [AE e (by omega)]; exact fT o.h 2
  exact ⟨sw, _, hx, hs _ (List.getElem_mem hi), Bw.of bb (c2.mn i sw hx), d⟩
def TX (K : Nat → Prop) (h : Hp) (n x c : Nat) : Prop := ∃ L, Ixw K (fun _ => False) h n x L ∧ L.length ≤ c
theorem TX.lt {K : Nat → Prop} {h : Hp} {n x c : Nat} (s : TX K h n x c) {j : Nat} (hj : K j) : j < n := by
 obtain ⟨L, ⟨⟨D, M, i, q, t⟩, g⟩, hl⟩ := s
 exact (q j hj).1
theorem TX.sub {K K' : Nat → Prop} {h : Hp} {n x c : Nat} (s : TX K h n x c) (hk : ∀ j, K' j → K j) : TX K' h n x c := by
 obtain ⟨L, s, hl⟩ := s
 exact ⟨L, s.sub hk, hl⟩
theorem TX.oE {K : Nat → Prop} {h h' : Hp} {n n' x c : Nat} (s : TX K h n x c) (hn : n ≤ n') (ho : Old h h' n) : TX (fun j => K j ∨ (n ≤ j ∧ j < n')) h' n' x c := by
 obtain ⟨L, s, hl⟩ := s
 exact ⟨L, s.oE hn ho, hl⟩
theorem t36 {K : Nat → Prop} {h : Hp} {n x c : Nat} (aG : List UInt8) (pn made s : Int) (b : List UInt8) (hl : aG.length = 32) (hbl : b.length = 32) (hs : TX K h n x c) (hc : c ≤ 900000) (hf : bI h n) :
  Wp (bO env (aX env) 36 [.ptr x 0, .agg (aQ aG pn), .int .i64 made, .int .i64 s, .agg (b.map u8)]) h n fun v' h' n' => (∀ j, K j → h' j = h j) ∧ TX K h' n' x c := by
 obtain ⟨L, hs, hL⟩ := hs
 refine cG (al1 aG pn made s b hl hbl hs (by omega) hf) fun v' h' n' ⟨k, hh⟩ => ⟨k, ?_⟩
 rcases hh with ⟨_, _, i⟩ | ⟨w, _, _, _, _, _, _, i⟩
 ·exact ⟨L, i, hL⟩
 ·exact ⟨_, i, by rw [qU]; exact hL⟩
theorem t38 {K : Nat → Prop} {h : Hp} {n x c : Nat} (aG : List UInt8) (pn made : Int) (hl : aG.length = 32) (hs : TX K h n x c) (hc : c ≤ 900000) (hf : bI h n) :
  Wp (bO env (aX env) 38 [.ptr x 0, .agg (aQ aG pn), .int .i64 made]) h n fun v' h' n' => (∀ j, K j → h' j = h j) ∧ TX K h' n' x c := by
 obtain ⟨L, hs, hL⟩ := hs
 refine cG (ak8 aG pn made hl hs (by omega) hf) fun v' h' n' ⟨k, hh⟩ => ⟨k, ?_⟩
 rcases hh with ⟨_, _, i⟩ | ⟨w, _, _, _, _, i⟩
 ·exact ⟨L, i, hL⟩
 ·exact ⟨_, i, by rw [qU]; exact hL⟩
theorem BA (L : List Ver) (w : Ver) : (iZ L w).length ≤ L.length := by
 unfold iZ gM
 rw [List.length_append, List.length_take, List.length_drop]; omega
theorem t34 {K : Nat → Prop} {h : Hp} {n x c : Nat} (aG : List UInt8) (pn made : Int) (hl : aG.length = 32) (hs : TX K h n x c) (hc : c ≤ 900000) (hf : bI h n) :
  Wp (bO env (aX env) 34 [.ptr x 0, .agg (aQ aG pn), .int .i64 made]) h n fun v' h' n' => (∀ j, K j → h' j = h j) ∧ TX K h' n' x c := by
 obtain ⟨L, hs, hL⟩ := hs
 refine cG (al3 aG pn made hl hs (by omega) hf) fun v' h' n' ⟨k, hh⟩ => ⟨k, ?_⟩
 rcases hh with ⟨_, _, i⟩ | ⟨w, _, _, _, i⟩
 ·exact ⟨L, i, hL⟩
 ·exact ⟨_, i, by have := BA L w; omega⟩
theorem t33 {K : Nat → Prop} {h : Hp} {n x c : Nat} (v : Ver) (sv : aA) (ov : v.Ok) (hpn : 0 ≤ v.pn) (hsl : v.aE.length ≤ 1000000) (hs : TX K h n x c) (hb : Bytes h sv v.aE) (hsn : ∀ j, aL sv = some j → j < n) (hc : c ≤ 900000) (hf : bI h n) :
  Wp (bO env (aX env) 33 [.ptr x 0, .agg (aH v sv)]) h n fun v' h' n' => (∀ j, K j → h' j = h j) ∧ TX K h' n' x (c + 1) := by
 obtain ⟨L, hs, hL⟩ := hs
 refine cG (al5 v sv ov hpn hsl hs hb hsn (by omega) hf) fun v' h' n' ⟨k, hh⟩ => ⟨k, ?_⟩
 rcases hh with ⟨_, _, i⟩ | ⟨_, _, i⟩
 ·exact ⟨L, i, by omega⟩
 ·exact ⟨_, i, by rw [AD]; omega⟩
theorem WO : build env 25 [(0, .int .u8 7)] = M.pure (.agg ((7 :: List.replicate 31 0 : List UInt8).map u8)) := rfl
theorem WN : build env 25 [(0, .int .u8 8)] = M.pure (.agg ((8 :: List.replicate 31 0 : List UInt8).map u8)) := rfl
theorem VL.pre {h : Hp} {a b : Nat} {v : aA} {vs : List Ver} (l : VL h a b v vs) {k : Nat} (hk : k ≤ vs.length) : VL h a b (kS 0 k v) (vs.take k) := by
 obtain ⟨cells, c1, c2, c3⟩ := l
 have hs : aL (kS 0 k v) = aL v := BY _ _ _
 have hcl := c2.len
 have p := c1.pre hk
 refine ⟨cells.take (k * 70), by rw [List.length_take, Nat.min_eq_left hk]; exact p, ⟨⟨?_, fun j hj => ?_⟩, fun j y hy => ?_⟩, fun j q => c3 j (by rw [← hs]; exact q)⟩
 ·rw [List.length_take, List.length_take]; omega
 ·rw [List.length_take] at hj
  obtain ⟨sv, e, bb, o, d⟩ := c2.at_ j (by omega)
  refine ⟨sv, ?_, by rw [List.getElem_take]; exact bb, by rw [List.getElem_take]; exact o, fun i q => by rw [hs]; exact d i q⟩
  rw [List.getElem_take, ← e]
  refine List.ext_getElem? fun i => ?_
  rw [List.getElem?_take, List.getElem?_take, List.getElem?_drop, List.getElem?_drop, List.getElem?_take]
  by_cases q : i < 70
  ·rw [if_pos q, if_pos q, if_pos (by omega)]
  ·rw [if_neg q, if_neg q]
 ·rw [List.getElem?_take] at hy
  split at hy
  ·exact c2.mn j y hy
  ·cases hy
set_option maxHeartbeats 4000000 in
theorem IF (Q : dM) (ks : List Kf) (v : aA) (x y a b c n0 : Nat) (l : List Ver) (hl : l.length ≤ 900000) (K : Nat → Prop) (h0 : Hp) (lv : VL h0 a b v l) (hab : ∀ j, a ≤ j → j < b → K j) (hc : c ≤ 900000)
  (hq : ∀ (h : Hp) (n : Nat) (x1 x2 x5 x6 x7 x8 x9 x10 x11 x14 x16 x20 x21 x38 x39 x40 x52 x76 x92 x108 x113 x114 x115 x116 x151 x152 x153 x154 : aA), TX K h n x c → (∀ j, K j → h j = h0 j) → n0 ≤ n → bI h n → dR env 47 none Q ks (.exit 3) (.ptr x 0 :: x1 :: x2 :: aA.aB :: aA.aB :: x5 :: x6 :: x7 :: x8 :: x9 :: x10 :: x11 :: .ptr y 0 :: aA.aB :: x14 :: aA.aB :: x16 :: aA.aB :: aA.aB :: aA.aB :: x20 :: x21 :: aA.aB :: aA.aB :: aA.aB :: aA.aB :: aA.aB :: aA.aB :: aA.aB :: aA.aB :: aA.aB :: aA.aB :: aA.aB :: aA.aB :: aA.aB :: aA.aB :: aA.aB :: aA.aB :: x38 :: x39 :: x40 :: aA.aB :: aA.aB :: aA.aB :: aA.aB :: aA.aB :: aA.aB :: aA.aB :: aA.aB :: aA.aB :: aA.aB :: aA.aB :: x52 :: aA.aB :: aA.aB :: aA.aB :: aA.aB :: aA.aB :: aA.aB :: aA.aB :: aA.aB :: aA.aB :: aA.aB :: aA.aB :: aA.aB :: aA.aB :: aA.aB :: aA.aB :: aA.aB :: aA.aB :: aA.aB :: aA.aB :: aA.aB :: aA.aB :: aA.aB :: aA.aB :: x76 :: aA.aB :: aA.aB :: aA.aB :: aA.aB :: aA.aB :: aA.aB :: aA.aB :: aA.aB :: aA.aB :: aA.aB :: aA.aB :: aA.aB :: aA.aB :: aA.aB :: aA.aB :: x92 :: aA.aB :: aA.aB :: aA.aB :: aA.aB :: aA.aB :: aA.aB :: aA.aB :: aA.aB :: aA.aB :: aA.aB :: aA.aB :: aA.aB :: aA.aB :: aA.aB :: aA.aB :: x108 :: aA.aB :: aA.aB :: aA.aB :: aA.aB :: x113 :: x114 :: x115 :: x116 :: aA.aB :: aA.aB :: aA.aB :: aA.aB :: aA.aB :: aA.aB :: aA.aB :: aA.aB :: aA.aB :: aA.aB :: aA.aB :: aA.aB :: aA.aB :: aA.aB :: aA.aB :: aA.aB :: aA.aB :: aA.aB :: aA.aB :: aA.aB :: aA.aB :: aA.aB :: aA.aB :: aA.aB :: aA.aB :: aA.aB :: aA.aB :: aA.aB :: aA.aB :: aA.aB :: aA.aB :: aA.aB :: aA.aB :: aA.aB :: x151 :: x152 :: x153 :: x154 :: aA.aB :: aA.aB :: aA.aB :: aA.aB :: aA.aB :: aA.aB :: aA.aB :: aA.aB :: aA.aB :: aA.aB :: aA.aB :: aA.aB :: aA.aB :: aA.aB :: []) h n) :
  ∀ (m i : Nat) (h : Hp) (n : Nat) (x1 x2 x5 x6 x7 x8 x9 x10 x11 x14 x16 x20 x21 x38 x39 x40 x52 x76 x92 x108 x116 x151 x152 x153 x154 : aA), i + m = l.length → TX K h n x c → (∀ j, K j → h j = h0 j) → n0 ≤ n → bI h n →
   Run env 47 none Q (.loop CN) ks (.ptr x 0 :: x1 :: x2 :: aA.aB :: aA.aB :: x5 :: x6 :: x7 :: x8 :: x9 :: x10 :: x11 :: .ptr y 0 :: aA.aB :: x14 :: aA.aB :: x16 :: aA.aB :: aA.aB :: aA.aB :: x20 :: x21 :: aA.aB :: aA.aB :: aA.aB :: aA.aB :: aA.aB :: aA.aB :: aA.aB :: aA.aB :: aA.aB :: aA.aB :: aA.aB :: aA.aB :: aA.aB :: aA.aB :: aA.aB :: aA.aB :: x38 :: x39 :: x40 :: aA.aB :: aA.aB :: aA.aB :: aA.aB :: aA.aB :: aA.aB :: aA.aB :: aA.aB :: aA.aB :: aA.aB :: aA.aB :: x52 :: aA.aB :: aA.aB :: aA.aB :: aA.aB :: aA.aB :: aA.aB :: aA.aB :: aA.aB :: aA.aB :: aA.aB :: aA.aB :: aA.aB :: aA.aB :: aA.aB :: aA.aB :: aA.aB :: aA.aB :: aA.aB :: aA.aB :: aA.aB :: aA.aB :: aA.aB :: aA.aB :: x76 :: aA.aB :: aA.aB :: aA.aB :: aA.aB :: aA.aB :: aA.aB :: aA.aB :: aA.aB :: aA.aB :: aA.aB :: aA.aB :: aA.aB :: aA.aB :: aA.aB :: aA.aB :: x92 :: aA.aB :: aA.aB :: aA.aB :: aA.aB :: aA.aB :: aA.aB :: aA.aB :: aA.aB :: aA.aB :: aA.aB :: aA.aB :: aA.aB :: aA.aB :: aA.aB :: aA.aB :: x108 :: aA.aB :: aA.aB :: aA.aB :: aA.aB :: v :: .int .i64 (l.length : Nat) :: .int .i64 (i : Nat) :: x116 :: aA.aB :: aA.aB :: aA.aB :: aA.aB :: aA.aB :: aA.aB :: aA.aB :: aA.aB :: aA.aB :: aA.aB :: aA.aB :: aA.aB :: aA.aB :: aA.aB :: aA.aB :: aA.aB :: aA.aB :: aA.aB :: aA.aB :: aA.aB :: aA.aB :: aA.aB :: aA.aB :: aA.aB :: aA.aB :: aA.aB :: aA.aB :: aA.aB :: aA.aB :: aA.aB :: aA.aB :: aA.aB :: aA.aB :: aA.aB :: x151 :: x152 :: x153 :: x154 :: aA.aB :: aA.aB :: aA.aB :: aA.aB :: aA.aB :: aA.aB :: aA.aB :: aA.aB :: aA.aB :: aA.aB :: aA.aB :: aA.aB :: aA.aB :: aA.aB :: []) h n := by
 intro m
 induction m with
 | zero =>
  intro i h n x1 x2 x5 x6 x7 x8 x9 x10 x11 x14 x16 x20 x21 x38 x39 x40 x52 x76 x92 x108 x116 x151 x152 x153 x154 hi hs ho hn0 hf
  have : i = l.length := by omega
  subst this
  have hcc : ¬ ((l.length : Nat) : Int) < ((l.length : Nat) : Int) := by omega
  rw [bP]
  simp only [CN, bC, Try.f47, Option.getD_some, fgr, bor, List.getD_cons_zero, List.getD_cons_succ, hcc, gE]
  exact hq h n _ _ _ _ _ _ _ _ _ _ _ _ _ _ _ _ _ _ _ _ _ _ _ _ _ _ _ _ hs ho hn0 hf
 | succ m ih =>
  intro i h n x1 x2 x5 x6 x7 x8 x9 x10 x11 x14 x16 x20 x21 x38 x39 x40 x52 x76 x92 x108 x116 x151 x152 x153 x154 hi hs ho hn0 hf
  have hil : i < l.length := by omega
  have hcc : (((i : Nat) : Int) < ((l.length : Nat) : Int)) := by omega
  have w1 : IntKind.i64.wrap (((i : Nat) : Int) + 1) = ((i + 1 : Nat) : Int) := by rw [w64 (by omega) (by omega)]; omega
  have lh : VL h a b v l := lv.aO fun j q1 q2 => ho j (hab j q1 q2)
  obtain ⟨sw, va⟩ := lh.at_ hil
  generalize l[i] = w at *
  rw [bP]
  simp only [CN, bC, Try.f47, Option.getD_some, fgr, bor, List.getD_cons_zero, List.getD_cons_succ, hcc, gE]
  rw [aF (lh.idx hil)]
  simp only [gE]
  rw [aF (va.all n)]
  simp only [gE]
  rw [fI dZ rfl]
  simp only [cel, gE]
  refine kC (v := .agg (aH w sw)) dZ rfl (aW va.ok.h va.ok.b) (dH va.s.kind.2.1) hf fun H1 r1 p1 f1 => ?_
  replace r1 : Row H1 n (aH w sw) := r1
  have O1 : Old h H1 n := fun j hj => p1 j (by omega)
  have s1 := hs.oE (n' := n + 1) (by omega) O1
  have kn : ∀ {K : Nat → Prop}, K n ∨ (n ≤ n ∧ n < n + 1) := .inr ⟨Nat.le_refl _, by omega⟩
  have ho1 : ∀ j, K j → H1 j = h0 j := fun j q => by rw [O1 j (hs.lt q), ho j q]
  simp only [tyr, fgr, aM, gE]
  rw [aF (fL r1 va.ok)]
  simp only [tyr, aM, gE]
  rw [aF (cO r1 va.ok)]
  simp only [tyr, aM, gE]
  rw [aF (cO r1 va.ok)]
  simp only [hkr, bor, bR, WO, gE]
  refine bD f1 (t36 w.aG w.pn w.made _ (7 :: List.replicate 31 0) va.ok.h rfl s1 hc f1) fun v2 h2 n2 hn2 f2 ⟨k2, s2⟩ => ?_
  have r2 : Row h2 n (aH w sw) := r1.aO (k2 n kn)
  simp only [tyr, fgr, aM, gE]
  rw [aF (fL r2 va.ok)]
  simp only [tyr, aM, gE]
  rw [aF (cO r2 va.ok)]
  simp only [hkr, gE]
  refine bD f2 (t38 w.aG w.pn w.made va.ok.h s2 hc f2) fun v3 h3 n3 hn3 f3 ⟨k3, s3⟩ => ?_
  have r3 : Row h3 n (aH w sw) := r2.aO (k3 n kn)
  simp only [tyr, fgr, aM, gE]
  rw [aF (fL r3 va.ok)]
  simp only [tyr, aM, gE]
  rw [aF (cO r3 va.ok)]
  simp only [tyr, aM, gE]
  rw [aF (cO r3 va.ok)]
  simp only [hkr, bor, bR, WN, gE]
  refine bD f3 (t36 w.aG w.pn w.made _ (8 :: List.replicate 31 0) va.ok.h rfl s3 hc f3) fun v4 h4 n4 hn4 f4 ⟨k4, s4⟩ => ?_
  simp only [fgr, bor, bR, w1, gE]
  exact ih (i + 1) h4 n4 _ _ _ _ _ _ _ _ _ _ _ _ _ _ _ _ _ _ _ _ _ _ _ _ _ (by omega) (s4.sub fun j q => .inl q) (fun j q => by rw [k4 j (.inl q), k3 j (.inl q), k2 j (.inl q), ho1 j q]) (by omega) f4
set_option maxHeartbeats 4000000 in
theorem IE (Q : dM) (ks : List Kf) (v : aA) (x y a b c n0 : Nat) (l : List Ver) (hl : l.length ≤ 900000) (K : Nat → Prop) (h0 : Hp) (lv : VL h0 a b v l) (hab : ∀ j, a ≤ j → j < b → K j) (hc : c ≤ 900000)
  (hq : ∀ (h : Hp) (n : Nat) (x1 x2 x5 x6 x7 x8 x9 x10 x11 x14 x16 x20 x21 x38 x39 x40 x52 x76 x92 x108 x113 x114 x115 x116 x151 x152 x153 x154 : aA), TX K h n x c → (∀ j, K j → h j = h0 j) → n0 ≤ n → bI h n → dR env 47 none Q ks (.exit 5) (.ptr x 0 :: x1 :: x2 :: aA.aB :: aA.aB :: x5 :: x6 :: x7 :: x8 :: x9 :: x10 :: x11 :: .ptr y 0 :: aA.aB :: x14 :: aA.aB :: x16 :: aA.aB :: aA.aB :: aA.aB :: x20 :: x21 :: aA.aB :: aA.aB :: aA.aB :: aA.aB :: aA.aB :: aA.aB :: aA.aB :: aA.aB :: aA.aB :: aA.aB :: aA.aB :: aA.aB :: aA.aB :: aA.aB :: aA.aB :: aA.aB :: x38 :: x39 :: x40 :: aA.aB :: aA.aB :: aA.aB :: aA.aB :: aA.aB :: aA.aB :: aA.aB :: aA.aB :: aA.aB :: aA.aB :: aA.aB :: x52 :: aA.aB :: aA.aB :: aA.aB :: aA.aB :: aA.aB :: aA.aB :: aA.aB :: aA.aB :: aA.aB :: aA.aB :: aA.aB :: aA.aB :: aA.aB :: aA.aB :: aA.aB :: aA.aB :: aA.aB :: aA.aB :: aA.aB :: aA.aB :: aA.aB :: aA.aB :: aA.aB :: x76 :: aA.aB :: aA.aB :: aA.aB :: aA.aB :: aA.aB :: aA.aB :: aA.aB :: aA.aB :: aA.aB :: aA.aB :: aA.aB :: aA.aB :: aA.aB :: aA.aB :: aA.aB :: x92 :: aA.aB :: aA.aB :: aA.aB :: aA.aB :: aA.aB :: aA.aB :: aA.aB :: aA.aB :: aA.aB :: aA.aB :: aA.aB :: aA.aB :: aA.aB :: aA.aB :: aA.aB :: x108 :: aA.aB :: aA.aB :: aA.aB :: aA.aB :: x113 :: x114 :: x115 :: x116 :: aA.aB :: aA.aB :: aA.aB :: aA.aB :: aA.aB :: aA.aB :: aA.aB :: aA.aB :: aA.aB :: aA.aB :: aA.aB :: aA.aB :: aA.aB :: aA.aB :: aA.aB :: aA.aB :: aA.aB :: aA.aB :: aA.aB :: aA.aB :: aA.aB :: aA.aB :: aA.aB :: aA.aB :: aA.aB :: aA.aB :: aA.aB :: aA.aB :: aA.aB :: aA.aB :: aA.aB :: aA.aB :: aA.aB :: aA.aB :: x151 :: x152 :: x153 :: x154 :: aA.aB :: aA.aB :: aA.aB :: aA.aB :: aA.aB :: aA.aB :: aA.aB :: aA.aB :: aA.aB :: aA.aB :: aA.aB :: aA.aB :: aA.aB :: aA.aB :: []) h n) :
  ∀ (m i : Nat) (h : Hp) (n : Nat) (x1 x2 x5 x6 x7 x8 x9 x10 x11 x14 x16 x20 x21 x38 x39 x40 x52 x76 x92 x108 x113 x114 x115 x116 x154 : aA), i + m = l.length → TX K h n x c → (∀ j, K j → h j = h0 j) → n0 ≤ n → bI h n →
   Run env 47 none Q (.loop CM) ks (.ptr x 0 :: x1 :: x2 :: aA.aB :: aA.aB :: x5 :: x6 :: x7 :: x8 :: x9 :: x10 :: x11 :: .ptr y 0 :: aA.aB :: x14 :: aA.aB :: x16 :: aA.aB :: aA.aB :: aA.aB :: x20 :: x21 :: aA.aB :: aA.aB :: aA.aB :: aA.aB :: aA.aB :: aA.aB :: aA.aB :: aA.aB :: aA.aB :: aA.aB :: aA.aB :: aA.aB :: aA.aB :: aA.aB :: aA.aB :: aA.aB :: x38 :: x39 :: x40 :: aA.aB :: aA.aB :: aA.aB :: aA.aB :: aA.aB :: aA.aB :: aA.aB :: aA.aB :: aA.aB :: aA.aB :: aA.aB :: x52 :: aA.aB :: aA.aB :: aA.aB :: aA.aB :: aA.aB :: aA.aB :: aA.aB :: aA.aB :: aA.aB :: aA.aB :: aA.aB :: aA.aB :: aA.aB :: aA.aB :: aA.aB :: aA.aB :: aA.aB :: aA.aB :: aA.aB :: aA.aB :: aA.aB :: aA.aB :: aA.aB :: x76 :: aA.aB :: aA.aB :: aA.aB :: aA.aB :: aA.aB :: aA.aB :: aA.aB :: aA.aB :: aA.aB :: aA.aB :: aA.aB :: aA.aB :: aA.aB :: aA.aB :: aA.aB :: x92 :: aA.aB :: aA.aB :: aA.aB :: aA.aB :: aA.aB :: aA.aB :: aA.aB :: aA.aB :: aA.aB :: aA.aB :: aA.aB :: aA.aB :: aA.aB :: aA.aB :: aA.aB :: x108 :: aA.aB :: aA.aB :: aA.aB :: aA.aB :: x113 :: x114 :: x115 :: x116 :: aA.aB :: aA.aB :: aA.aB :: aA.aB :: aA.aB :: aA.aB :: aA.aB :: aA.aB :: aA.aB :: aA.aB :: aA.aB :: aA.aB :: aA.aB :: aA.aB :: aA.aB :: aA.aB :: aA.aB :: aA.aB :: aA.aB :: aA.aB :: aA.aB :: aA.aB :: aA.aB :: aA.aB :: aA.aB :: aA.aB :: aA.aB :: aA.aB :: aA.aB :: aA.aB :: aA.aB :: aA.aB :: aA.aB :: aA.aB :: v :: .int .i64 (l.length : Nat) :: .int .i64 (i : Nat) :: x154 :: aA.aB :: aA.aB :: aA.aB :: aA.aB :: aA.aB :: aA.aB :: aA.aB :: aA.aB :: aA.aB :: aA.aB :: aA.aB :: aA.aB :: aA.aB :: aA.aB :: []) h n := by
 intro m
 induction m with
 | zero =>
  intro i h n x1 x2 x5 x6 x7 x8 x9 x10 x11 x14 x16 x20 x21 x38 x39 x40 x52 x76 x92 x108 x113 x114 x115 x116 x154 hi hs ho hn0 hf
  have : i = l.length := by omega
  subst this
  have hcc : ¬ ((l.length : Nat) : Int) < ((l.length : Nat) : Int) := by omega
  rw [bP]
  simp only [CM, bC, Try.f47, Option.getD_some, fgr, bor, List.getD_cons_zero, List.getD_cons_succ, hcc, gE]
  exact hq h n _ _ _ _ _ _ _ _ _ _ _ _ _ _ _ _ _ _ _ _ _ _ _ _ _ _ _ _ hs ho hn0 hf
 | succ m ih =>
  intro i h n x1 x2 x5 x6 x7 x8 x9 x10 x11 x14 x16 x20 x21 x38 x39 x40 x52 x76 x92 x108 x113 x114 x115 x116 x154 hi hs ho hn0 hf
  have hil : i < l.length := by omega
  have hcc : (((i : Nat) : Int) < ((l.length : Nat) : Int)) := by omega
  have w1 : IntKind.i64.wrap (((i : Nat) : Int) + 1) = ((i + 1 : Nat) : Int) := by rw [w64 (by omega) (by omega)]; omega
  have lh : VL h a b v l := lv.aO fun j q1 q2 => ho j (hab j q1 q2)
  obtain ⟨sw, va⟩ := lh.at_ hil
  generalize l[i] = w at *
  rw [bP]
  simp only [CM, bC, Try.f47, Option.getD_some, fgr, bor, List.getD_cons_zero, List.getD_cons_succ, hcc, gE]
  rw [aF (lh.idx hil)]
  simp only [gE]
  rw [aF (va.all n)]
  simp only [gE]
  rw [fI dZ rfl]
  simp only [cel, gE]
  refine kC (v := .agg (aH w sw)) dZ rfl (aW va.ok.h va.ok.b) (dH va.s.kind.2.1) hf fun H1 r1 p1 f1 => ?_
  replace r1 : Row H1 n (aH w sw) := r1
  have O1 : Old h H1 n := fun j hj => p1 j (by omega)
  have s1 := hs.oE (n' := n + 1) (by omega) O1
  have ho1 : ∀ j, K j → H1 j = h0 j := fun j q => by rw [O1 j (hs.lt q), ho j q]
  simp only [tyr, fgr, aM, gE]
  rw [aF (fL r1 va.ok)]
  simp only [tyr, aM, gE]
  rw [aF (cO r1 va.ok)]
  simp only [hkr, gE]
  refine bD f1 (t34 w.aG w.pn w.made va.ok.h s1 hc f1) fun v2 h2 n2 hn2 f2 ⟨k2, s2⟩ => ?_
  simp only [fgr, bor, bR, w1, gE]
  exact ih (i + 1) h2 n2 _ _ _ _ _ _ _ _ _ _ _ _ _ _ _ _ _ _ _ _ _ _ _ _ _ (by omega) (s2.sub fun j q => .inl q) (fun j q => by rw [k2 j (.inl q), ho1 j q]) (by omega) f2
def Two (h : Hp) (n x r : Nat) (L : List Ver) : Prop := ∃ K, Ixk K h n x L ∧ RI K h n r L
theorem Ixk.next {K : Nat → Prop} {h h' : Hp} {n n' x : Nat} {L : List Ver} (s : Ixk K h n x L) (hn : n ≤ n') (hk : ∀ j, j < n → ¬ K j → h' j = h j) : Ixk (fun j => K j ∨ (n ≤ j ∧ j < n')) h' n' x L := by
 obtain ⟨⟨D, M, i, q⟩, g⟩ := s
 refine ⟨⟨D, M, i.qL hn fun j hj w => hk j hj fun c => by
  have := q j c
  rcases w with w | w
  ·exact this.2.2 w
  ·exact this.2.1 w, fun j hj => ?_⟩, g⟩
 rcases hj with hj | hj
 ·exact ⟨by have := (q j hj).1; omega, (q j hj).2⟩
 ·obtain ⟨⟨S, ⟨vl, vs, xl, xs, iv, mx, ml, ms, mn⟩, _⟩, _⟩ := i
  exact ⟨hj.2, fun w => by have := (mn j w).1; omega, fun w => by have := iv.dn j w; omega⟩
theorem jX {K : Nat → Prop} {S : Nat → Bool} {h : Hp} {n x : Nat} {L : List Ver} (s : Ixk K h n x L) (hS : ∀ j, S j = false → K j) : Ixk K (only S h) n x L :=
 s.zY fun j nk => by
  cases e : S j with
  | true => exact fN e
  | false => exact absurd (hS j e) nk
theorem lQ {K : Nat → Prop} {S : Nat → Bool} {h hr h' : Hp} {n n' x : Nat} {L : List Ver} (hS : ∀ j, S j = false → K j) (hKn : ∀ j, K j → j < n) (k : ∀ j, K j → hr j = only S h j) (s : Ixk K hr n' x L) (a : ∀ k, S k = true ∨ n ≤ k → h' k = hr k) (b : ∀ k, k < n → S k = false → h' k = h k) : Ixk K h' n' x L ∧ ∀ j, K j → h' j = h j := by
 refine ⟨s.zY fun j nk => ?_, fun j kj => ?_⟩
 ·cases e : S j with
  | true => exact a j (.inl e)
  | false => exact absurd (hS j e) nk
 ·cases e : S j with
  | true => rw [a j (.inl e), k j kj, fN e]
  | false => exact b j (hKn j kj) e
theorem yZ {L : List Ver} (r : dW false L) {t w u : Ver} (hw : w ∈ L) (hu : u ∈ L) (h1 : cV w t = 0) (h2 : cV u t = 0) : w = u := by
 obtain ⟨k, hk, rfl⟩ := List.mem_iff_getElem.1 hu
 exact DH r hk h2 hw h1
theorem RI.lt {K : Nat → Prop} {h : Hp} {n r : Nat} {L : List Ver} (s : RI K h n r L) : ∀ j, K j → j < n := by obtain ⟨_, _, _, _, _, _, _, q⟩ := s; exact q
theorem RI.rk {K : Nat → Prop} {h : Hp} {n r : Nat} {L : List Ver} (s : RI K h n r L) : K r := by obtain ⟨_, _, _, _, _, _, q, _⟩ := s; exact q
theorem al8 : buildSlice env 29 0 [] = (newRow env 5 []).bind fun id => M.pure (.sl id 0 0 (some 0) 1) := rfl
end Go.Am.Ytlgebaofkolkoaa
set_option linter.unusedSimpArgs false
set_option linter.unusedVariables false
set_option linter.defProp false
set_option maxRecDepth 10000
namespace Go.Am.Ytlgebaofkolkoaa
open Go Go.Am Go.Proofs
theorem IG (Q : dM) (ks : List Kf) (x y9 : Nat) (v : aA) (w : Ver) (ow : w.Ok) (cnt : Nat) (h0 : Hp) (n : Nat) (hcnt : cnt ≤ 1000000) (r9 : Row h0 y9 (aH w v)) (hv : aL v ≠ some y9)
  (hq : ∀ (h : Hp) (x1 x2 x5 x6 x7 x8 x9 x11 x12 x14 x16 x20 x21 x38 x39 x40 x52 x76 x92 x108 x113 x114 x115 x116 x151 x152 x153 x154 : aA), (∀ j, aL v ≠ some j → h j = h0 j) → dR env 47 none Q ks (.exit 1) (.ptr x 0 :: x1 :: x2 :: aA.aB :: aA.aB :: x5 :: x6 :: x7 :: x8 :: x9 :: .bool true :: x11 :: x12 :: aA.aB :: x14 :: aA.aB :: x16 :: aA.aB :: aA.aB :: aA.aB :: x20 :: x21 :: aA.aB :: aA.aB :: aA.aB :: aA.aB :: aA.aB :: aA.aB :: aA.aB :: aA.aB :: aA.aB :: aA.aB :: aA.aB :: aA.aB :: aA.aB :: aA.aB :: aA.aB :: aA.aB :: x38 :: x39 :: x40 :: aA.aB :: aA.aB :: aA.aB :: aA.aB :: aA.aB :: aA.aB :: aA.aB :: aA.aB :: aA.aB :: aA.aB :: aA.aB :: x52 :: aA.aB :: aA.aB :: aA.aB :: aA.aB :: aA.aB :: aA.aB :: aA.aB :: aA.aB :: aA.aB :: aA.aB :: aA.aB :: aA.aB :: aA.aB :: aA.aB :: aA.aB :: aA.aB :: aA.aB :: aA.aB :: aA.aB :: aA.aB :: aA.aB :: aA.aB :: aA.aB :: x76 :: aA.aB :: aA.aB :: aA.aB :: aA.aB :: aA.aB :: aA.aB :: aA.aB :: aA.aB :: aA.aB :: aA.aB :: aA.aB :: aA.aB :: aA.aB :: aA.aB :: aA.aB :: x92 :: aA.aB :: aA.aB :: aA.aB :: aA.aB :: aA.aB :: aA.aB :: aA.aB :: aA.aB :: aA.aB :: aA.aB :: aA.aB :: aA.aB :: aA.aB :: aA.aB :: aA.aB :: x108 :: aA.aB :: aA.aB :: aA.aB :: aA.aB :: x113 :: x114 :: x115 :: x116 :: aA.aB :: aA.aB :: aA.aB :: aA.aB :: aA.aB :: aA.aB :: aA.aB :: aA.aB :: aA.aB :: aA.aB :: aA.aB :: aA.aB :: aA.aB :: aA.aB :: aA.aB :: aA.aB :: aA.aB :: aA.aB :: aA.aB :: aA.aB :: aA.aB :: aA.aB :: aA.aB :: aA.aB :: aA.aB :: aA.aB :: aA.aB :: aA.aB :: aA.aB :: aA.aB :: aA.aB :: aA.aB :: aA.aB :: aA.aB :: x151 :: x152 :: x153 :: x154 :: aA.aB :: aA.aB :: aA.aB :: aA.aB :: aA.aB :: aA.aB :: aA.aB :: aA.aB :: aA.aB :: aA.aB :: aA.aB :: aA.aB :: aA.aB :: aA.aB :: []) h n) :
  ∀ (m i : Nat) (h : Hp) (x1 x2 x5 x6 x7 x8 x11 x12 x14 x16 x20 x21 x40 x52 x76 x92 x108 x113 x114 x115 x116 x151 x152 x153 x154 : aA), i + m = cnt → Bw h v cnt → (∀ j, aL v ≠ some j → h j = h0 j) →
  Run env 47 none Q (.loop CO) ks (.ptr x 0 :: x1 :: x2 :: aA.aB :: aA.aB :: x5 :: x6 :: x7 :: x8 :: .ptr y9 0 :: .bool true :: x11 :: x12 :: aA.aB :: x14 :: aA.aB :: x16 :: aA.aB :: aA.aB :: aA.aB :: x20 :: x21 :: aA.aB :: aA.aB :: aA.aB :: aA.aB :: aA.aB :: aA.aB :: aA.aB :: aA.aB :: aA.aB :: aA.aB :: aA.aB :: aA.aB :: aA.aB :: aA.aB :: aA.aB :: aA.aB :: .int .i64 (cnt : Nat) :: .int .i64 (i : Nat) :: x40 :: aA.aB :: aA.aB :: aA.aB :: aA.aB :: aA.aB :: aA.aB :: aA.aB :: aA.aB :: aA.aB :: aA.aB :: aA.aB :: x52 :: aA.aB :: aA.aB :: aA.aB :: aA.aB :: aA.aB :: aA.aB :: aA.aB :: aA.aB :: aA.aB :: aA.aB :: aA.aB :: aA.aB :: aA.aB :: aA.aB :: aA.aB :: aA.aB :: aA.aB :: aA.aB :: aA.aB :: aA.aB :: aA.aB :: aA.aB :: aA.aB :: x76 :: aA.aB :: aA.aB :: aA.aB :: aA.aB :: aA.aB :: aA.aB :: aA.aB :: aA.aB :: aA.aB :: aA.aB :: aA.aB :: aA.aB :: aA.aB :: aA.aB :: aA.aB :: x92 :: aA.aB :: aA.aB :: aA.aB :: aA.aB :: aA.aB :: aA.aB :: aA.aB :: aA.aB :: aA.aB :: aA.aB :: aA.aB :: aA.aB :: aA.aB :: aA.aB :: aA.aB :: x108 :: aA.aB :: aA.aB :: aA.aB :: aA.aB :: x113 :: x114 :: x115 :: x116 :: aA.aB :: aA.aB :: aA.aB :: aA.aB :: aA.aB :: aA.aB :: aA.aB :: aA.aB :: aA.aB :: aA.aB :: aA.aB :: aA.aB :: aA.aB :: aA.aB :: aA.aB :: aA.aB :: aA.aB :: aA.aB :: aA.aB :: aA.aB :: aA.aB :: aA.aB :: aA.aB :: aA.aB :: aA.aB :: aA.aB :: aA.aB :: aA.aB :: aA.aB :: aA.aB :: aA.aB :: aA.aB :: aA.aB :: aA.aB :: x151 :: x152 :: x153 :: x154 :: aA.aB :: aA.aB :: aA.aB :: aA.aB :: aA.aB :: aA.aB :: aA.aB :: aA.aB :: aA.aB :: aA.aB :: aA.aB :: aA.aB :: aA.aB :: aA.aB :: []) h n := by
 intro m
 induction m with
 | zero =>
  intro i h x1 x2 x5 x6 x7 x8 x11 x12 x14 x16 x20 x21 x40 x52 x76 x92 x108 x113 x114 x115 x116 x151 x152 x153 x154 hi hb ho
  have : i = cnt := by omega
  subst this
  have hc : ¬ ((i : Nat) : Int) < ((i : Nat) : Int) := by omega
  rw [bP]
  simp only [CO, bC, Try.f47, Option.getD_some, fgr, bor, List.getD_cons_zero, hc, gE]
  exact hq h _ _ _ _ _ _ _ _ _ _ _ _ _ _ _ _ _ _ _ _ _ _ _ _ _ _ _ _ ho
 | succ m ih =>
  intro i h x1 x2 x5 x6 x7 x8 x11 x12 x14 x16 x20 x21 x40 x52 x76 x92 x108 x113 x114 x115 x116 x151 x152 x153 x154 hi hb ho
  have hil : i < cnt := by omega
  have hc : ((i : Nat) : Int) < ((cnt : Nat) : Int) := by omega
  have hwr : IntKind.i64.wrap (((i : Nat) : Int) + 1) = ((i + 1 : Nat) : Int) := by rw [w64 (by omega) (by omega)]; omega
  obtain ⟨xs, z, hr, hx⟩ := hb.at hil
  obtain ⟨h2, rs, ws, hw, hb2, ho2⟩ := hb.put (n := n) hil (IntKind.u8.wrap (z + 1))
  have rr : Row h y9 (aH w v) := r9.aO (ho y9 hv)
  rw [bP]
  simp only [CO, bC, Try.f47, Option.getD_some, tyr, fgr, bor, aM, List.getD_cons_zero, hc, gE]
  rw [aF (eZ rr ow)]
  simp only [gE]
  rw [aF (hr.idx (j := i) t29 s5 rfl hil)]
  simp only [Nat.mul_one, gE]
  rw [aF (hr.load (k := i) ti5 rfl hx)]
  simp only [bor, bR, gE]
  rw [aF (hr.idx (j := i) t29 s5 rfl hil)]
  simp only [Nat.mul_one, gE]
  rw [eQ hw]
  simp only [fgr, bor, bR, hwr, gE]
  exact ih (i + 1) h2 _ _ _ _ _ _ _ _ _ _ _ _ _ _ _ _ _ _ _ _ _ _ _ _ _ (by omega) (hb2 v cnt hb) fun j hj => (ho2 j hj).trans (ho j hj)
theorem yB {K K' : Nat → Prop} {h3 h4 : Hp} {n3 n4 x r : Nat} {L : List Ver} (i : Ixk K h3 n3 x L) (hn : n3 ≤ n4) (o : ∀ j, j < n3 → ¬ K j → h4 j = h3 j) (q : RI K' h4 n4 r L) (sub : ∀ j, K' j → K j ∨ (n3 ≤ j ∧ j < n4)) : Two h4 n4 x r L := ⟨K', (i.next hn o).sub sub, q⟩
theorem am0 : build env 31 [(2, .int .i64 99)] = M.pure (.agg (aH { noV with value := 99 } .aT)) := rfl
theorem IZ (m : Nat) : IntKind.i64.wrap (Int.tdiv (m : Nat) 2) = ((m / 2 : Nat) : Int) ∨ 9223372036854775807 < m := by
 by_cases c : 9223372036854775807 < m
 ·exact .inr c
 ·left
  have : Int.tdiv ((m : Nat) : Int) 2 = ((m / 2 : Nat) : Int) := Int.ofNat_tdiv m 2
  rw [this, w64 (by omega) (by omega)]
def DoI (r c : Nat) (v' : aA) (h' : Hp) (n' : Nat) : Prop := ∃ y L, v' = .tup [.ptr y 0, .bool true] ∧ Two h' n' y r L ∧ L.length ≤ c + 1
set_option maxHeartbeats 16000000 in
theorem f47 (x r : Nat) (o : OpI) (sv : aA) (hv : zP o.v sv) (hsl : o.v.aE.length ≤ 200) {L : List Ver} {h : Hp} {n : Nat} (hs : Two h n x r L) (hc : L.length ≤ 10000) (hf : bI h n) :
  Wp (bO env (aX env) 47 [.ptr x 0, .ptr r 0, .agg (gD o sv)]) h n (DoI r L.length) := by
 obtain ⟨K, ix, ri⟩ := hs
 have rL := ix.rL
 have hKn := ri.lt
 have rK := ri.rk
 have svk := (hv.s.bytes h).kind
 have svn : ∀ j, ¬ aL sv = some j := fun j q => by rw [EH hv.s] at q; cases q
 refine bG ai4 ZI ?_
 simp only [R7, Try.f47, Option.getD_some, List.replicate, Nat.reduceAdd, Nat.reduceSub, gE]
 refine cL (v := .agg (gD o sv)) OQ rfl hf fun H1 r1 o1 f1 => ?_
 replace r1 : Row H1 n (gD o sv) := r1
 simp only [tyr, fgr, aM, gE]
 rw [aF (P8 r1 hv.ok)]
 simp only [gE]
 rw [fI dZ rfl]
 simp only [cel, gE]
 refine kC (v := .agg (aH o.v sv)) dZ rfl (aW hv.ok.h hv.ok.b) (dH svk.2.1) f1 fun H2 r2 o2 f2 => ?_
 replace r2 : Row H2 (n + 1) (aH o.v sv) := r2
 have r1 : Row H2 n (gD o sv) := r1.aO (o2 n (by omega))
 have O2 : Old h H2 n := fun j hj => by rw [o2 j (by omega), o1 j (by omega)]
 have ix2 := ix.oE (n' := n + 1 + 1) (by omega) O2
 have ri2 := ri.old (n' := n + 1 + 1) (by omega) O2
 simp only [tyr, fgr, aM, gE]
 rw [aF (F0 r1)]
 by_cases k0 : o.kind = 0
 ·simp only [fgr, bor, k0, gE]
  rw [aF (dY r2 hv.ok)]
  simp only [gE]
  rw [fI dZ rfl]
  simp only [cel, gE]
  refine kC (v := .agg (aH o.v sv)) dZ rfl (aW hv.ok.h hv.ok.b) (dH svk.2.1) f2 fun H3 r3 o3 f3 => ?_
  replace r3 : Row H3 (n + 1 + 1) (aH o.v sv) := r3
  have r23 : Row H3 (n + 1) (aH o.v sv) := r2.aO (o3 _ (by omega))
  simp only [fgr, gE]
  rw [al8]
  refine i6 ti5 f3 fun h4 g4 o4 f4 => ?_
  have r24 : Row h4 (n + 1) (aH o.v sv) := r23.aO (o4 _ (by omega))
  have r34 : Row h4 (n + 1 + 1) (aH o.v sv) := r3.aO (o4 _ (by omega))
  simp only [tyr, aM, gE]
  rw [aF (eZ r24 hv.ok)]
  simp only [builtin, gE]
  refine fV (i := ⟨.int .u8, 1, 1, .int .u8 0⟩) (e := 5) (cnt := 0) (xs := []) (yU g4 rfl (fun k hk => by injection hk with hk; exact hk.symm)) (hv.s.bytes h4).rds t29 t29 ti5 (pS _) (by decide) (by show 2 * (0 + o.v.aE.length) * 1 ≤ _; omega) (by omega) f4 ?_
  intro v5 h5 n5 hn5 f5 l5 i5 o5
  rw [List.nil_append, Nat.zero_add] at l5
  have i5' : ∀ j, aL v5 = some j → n + 1 + 1 < j ∧ j < n5 := fun j hj => by
   rcases i5 with w | ⟨w, w2⟩
   ·rw [w] at hj; injection hj with hj; omega
   ·rw [w] at hj; injection hj with hj; omega
  have O5 : ∀ j, j < n + 1 + 1 + 1 → h5 j = H3 j := fun j hj => by rw [o5 j (by omega) (fun w => by injection w with w; omega), o4 j (by omega)]
  have b5 : Bytes h5 v5 o.v.aE := l5.rds.bytes (by intro e; subst e; cases l5)
  have k5 := b5.kind
  have m5 := Lst.nW l5
  obtain ⟨e9, g9⟩ : Row h5 (n + 1 + 1) (aH o.v sv) := r34.aO (o5 _ (by omega) (fun w => by injection w with w; omega))
  have r25 : Row h5 (n + 1) (aH o.v sv) := r23.aO (O5 _ (by omega))
  simp only [tyr, aM, gE]
  rw [eQ (Row.fH (off := 35) g9 jJ (by rw [k5.1]; rfl) (by rw [aW hv.ok.h hv.ok.b]; decide) (by rw [k5.1]; simp [k5.2.1]))]
  rw [k5.1, sC hv.ok.h]
  obtain ⟨h6, hh6⟩ : ∃ H, H = upd h5 (n + 1 + 1) (some (.row (.l (aH o.v v5)) e9)) := ⟨_, rfl⟩
  have r9 : Row h6 (n + 1 + 1) (aH o.v v5) := ⟨e9, by rw [hh6, bE]⟩
  have o6 : ∀ j, j ≠ n + 1 + 1 → h6 j = h5 j := fun j hj => by rw [hh6, aP _ _ hj]
  have f6 : bI h6 n5 := by rw [hh6]; exact f5.upd (by omega)
  rw [← hh6]
  clear hh6
  have r26 : Row h6 (n + 1) (aH o.v sv) := r25.aO (o6 _ (by omega))
  have b6 : Bytes h6 v5 o.v.aE := b5.aO fun j q => o6 j (by have := i5' j q; omega)
  have O6 : Old h h6 n := fun j hj => by rw [o6 j (by omega), O5 j (by omega), o3 j (by omega), O2 j hj]
  have ix6 := ix.oE (n' := n5) (by omega) O6
  have ri6 := ri.old (n' := n5) (by omega) O6
  have hK6 : ∀ j, (K j ∨ (n ≤ j ∧ j < n5)) → j < n5 := fun j q => q.elim (fun q => by have := hKn j q; omega) (fun q => q.2)
  have hS : ∀ j, decide (j ≠ n + 1) = false → (K j ∨ (n ≤ j ∧ j < n5)) := fun j q => by
   have := of_decide_eq_false q
   exact .inr ⟨by omega, by omega⟩
  simp only [cC, fgr, cE, aN]
  refine bY ⟨rfl, ?_⟩
  simp only [gE]
  rw [aR (dY r9 hv.ok)]
  simp only [hkr, Nat.reduceAdd, gE]
  refine jE (fun j => decide (j ≠ n + 1)) f6 (al6 o.v v5 hv.ok hv.pn (by omega) (jX ix6 hS) (b6.aO fun j q => fN (decide_eq_true (by have := i5' j q; omega))) (fun j q => (i5' j q).2) (by omega) f6.only) fun v7 h7 n7 r7 w7 hr hn7 f7 ⟨k7, hh⟩ a7 b7 cr7 cw7 => ?_
  have xn : n + 1 ∉ w7 := jM cw7 (decide_eq_false (by simp))
  have kp : ∀ j, (K j ∨ (n ≤ j ∧ j < n5)) → h7 j = h6 j := fun j kj => by
   cases e : decide (j ≠ n + 1) with
   | true => rw [a7 j (.inl e), k7 j kj, fN e]
   | false => exact b7 j (hK6 j kj) e
  have r27 : Row h7 (n + 1) (aH o.v sv) := r26.aO (kp _ (.inr ⟨by omega, by omega⟩))
  have r97 : Row h7 (n + 1 + 1) (aH o.v v5) := r9.aO (kp _ (.inr ⟨by omega, by omega⟩))
  have b7' : Bytes h7 v5 o.v.aE := b6.aO fun j q => kp j (.inr (by have := i5' j q; omega))
  have ri7 := ri6.aO hn7 fun j q => kp j (.inl q)
  have fin_ : ∀ (L1 : List Ver) (h8 : Hp) (n8 : Nat), n7 ≤ n8 → Ixk (fun j => K j ∨ (n ≤ j ∧ j < n5)) h7 n7 x L1 → (∀ j, j < n7 → j ≠ r → h8 j = h7 j) → (RI K h8 n8 r L1 ∨ RI (fun j => K j ∨ (n7 ≤ j ∧ j < n8)) h8 n8 r L1) → ∀ h9 : Hp, (∀ j, aL v5 ≠ some j → h9 j = h8 j) → Two h9 n8 x r L1 := by
   intro L1 h8 n8 hn8 i8 o8 r8 h9 o9
   have nx := i8.next (n' := n8) hn8 (fun j hj nk => o8 j hj fun e => nk (.inl (by rw [e]; exact rK)))
   have nx9 := nx.zY (h' := h9) fun j nk => o9 j fun w => nk (.inl (.inr (by have := i5' j w; omega)))
   rcases r8 with r8 | r8
   ·exact ⟨K, nx9.sub fun j q => .inl (.inl q), r8.aO (Nat.le_refl _) fun j q => o9 j fun w => by have := i5' j w; have := hKn j q; omega⟩
   ·exact ⟨fun j => K j ∨ (n7 ≤ j ∧ j < n8), nx9.sub fun j q => q.elim (fun q => .inl (.inl q)) .inr, r8.aO (Nat.le_refl _) fun j q => o9 j fun w => by
     have := i5' j w
     rcases q with q | q
     ·have := hKn j q; omega
     ·omega⟩
  have i7 : ∃ e L1, v7 = .int .i64 e ∧ Ixk (fun j => K j ∨ (n ≤ j ∧ j < n5)) h7 n7 x L1 ∧ ((oI o.v L ∧ e = 210 ∧ L1 = L) ∨ (¬ oI o.v L ∧ e = 0 ∧ L1 = lJ L o.v)) := by
   rcases hh with ⟨c, e, i⟩ | ⟨c, e, i⟩
   ·exact ⟨210, L, e, (lQ hS hK6 k7 i a7 b7).1, .inl ⟨c, rfl, rfl⟩⟩
   ·exact ⟨0, _, e, (lQ hS hK6 k7 i a7 b7).1, .inr ⟨c, rfl, rfl⟩⟩
  obtain ⟨e7, L1, rfl, ix7, hL1⟩ := i7
  simp only [Nat.reduceAdd, gE]
  rw [aR (dY r27 hv.ok)]
  simp only [hkr, Nat.reduceAdd, gE]
  refine cK f7 (f92 o.v sv hv.ok (by omega) rL ri7 (hv.s.bytes h7) (fun j q => absurd q (svn j)) (by omega) f7) fun v8 h8 n8 r8 w8 hn8 f8 ⟨o8, hh8⟩ => ?_
  have h8r : ∃ e, v8 = .int .i64 e ∧ e = e7 ∧ (RI K h8 n8 r L1 ∨ RI (fun j => K j ∨ (n7 ≤ j ∧ j < n8)) h8 n8 r L1) := by
   rcases hL1 with ⟨c, e, rfl⟩ | ⟨c, e, rfl⟩
   ·rcases hh8 with ⟨_, e', q⟩ | ⟨c', _⟩
    ·exact ⟨210, e', e.symm, .inl q⟩
    ·exact absurd c c'
   ·rcases hh8 with ⟨c', _⟩ | ⟨_, e', q⟩
    ·exact absurd c' c
    ·exact ⟨0, e', e.symm, .inr q⟩
  obtain ⟨e8, rfl, rfl, ri8⟩ := h8r
  have hL1l : L1.length ≤ L.length + 1 := by
   rcases hL1 with ⟨_, _, rfl⟩ | ⟨_, _, rfl⟩
   ·omega
   ·rw [AD]; omega
  have r98 : Row h8 (n + 1 + 1) (aH o.v v5) := r97.aO (o8 _ (by omega) (fun e => by have := hKn r rK; omega))
  have b8 : Bytes h8 v5 o.v.aE := b7'.aO fun j q => o8 j (by have := i5' j q; omega) (fun e => by have := hKn r rK; have := i5' j q; omega)
  simp only [tyr, fgr, bor, aM, Nat.reduceAdd, gE]
  refine ⟨(by (try simp (disch := first | assumption | omega) only [dX, gF]); repeat' (first | rfl | exact (Bool.or_eq_true _ _).mpr (.inr rfl) | refine (Bool.and_eq_true _ _).mpr ⟨?_, ?_⟩)), ?_⟩
  rw [aF (eZ r98 hv.ok)]
  simp only [fgr, builtin, b8.cP t29, gE]
  refine IG _ _ x (n + 1 + 1) v5 o.v hv.ok o.v.aE.length h8 n8 (by omega) r98 (fun w => by have := i5' _ w; omega) ?_ o.v.aE.length 0 h8 _ _ _ _ _ _ _ _ _ _ _ _ _ _ _ _ _ _ _ _ _ _ _ _ _ (by omega) (Bw.of b8 m5) (fun j q => rfl)
  intro h9 x1 x2 x5 x6 x7 x8 x9 x11 x12 x14 x16 x20 x21 x38 x39 x40 x52 x76 x92 x108 x113 x114 x115 x116 x151 x152 x153 x154 o9
  simp only [fgr, gE]
  exact ⟨x, L1, rfl, fin_ L1 h8 n8 hn8 ix7 o8 ri8 h9 o9, hL1l⟩
 have hKb : ∀ j, (K j ∨ (n ≤ j ∧ j < n + 1 + 1)) → j < n + 1 + 1 := fun j q => q.elim (fun q => by have := hKn j q; omega) (fun q => q.2)
 have hS : ∀ j, decide (j ≠ n ∧ j ≠ n + 1) = false → (K j ∨ (n ≤ j ∧ j < n + 1 + 1)) := fun j q => by
  have := of_decide_eq_false q
  exact .inr ⟨by omega, by omega⟩
 have hSn : decide (n ≠ n ∧ n ≠ n + 1) = false := decide_eq_false (by simp)
 have hSm : decide (n + 1 ≠ n ∧ n + 1 ≠ n + 1) = false := decide_eq_false (by simp)
 have hL9 : L.length ≤ 900000 := by omega
 by_cases k1 : o.kind = 1
 ·simp only [fgr, bor, Int.reduceEq, k1, gE]
  refine bY ⟨rfl, ?_⟩
  simp only [tyr, aM, Nat.reduceAdd, gE]
  rw [aR (fL r2 hv.ok)]
  simp only [tyr, aM, Nat.reduceAdd, gE]
  rw [aR (cO r2 hv.ok)]
  simp only [tyr, aM, Nat.reduceAdd, gE]
  rw [aR (DV r1 hv.ok)]
  simp only [tyr, aM, Nat.reduceAdd, gE]
  rw [aR (yF r2 hv.ok)]
  simp only [hkr, Nat.reduceAdd, gE]
  refine jE (fun j => decide (j ≠ n ∧ j ≠ n + 1)) f2 (al2 o.v.aG o.v.pn o.v.made o.at_ o.v.by_ hv.ok.h hv.ok.b (jX ix2 hS) hL9 f2.only) fun v3 h3 n3 rr3 w3 hr hn3 f3 ⟨k3, hh⟩ a3 b3 cr3 cw3 => ?_
  have xn : n ∉ w3 := jM cw3 hSn
  have xm : n + 1 ∉ w3 := jM cw3 hSm
  have i3 : ∃ e L1, v3 = .int .i64 e ∧ Ixk (fun j => K j ∨ (n ≤ j ∧ j < n + 1 + 1)) h3 n3 x L1 ∧ (∀ j, (K j ∨ (n ≤ j ∧ j < n + 1 + 1)) → h3 j = H2 j) ∧ (((∀ w ∈ L, cV w (key o.v.aG o.v.pn o.v.made) = 0 → (w.bW ≠ 0 ∨ o.at_ < 1 ∨ o.at_ < o.v.made)) ∧ e = 210 ∧ L1 = L) ∨ ∃ w ∈ L, cV w (key o.v.aG o.v.pn o.v.made) = 0 ∧ w.bW = 0 ∧ 1 ≤ o.at_ ∧ o.v.made ≤ o.at_ ∧ e = 0 ∧ L1 = pY L w (iY w o.at_ o.v.by_)) := by
   rcases hh with ⟨c, e, i⟩ | ⟨w, hw, c1, c2, c3, c4, e, i⟩
   ·exact ⟨210, L, e, (lQ hS hKb k3 i a3 b3).1, (lQ hS hKb k3 i a3 b3).2, .inl ⟨c, rfl, rfl⟩⟩
   ·exact ⟨0, _, e, (lQ hS hKb k3 i a3 b3).1, (lQ hS hKb k3 i a3 b3).2, .inr ⟨w, hw, c1, c2, c3, c4, rfl, rfl⟩⟩
  obtain ⟨e3, L1, rfl, ix3, kp, hL1⟩ := i3
  have r13 : Row h3 n (gD o sv) := r1.aO (kp _ (.inr ⟨by omega, by omega⟩))
  have r23 : Row h3 (n + 1) (aH o.v sv) := r2.aO (kp _ (.inr ⟨by omega, by omega⟩))
  have ri3 := ri2.aO hn3 fun j q => kp j (.inl q)
  simp only [tyr, aM, Nat.reduceAdd, gE]
  rw [aR (fL r23 hv.ok)]
  simp only [tyr, aM, Nat.reduceAdd, gE]
  rw [aR (cO r23 hv.ok)]
  simp only [tyr, aM, Nat.reduceAdd, gE]
  rw [aR (DV r13 hv.ok)]
  simp only [tyr, aM, Nat.reduceAdd, gE]
  rw [aR (yF r23 hv.ok)]
  simp only [hkr, Nat.reduceAdd, gE]
  refine cK f3 (f93 o.v.aG o.v.pn o.v.made o.at_ o.v.by_ hv.ok.h hv.ok.b rL ri3 hL9 f3) fun v4 h4 n4 rr4 w4 hn4 f4 ⟨o4, hh4⟩ => ?_
  have r4 : v4 = .int .i64 e3 ∧ RI K h4 n4 r L1 := by
   rcases hL1 with ⟨c, rfl, rfl⟩ | ⟨w, hw, c1, c2, c3, c4, rfl, rfl⟩
   ·rcases hh4 with ⟨_, e', q⟩ | ⟨u, hu, d1, d2, d3, d4, _⟩
    ·exact ⟨e', q⟩
    ·rcases c u hu d1 with q | q | q
     ·exact absurd d2 q
     ·omega
     ·omega
   ·rcases hh4 with ⟨c, _⟩ | ⟨u, hu, d1, d2, d3, d4, e', q⟩
    ·rcases c w hw c1 with q | q | q
     ·exact absurd c2 q
     ·omega
     ·omega
    ·rw [yZ rL hu hw d1 c1] at q
     exact ⟨e', q⟩
  obtain ⟨rfl, ri4⟩ := r4
  have hl1 : L1.length = L.length := by
   rcases hL1 with ⟨_, _, rfl⟩ | ⟨w, _, _, _, _, _, _, rfl⟩
   ·rfl
   ·exact qU _ _ _
  simp only [fgr, bor, Nat.reduceAdd, gE]
  refine ⟨(by (try simp (disch := first | assumption | omega) only [dX, gF]); repeat' (first | rfl | exact (Bool.or_eq_true _ _).mpr (.inr rfl) | refine (Bool.and_eq_true _ _).mpr ⟨?_, ?_⟩)), ?_⟩
  exact ⟨x, L1, rfl, yB ix3 hn4 (fun j hj nk => o4 j hj fun q => nk (.inl q)) ri4 (fun j q => .inl (.inl q)), by omega⟩
 by_cases k2 : o.kind = 2
 ·simp only [fgr, bor, Int.reduceEq, k2, gE]
  refine bY ⟨rfl, ?_⟩
  simp only [tyr, aM, Nat.reduceAdd, gE]
  rw [aR (fL r2 hv.ok)]
  simp only [tyr, aM, Nat.reduceAdd, gE]
  rw [aR (cO r2 hv.ok)]
  simp only [hkr, Nat.reduceAdd, gE]
  refine jE (fun j => decide (j ≠ n ∧ j ≠ n + 1)) f2 (ak9 o.v.aG o.v.pn o.v.made hv.ok.h (jX ix2 hS) hL9 f2.only) fun v3 h3 n3 rr3 w3 hr hn3 f3 ⟨k3, hh⟩ a3 b3 cr3 cw3 => ?_
  have xn : n ∉ w3 := jM cw3 hSn
  have xm : n + 1 ∉ w3 := jM cw3 hSm
  have i3 : ∃ e L1, v3 = .int .i64 e ∧ Ixk (fun j => K j ∨ (n ≤ j ∧ j < n + 1 + 1)) h3 n3 x L1 ∧ (∀ j, (K j ∨ (n ≤ j ∧ j < n + 1 + 1)) → h3 j = H2 j) ∧ (((∀ w ∈ L, cV w (key o.v.aG o.v.pn o.v.made) = 0 → w.bW = 0) ∧ e = 210 ∧ L1 = L) ∨ ∃ w ∈ L, cV w (key o.v.aG o.v.pn o.v.made) = 0 ∧ w.bW ≠ 0 ∧ e = 0 ∧ L1 = pY L w (iY w 0 z32)) := by
   rcases hh with ⟨c, e, i⟩ | ⟨w, hw, c1, c2, e, i⟩
   ·exact ⟨210, L, e, (lQ hS hKb k3 i a3 b3).1, (lQ hS hKb k3 i a3 b3).2, .inl ⟨c, rfl, rfl⟩⟩
   ·exact ⟨0, _, e, (lQ hS hKb k3 i a3 b3).1, (lQ hS hKb k3 i a3 b3).2, .inr ⟨w, hw, c1, c2, rfl, rfl⟩⟩
  obtain ⟨e3, L1, rfl, ix3, kp, hL1⟩ := i3
  have r23 : Row h3 (n + 1) (aH o.v sv) := r2.aO (kp _ (.inr ⟨by omega, by omega⟩))
  have ri3 := ri2.aO hn3 fun j q => kp j (.inl q)
  simp only [tyr, aM, Nat.reduceAdd, gE]
  rw [aR (fL r23 hv.ok)]
  simp only [tyr, aM, Nat.reduceAdd, gE]
  rw [aR (cO r23 hv.ok)]
  simp only [hkr, Nat.reduceAdd, gE]
  refine cK f3 (f94 o.v.aG o.v.pn o.v.made hv.ok.h rL ri3 hL9 f3) fun v4 h4 n4 rr4 w4 hn4 f4 ⟨o4, hh4⟩ => ?_
  have r4 : v4 = .int .i64 e3 ∧ RI K h4 n4 r L1 := by
   rcases hL1 with ⟨c, rfl, rfl⟩ | ⟨w, hw, c1, c2, rfl, rfl⟩
   ·rcases hh4 with ⟨_, e', q⟩ | ⟨u, hu, d1, d2, _⟩
    ·exact ⟨e', q⟩
    ·exact absurd (c u hu d1) d2
   ·rcases hh4 with ⟨c, _⟩ | ⟨u, hu, d1, d2, e', q⟩
    ·exact absurd (c w hw c1) c2
    ·rw [yZ rL hu hw d1 c1] at q
     exact ⟨e', q⟩
  obtain ⟨rfl, ri4⟩ := r4
  have hl1 : L1.length = L.length := by
   rcases hL1 with ⟨_, _, rfl⟩ | ⟨w, _, _, _, _, rfl⟩
   ·rfl
   ·exact qU _ _ _
  simp only [fgr, bor, Nat.reduceAdd, gE]
  refine ⟨(by (try simp (disch := first | assumption | omega) only [dX, gF]); repeat' (first | rfl | exact (Bool.or_eq_true _ _).mpr (.inr rfl) | refine (Bool.and_eq_true _ _).mpr ⟨?_, ?_⟩)), ?_⟩
  exact ⟨x, L1, rfl, yB ix3 hn4 (fun j hj nk => o4 j hj fun q => nk (.inl q)) ri4 (fun j q => .inl (.inl q)), by omega⟩
 by_cases k3 : o.kind = 3
 ·simp only [fgr, bor, Int.reduceEq, k3, gE]
  refine bY ⟨rfl, ?_⟩
  simp only [tyr, aM, Nat.reduceAdd, gE]
  rw [aR (fL r2 hv.ok)]
  simp only [tyr, aM, Nat.reduceAdd, gE]
  rw [aR (cO r2 hv.ok)]
  simp only [hkr, Nat.reduceAdd, gE]
  refine jE (fun j => decide (j ≠ n ∧ j ≠ n + 1)) f2 (al4 o.v.aG o.v.pn o.v.made hv.ok.h (jX ix2 hS) hL9 f2.only) fun v3 h3 n3 rr3 w3 hr hn3 f3 ⟨k3, hh⟩ a3 b3 cr3 cw3 => ?_
  have xn : n ∉ w3 := jM cw3 hSn
  have xm : n + 1 ∉ w3 := jM cw3 hSm
  have i3 : ∃ e L1, v3 = .int .i64 e ∧ Ixk (fun j => K j ∨ (n ≤ j ∧ j < n + 1 + 1)) h3 n3 x L1 ∧ (∀ j, (K j ∨ (n ≤ j ∧ j < n + 1 + 1)) → h3 j = H2 j) ∧ (((∀ w ∈ L, cV w (key o.v.aG o.v.pn o.v.made) ≠ 0) ∧ e = 210 ∧ L1 = L) ∨ ∃ w ∈ L, cV w (key o.v.aG o.v.pn o.v.made) = 0 ∧ e = 0 ∧ L1 = iZ L w) := by
   rcases hh with ⟨c, e, i⟩ | ⟨w, hw, c1, e, i⟩
   ·exact ⟨210, L, e, (lQ hS hKb k3 i a3 b3).1, (lQ hS hKb k3 i a3 b3).2, .inl ⟨c, rfl, rfl⟩⟩
   ·exact ⟨0, _, e, (lQ hS hKb k3 i a3 b3).1, (lQ hS hKb k3 i a3 b3).2, .inr ⟨w, hw, c1, rfl, rfl⟩⟩
  obtain ⟨e3, L1, rfl, ix3, kp, hL1⟩ := i3
  have r23 : Row h3 (n + 1) (aH o.v sv) := r2.aO (kp _ (.inr ⟨by omega, by omega⟩))
  have ri3 := ri2.aO hn3 fun j q => kp j (.inl q)
  simp only [tyr, aM, Nat.reduceAdd, gE]
  rw [aR (fL r23 hv.ok)]
  simp only [tyr, aM, Nat.reduceAdd, gE]
  rw [aR (cO r23 hv.ok)]
  simp only [hkr, Nat.reduceAdd, gE]
  refine cK f3 (f95 o.v.aG o.v.pn o.v.made hv.ok.h rL ri3 hL9 f3) fun v4 h4 n4 rr4 w4 hn4 f4 ⟨o4, hh4⟩ => ?_
  have r4 : v4 = .int .i64 e3 ∧ ∃ K', RI K' h4 n4 r L1 ∧ ∀ j, K' j → K j ∨ (n3 ≤ j ∧ j < n4) := by
   rcases hL1 with ⟨c, rfl, rfl⟩ | ⟨w, hw, c1, rfl, rfl⟩
   ·rcases hh4 with ⟨_, e', q⟩ | ⟨u, hu, d1, _⟩
    ·exact ⟨e', K, q, fun j q => .inl q⟩
    ·exact absurd d1 (c u hu)
   ·rcases hh4 with ⟨c, _⟩ | ⟨u, hu, d1, e', q⟩
    ·exact absurd c1 (c w hw)
    ·rw [yZ rL hu hw d1 c1] at q
     exact ⟨e', _, q, fun j q => q⟩
  obtain ⟨rfl, K', ri4, sub4⟩ := r4
  have hl1 : L1.length ≤ L.length := by
   rcases hL1 with ⟨_, _, rfl⟩ | ⟨w, _, _, _, rfl⟩
   ·exact Nat.le_refl _
   ·exact BA _ _
  simp only [fgr, bor, Nat.reduceAdd, gE]
  refine ⟨(by (try simp (disch := first | assumption | omega) only [dX, gF]); repeat' (first | rfl | exact (Bool.or_eq_true _ _).mpr (.inr rfl) | refine (Bool.and_eq_true _ _).mpr ⟨?_, ?_⟩)), ?_⟩
  exact ⟨x, L1, rfl, yB ix3 hn4 (fun j hj nk => o4 j hj fun e => nk (.inl (by rw [e]; exact rK))) ri4 (fun j q => (sub4 j q).imp .inl id), by omega⟩
 by_cases k4 : o.kind = 4
 ·simp only [fgr, hkr, bor, Int.reduceEq, k4, gE]
  have gd := ix2.g
  obtain ⟨⟨D, M, i2, q2⟩, _⟩ := ix2
  have iD : (∀ j, D j → j < n + 1 + 1 ∧ ¬ M j) ∧ ∀ j, M j → j < n + 1 + 1 := by
   obtain ⟨⟨S, ⟨vl, vs, xl, xs, iv, mx, ml, ms, mn⟩, _⟩, _⟩ := i2
   exact ⟨fun j q => ⟨iv.dn j q, fun w => (mn j w).2 q⟩, fun j q => (mn j q).1⟩
  refine bD f2 (f41 x L D M H2 _ i2 (by omega) f2) fun v3 h3 n3 hn3 f3 ⟨y, M', e3, iy, my, o3⟩ => ?_
  subst e3
  have iM : ∀ j, M' j → j < n3 := by
   obtain ⟨⟨S, ⟨vl, vs, xl, xs, iv, mx, ml, ms, mn⟩, _⟩, _⟩ := iy
   exact fun j q => (mn j q).1
  have t3 : TX (fun j => K j ∨ D j ∨ M' j) h3 n3 x L.length := ⟨L, ⟨⟨D, M, i2.old hn3 o3, fun j q => by
   rcases q with q | q | q
   ·exact ⟨by have := hKn j q; omega, (q2 j (.inl q)).2.1⟩
   ·exact ⟨by have := (iD.1 j q).1; omega, (iD.1 j q).2⟩
   ·exact ⟨iM j q, fun w => by have := my j q; have := iD.2 j w; omega⟩, fun j q => q.elim⟩, gd⟩, Nat.le_refl _⟩
  have ix3 : Ixk (fun _ => False) h3 n3 x L := ⟨⟨D, M, i2.old hn3 o3, fun j q => q.elim⟩, gd⟩
  simp only [fgr, hkr, gE]
  refine bD f3 (MN ix3 hL9 f3) fun v4 h4 n4 hn4 f4 ⟨l4, o4⟩ => ?_
  have t4 := t3.oE hn4 o4
  simp only [fgr, builtin, l4.len, gE]
  refine IF _ _ v4 x y n3 n4 L.length n4 L hL9 _ h4 l4 (fun j q1 q2 => .inr ⟨q1, q2⟩) hL9 ?_ L.length 0 h4 n4 _ _ _ _ _ _ _ _ _ _ _ _ _ _ _ _ _ _ _ _ _ _ _ _ _ (by omega) t4 (fun j q => rfl) (Nat.le_refl _) f4
  intro h5 n5 x1 x2 x5 x6 x7 x8 x9 x10 x11 x14 x16 x20 x21 x38 x39 x40 x52 x76 x92 x108 x113 x114 x115 x116 x151 x152 x153 x154 t5 o5 hn5 f5
  have t5' := t5
  obtain ⟨L5, ix5, hl5⟩ := t5'
  simp only [hkr, gE]
  refine bD f5 (MN ix5.k (by omega) f5) fun v6 h6 n6 hn6 f6 ⟨l6, o6⟩ => ?_
  have t6 := t5.oE hn6 o6
  have ix6 := ix5.old hn6 o6
  simp only [hkr, gE]
  refine eU (RW ix6.k) ?_
  have hh : IntKind.i64.wrap (Int.tdiv ((L5.length : Nat) : Int) 2) = ((L5.length / 2 : Nat) : Int) := by
   rcases IZ L5.length with q | q
   ·exact q
   ·omega
  have hle : L5.length / 2 ≤ L5.length := Nat.div_le_self _ _
  have l6' := l6
  obtain ⟨cells, c1, c2, c3⟩ := l6'
  simp only [opt, bor, bR, Int.reduceNe, hh, gE]
  rw [aF (c1.rds.z6 c1.GU u43 BV rfl hle)]
  have lp := l6.pre hle
  simp only [fgr, builtin, lp.len, gE]
  have htl : (L5.take (L5.length / 2)).length ≤ 900000 := by rw [List.length_take]; omega
  refine IE _ _ _ x y n5 n6 L.length n6 _ htl _ h6 lp (fun j q1 q2 => .inr ⟨q1, q2⟩) hL9 ?_ (L5.take (L5.length / 2)).length 0 h6 n6 _ _ _ _ _ _ _ _ _ _ _ _ _ _ _ _ _ _ _ _ _ _ _ _ _ (by omega) t6 (fun j q => rfl) (Nat.le_refl _) f6
  intro h7 n7 x1 x2 x5 x6 x7 x8 x9 x10 x11 x14 x16 x20 x21 x38 x39 x40 x52 x76 x92 x108 x113 x114 x115 x116 x151 x152 x153 x154 t7 o7 hn7 f7
  simp only [hkr, am0, gE]
  refine bD f7 (t33 { noV with value := 99 } .aT ⟨rfl, rfl⟩ (by decide) (by decide) t7 .aT (fun j q => by cases q) hL9 f7) fun v8 h8 n8 hn8 f8 ⟨o8, t8⟩ => ?_
  have kk : ∀ j, (K j ∨ D j ∨ M' j) → h8 j = h3 j := fun j q => by
   have lt : j < n3 := t3.lt q
   have lt4 : j < n4 := by omega
   have e5 : h5 j = h4 j := o5 j (.inl q)
   have lt5 : j < n5 := t5.lt (.inl q)
   rw [o8 j (.inl (.inl q)), o7 j (.inl (.inl q)), o6 j lt5, e5, o4 j lt]
  have nn : n3 ≤ n8 := by omega
  simp only [fgr, gE]
  refine ⟨y, L, rfl, ⟨K, ⟨⟨D, M', iy.qL nn fun j hj q => kk j (.inr q), fun j q => ⟨by have := hKn j q; omega, fun w => by have := my j w; have := hKn j q; omega, (q2 j (.inl q)).2.2⟩⟩, gd⟩, ?_⟩, by omega⟩
  exact (ri2.aO (n' := n3) hn3 fun j q => o3 j (by have := hKn j q; omega)).aO nn fun j q => kk j (.inl q)
 simp only [fgr, bor, k0, k1, k2, k3, k4, gE]
 exact ⟨x, L, rfl, ⟨K, ix2.sub fun j q => .inl q, ri2⟩, by omega⟩
theorem Two.old {h h' : Hp} {n n' x r : Nat} {L : List Ver} (s : Two h n x r L) (hn : n ≤ n') (ho : Old h h' n) : Two h' n' x r L := by
 obtain ⟨K, a, b⟩ := s
 exact ⟨K, a.old hn ho, b.old hn ho⟩
theorem VL.acc {h : Hp} {a b : Nat} {v : aA} {vs : List Ver} (l : VL h a b v vs) : Acc (fun j => a ≤ j ∧ j < b ∧ aL v ≠ some j) a h v vs := by
 obtain ⟨cells, c1, c2, c3⟩ := l
 exact ⟨cells, c1, c2, fun j q => (c3 j q).1⟩
theorem sF {S : Nat → Bool} {h hr h' : Hp} {n : Nat} (o : Old (only S h) hr n) (a : ∀ k, S k = true ∨ n ≤ k → h' k = hr k) (b : ∀ k, k < n → S k = false → h' k = h k) : Old h h' n := fun j hj => by
 cases e : S j with
 | true => rw [a j (.inl e), o j hj, fN e]
 | false => exact b j hj e
theorem DO {S : Nat → Bool} {hr h' : Hp} {n n' : Nat} {v : aA} {vs : List Ver} (l : VL hr n n' v vs) (a : ∀ k, S k = true ∨ n ≤ k → h' k = hr k) : VL h' n n' v vs := l.aO fun j q1 _ => a j (.inr q1)
theorem C1 {L S : List Ver} {z : Int} {ls : List (List UInt8)} (rS : dW true S) (perm : L.Perm S) (u : UpB ls) (m : ∀ s, s ∈ ls ↔ ∃ v ∈ L, dC v z = true ∧ v.aE = s) : pI (scr z S) = ls :=
 zW (MU (P0 rS z)) u fun s => by
  rw [JM, LB, m s]
  exact ⟨fun ⟨v, a, b⟩ => ⟨v, perm.mem_iff.2 a, b⟩, fun ⟨v, a, b⟩ => ⟨v, perm.mem_iff.1 a, b⟩⟩
theorem SF {L : List Ver} {aG : List UInt8} {pn z : Int} {w : Ver} (h : atV L aG pn z = some w) : w ∈ L := by
 unfold atV at h
 have := List.mem_of_getLast? h
 exact (List.mem_filter.1 this).1
theorem tm7 (a : Int) : -7 < Int.tmod a 7 ∧ Int.tmod a 7 < 7 := by
 have h1 := Int.tmod_lt_of_pos a (show (0 : Int) < 7 by decide)
 have h2 := Int.lt_tmod_of_pos a (show (0 : Int) < 7 by decide)
 omega
theorem b87 : build env 87 [] = M.pure (.agg [.aT]) := rfl
theorem am1 : build env 31 [] = M.pure (.agg (aH noV .aT)) := rfl
set_option maxHeartbeats 16000000 in
theorem TY (Q : dM) (ks : List Kf) (a : aA) (os : List OpI) (xs : List aA) (a1 : Int) (r : Nat) (hz : -128 ≤ a1 ∧ a1 ≤ 127) (ha : zQ a os xs) (hov : ∀ o ∈ os, o.v.aE.length ≤ 200) (hos : os.length ≤ 80)
  (hq : ∀ (h : Hp) n x L (x4 x7 x8 x9 x10 x11 x12 x13 x14 x15 x16 x17 x18 x19 x21 x28 x41 x147 : aA), Two h n x r L → L.length ≤ os.length → bI h n → dR env 8 none Q ks (.exit 0) (a :: .int .i8 a1 :: aA.aB :: aA.aB :: x4 :: .ptr x 0 :: .ptr r 0 :: x7 :: x8 :: x9 :: x10 :: x11 :: x12 :: x13 :: x14 :: x15 :: x16 :: x17 :: x18 :: x19 :: aA.aB :: x21 :: aA.aB :: aA.aB :: aA.aB :: aA.aB :: .int .i64 (os.length : Nat) :: .int .i64 (os.length : Nat) :: x28 :: aA.aB :: aA.aB :: aA.aB :: aA.aB :: aA.aB :: aA.aB :: aA.aB :: aA.aB :: aA.aB :: aA.aB :: aA.aB :: aA.aB :: x41 :: aA.aB :: aA.aB :: aA.aB :: aA.aB :: aA.aB :: aA.aB :: aA.aB :: aA.aB :: aA.aB :: aA.aB :: aA.aB :: aA.aB :: aA.aB :: aA.aB :: aA.aB :: aA.aB :: aA.aB :: aA.aB :: aA.aB :: aA.aB :: aA.aB :: aA.aB :: aA.aB :: aA.aB :: aA.aB :: aA.aB :: aA.aB :: aA.aB :: aA.aB :: aA.aB :: aA.aB :: aA.aB :: aA.aB :: aA.aB :: aA.aB :: aA.aB :: aA.aB :: aA.aB :: aA.aB :: aA.aB :: aA.aB :: aA.aB :: aA.aB :: aA.aB :: aA.aB :: aA.aB :: aA.aB :: aA.aB :: aA.aB :: aA.aB :: aA.aB :: aA.aB :: aA.aB :: aA.aB :: aA.aB :: aA.aB :: aA.aB :: aA.aB :: aA.aB :: aA.aB :: aA.aB :: aA.aB :: aA.aB :: aA.aB :: aA.aB :: aA.aB :: aA.aB :: aA.aB :: aA.aB :: aA.aB :: aA.aB :: aA.aB :: aA.aB :: aA.aB :: aA.aB :: aA.aB :: aA.aB :: aA.aB :: aA.aB :: aA.aB :: aA.aB :: aA.aB :: aA.aB :: aA.aB :: aA.aB :: aA.aB :: aA.aB :: aA.aB :: aA.aB :: aA.aB :: aA.aB :: aA.aB :: aA.aB :: aA.aB :: aA.aB :: aA.aB :: aA.aB :: aA.aB :: aA.aB :: aA.aB :: aA.aB :: aA.aB :: aA.aB :: aA.aB :: aA.aB :: x147 :: aA.aB :: aA.aB :: aA.aB :: aA.aB :: aA.aB :: aA.aB :: aA.aB :: aA.aB :: aA.aB :: aA.aB :: aA.aB :: aA.aB :: aA.aB :: aA.aB :: aA.aB :: aA.aB :: aA.aB :: aA.aB :: aA.aB :: aA.aB :: aA.aB :: aA.aB :: aA.aB :: aA.aB :: aA.aB :: aA.aB :: aA.aB :: aA.aB :: aA.aB :: []) h n) :
  ∀ (m i : Nat) (h : Hp) (n x : Nat) L (x4 x7 x8 x9 x10 x11 x12 x13 x14 x15 x16 x17 x18 x19 x21 x28 x41 x147 : aA), i + m = os.length → Two h n x r L → L.length ≤ i → bI h n →
  Run env 8 none Q (.loop I5) ks (a :: .int .i8 a1 :: aA.aB :: aA.aB :: x4 :: .ptr x 0 :: .ptr r 0 :: x7 :: x8 :: x9 :: x10 :: x11 :: x12 :: x13 :: x14 :: x15 :: x16 :: x17 :: x18 :: x19 :: aA.aB :: x21 :: aA.aB :: aA.aB :: aA.aB :: aA.aB :: .int .i64 (os.length : Nat) :: .int .i64 (i : Nat) :: x28 :: aA.aB :: aA.aB :: aA.aB :: aA.aB :: aA.aB :: aA.aB :: aA.aB :: aA.aB :: aA.aB :: aA.aB :: aA.aB :: aA.aB :: x41 :: aA.aB :: aA.aB :: aA.aB :: aA.aB :: aA.aB :: aA.aB :: aA.aB :: aA.aB :: aA.aB :: aA.aB :: aA.aB :: aA.aB :: aA.aB :: aA.aB :: aA.aB :: aA.aB :: aA.aB :: aA.aB :: aA.aB :: aA.aB :: aA.aB :: aA.aB :: aA.aB :: aA.aB :: aA.aB :: aA.aB :: aA.aB :: aA.aB :: aA.aB :: aA.aB :: aA.aB :: aA.aB :: aA.aB :: aA.aB :: aA.aB :: aA.aB :: aA.aB :: aA.aB :: aA.aB :: aA.aB :: aA.aB :: aA.aB :: aA.aB :: aA.aB :: aA.aB :: aA.aB :: aA.aB :: aA.aB :: aA.aB :: aA.aB :: aA.aB :: aA.aB :: aA.aB :: aA.aB :: aA.aB :: aA.aB :: aA.aB :: aA.aB :: aA.aB :: aA.aB :: aA.aB :: aA.aB :: aA.aB :: aA.aB :: aA.aB :: aA.aB :: aA.aB :: aA.aB :: aA.aB :: aA.aB :: aA.aB :: aA.aB :: aA.aB :: aA.aB :: aA.aB :: aA.aB :: aA.aB :: aA.aB :: aA.aB :: aA.aB :: aA.aB :: aA.aB :: aA.aB :: aA.aB :: aA.aB :: aA.aB :: aA.aB :: aA.aB :: aA.aB :: aA.aB :: aA.aB :: aA.aB :: aA.aB :: aA.aB :: aA.aB :: aA.aB :: aA.aB :: aA.aB :: aA.aB :: aA.aB :: aA.aB :: aA.aB :: aA.aB :: aA.aB :: aA.aB :: x147 :: aA.aB :: aA.aB :: aA.aB :: aA.aB :: aA.aB :: aA.aB :: aA.aB :: aA.aB :: aA.aB :: aA.aB :: aA.aB :: aA.aB :: aA.aB :: aA.aB :: aA.aB :: aA.aB :: aA.aB :: aA.aB :: aA.aB :: aA.aB :: aA.aB :: aA.aB :: aA.aB :: aA.aB :: aA.aB :: aA.aB :: aA.aB :: aA.aB :: aA.aB :: []) h n := by
 have wz : IntKind.i64.wrap a1 = a1 := w64 (by omega) (by omega)
 have t7 := tm7 a1
 have w7 : IntKind.i64.wrap (Int.tmod a1 7) = Int.tmod a1 7 := w64 (by omega) (by omega)
 have w6 : IntKind.i64.wrap (Int.tmod a1 7 + 6) = Int.tmod a1 7 + 6 := w64 (by omega) (by omega)
 intro m
 induction m with
 | zero =>
  intro i h n x L x4 x7 x8 x9 x10 x11 x12 x13 x14 x15 x16 x17 x18 x19 x21 x28 x41 x147 hi hs hl hf
  have : i = os.length := by omega
  subst this
  have hc : ¬ ((os.length : Nat) : Int) < ((os.length : Nat) : Int) := by omega
  rw [bP]
  simp only [I5, bC, Try.f8, Option.getD_some, fgr, bor, List.getD_cons_zero, hc, gE]
  exact hq h n x L _ _ _ _ _ _ _ _ _ _ _ _ _ _ _ _ _ _ hs hl hf
 | succ m ih =>
  intro i h n x0 L0 x4 x7 x8 x9 x10 x11 x12 x13 x14 x15 x16 x17 x18 x19 x21 x28 x41 x147 hi hs0 hl0 hf
  have hil : i < os.length := by omega
  have hc : ((i : Nat) : Int) < ((os.length : Nat) : Int) := by omega
  have hwr : IntKind.i64.wrap (((i : Nat) : Int) + 1) = ((i + 1 : Nat) : Int) := by rw [w64 (by omega) (by omega)]; omega
  obtain ⟨sv, e, hv⟩ := ha.at_ i hil
  have hmem : os[i] ∈ os := List.getElem_mem hil
  have hob := hov _ hmem
  generalize hoi : os[i] = o at *
  have ldO : ∀ (h : Hp) (n : Nat), Rd (load env 91 (eM (i * 72) a)) h n (rid a) (.agg (gD o sv)) := fun h n => by
   have hr0 := ha.rd h
   have hld := hr0.agg (E := env) (n := n) (k := i * 72) OQ rfl (by decide) (by show i * 72 + 72 ≤ _; rw [hr0.length]; omega)
   have e' : (xs.drop (i * 72)).take 72 = gD o sv := e
   exact e' ▸ hld
  have ldV : ∀ (h : Hp) (n : Nat), Rd (load env 31 (eM (i * 72 + 1) a)) h n (rid a) (.agg (aH o.v sv)) := fun h n => by
   have hr0 := ha.rd h
   have hld := hr0.agg (E := env) (n := n) (k := i * 72 + 1) dZ rfl (by decide) (by show i * 72 + 1 + 70 ≤ _; rw [hr0.length]; omega)
   have e' : (xs.drop (i * 72 + 1)).take 70 = aH o.v sv := by
    have e1 : (xs.drop (i * 72 + 1)).take 70 = (((xs.drop (i * 72)).take 72).drop 1).take 70 := by
     rw [List.drop_take, List.drop_drop, List.take_take]; rfl
    rw [e1, e]
    unfold gD
    rw [List.drop_succ_cons, List.drop_zero, List.take_append_of_le_length (by rw [aW hv.ok.h hv.ok.b]; omega), List.take_of_length_le (by rw [aW hv.ok.h hv.ok.b]; omega)]
   exact e' ▸ hld
  have svk := (hv.s.bytes h).kind
  have hr0 := ha.rd h
  rw [bP]
  simp only [I5, bC, Try.f8, Option.getD_some, fgr, bor, List.getD_cons_zero, hc, gE]
  rw [aF (hr0.idx (j := i) u65 z91 rfl hil)]
  simp only [gE]
  rw [aF (ldO h n)]
  simp only [hkr, gE]
  refine bD hf (f47 x0 r o sv hv hob hs0 (by omega) hf) fun v1 h1 n1 hn1 f1 ⟨x, L, e1, hs, hl⟩ => ?_
  subst e1
  have hl : L.length ≤ i + 1 := by omega
  have hL9 : L.length ≤ 900000 := by omega
  have mv1 := jN hr0 (by omega) (i * 72) 1
  simp only [tyr, fgr, lenOf, bor, bR, unOp, Int.reduceNe, convert, lS, AP, wz, w6, gE]
  obtain ⟨zz, hzz⟩ : ∃ zz, zz = Int.tmod a1 7 + 6 := ⟨_, rfl⟩
  rw [← hzz]
  clear hzz
  rw [aF (hr0.idx (j := i) u65 z91 rfl hil)]
  simp only [tyr, mv1, gE]
  rw [aF (ldV h1 n1)]
  simp only [am1, gE]
  rw [fI dZ rfl]
  simp only [cel, gE]
  rw [fI dZ rfl]
  obtain ⟨H2, hH2⟩ : ∃ H2, H2 = upd (upd h1 n1 (some (Blk.row (bH.l fA.i.zero.cells) 31))) (n1 + 1) (some (Blk.row (bH.l fA.i.zero.cells) 31)) := ⟨_, rfl⟩
  have g11 : H2 n1 = some (Blk.row (bH.l fA.i.zero.cells) 31) := by rw [hH2, aP _ _ (by omega), bE]
  have g12 : H2 (n1 + 1) = some (Blk.row (bH.l fA.i.zero.cells) 31) := by rw [hH2, bE]
  have O2 : Old h1 H2 n1 := fun j hj => by rw [hH2, aP _ _ (by omega), aP _ _ (by omega)]
  have f2 : bI H2 (n1 + 1 + 1) := by rw [hH2]; exact f1.new.new
  show Ops _ _ _ _ _ _ _ _ (upd (upd h1 n1 (some (Blk.row (bH.l fA.i.zero.cells) 31))) (n1 + 1) (some (Blk.row (bH.l fA.i.zero.cells) 31))) _
  rw [← hH2]
  clear hH2
  simp only [gE]
  rw [eQ (Row.fH (off := 0) (v := .agg (aH o.v sv)) g11 dZ (aW hv.ok.h hv.ok.b) (by decide) (dH svk.2.1))]
  rw [gY (by show (aH o.v sv).length = _; rw [aW hv.ok.h hv.ok.b]; rfl)]
  simp only [cel, gE]
  rw [eQ (Row.fH (off := 0) (v := .agg (aH noV .aT)) ((aP _ _ (by omega)).trans g12) dZ rfl (by decide) rfl)]
  rw [gY (by rfl)]
  obtain ⟨H3, hH3⟩ : ∃ H3, H3 = upd (upd H2 n1 (some (Blk.row (bH.l (aH o.v sv)) 31))) (n1 + 1) (some (Blk.row (bH.l (aH noV .aT)) 31)) := ⟨_, rfl⟩
  show Ops _ _ _ _ _ _ _ _ (upd (upd H2 n1 (some (Blk.row (bH.l (aH o.v sv)) 31))) (n1 + 1) (some (Blk.row (bH.l (aH noV .aT)) 31))) _
  have r11 : Row H3 n1 (aH o.v sv) := ⟨31, by rw [hH3, aP _ _ (by omega), bE]⟩
  have g12 : H3 (n1 + 1) = some (Blk.row (bH.l (aH noV .aT)) 31) := by rw [hH3, bE]
  have O3 : Old h1 H3 n1 := fun j hj => by rw [hH3, aP _ _ (by omega), aP _ _ (by omega), O2 j hj]
  have f3 : bI H3 (n1 + 1 + 1) := by rw [hH3]; exact (f2.upd (by omega)).upd (by omega)
  rw [← hH3]
  clear hH3 O2 f2 g11
  have s3 := hs.old (n' := n1 + 1 + 1) (by omega) O3
  simp only [tyr, fgr, aM, gE]
  obtain ⟨K, ix, ri⟩ := hs
  have hKn := ri.lt
  have rK := ri.rk
  have hrn := hKn r rK
  have okL := ix.ok
  have ix3 := ix.old (n' := n1 + 1 + 1) (by omega) O3
  rw [aF (fL r11 hv.ok)]
  simp only [hkr, gE]
  refine bD f3 (al0 o.v.aG o.v.pn zz hv.ok.h ix3 hL9 f3) fun v4 h4 n4 hn4 f4 ⟨o4, sA, e4, okA, bA, iA, mA⟩ => ?_
  subst e4
  have lenA : ((atV L o.v.aG o.v.pn zz).getD noV).aE.length ≤ 1000000 := by
   cases c : atV L o.v.aG o.v.pn zz with
   | none => decide
   | some w => exact (okL w (SF c)).2
  generalize hVA : (atV L o.v.aG o.v.pn zz).getD noV = VA at *
  generalize hIS : (atV L o.v.aG o.v.pn zz).isSome = isA at *
  simp only [gE]
  rw [fI dZ rfl]
  simp only [cel, gE]
  refine kC (v := .agg (aH VA sA)) dZ rfl (aW okA.h okA.b) (dH bA.kind.2.1) f4 fun h5 r13 o5 f5 => ?_
  replace r13 : Row h5 n4 (aH VA sA) := r13
  have r11 : Row h5 n1 (aH o.v sv) := (r11.aO (o4 _ (by omega))).aO (o5 _ (by omega))
  have g12 : h5 (n1 + 1) = some (Blk.row (bH.l (aH noV .aT)) 31) := by rw [o5 _ (by omega), o4 _ (by omega)]; exact g12
  have bA : Bytes h5 sA VA.aE := bA.aO fun j q => o5 j (by have := iA j q; omega)
  have O5 : Old h1 h5 n1 := fun j hj => by rw [o5 j (by omega), o4 j (by omega), O3 j hj]
  have ri5 := ri.old (n' := n4 + 1) (by omega) O5
  simp only [tyr, fgr, aM, gE]
  rw [aF (fL r11 hv.ok)]
  simp only [hkr, gE]
  refine bD f5 (f48 o.v.aG o.v.pn zz hv.ok.h ri5 hL9 f5) fun v6 h6 n6 hn6 f6 ⟨o6, sB, e6, okB, bB, iB⟩ => ?_
  rw [hVA, hIS] at e6
  rw [hVA] at okB bB
  subst e6
  have g12 : h6 (n1 + 1) = some (Blk.row (bH.l (aH noV .aT)) 31) := (o6 _ (by omega)).trans g12
  simp only [gE]
  rw [eQ (Row.fH (off := 0) (v := .agg (aH VA sB)) g12 dZ (aW okB.h okB.b) (by rw [aW rfl rfl]; decide) (dH bB.kind.2.1))]
  rw [gY (by show (aH VA sB).length = _; rw [aW okB.h okB.b, aW rfl rfl])]
  obtain ⟨h7, hh7⟩ : ∃ H, H = upd h6 (n1 + 1) (some (Blk.row (bH.l (aH VA sB)) 31)) := ⟨_, rfl⟩
  show Ops _ _ _ _ _ _ _ _ (upd h6 (n1 + 1) (some (Blk.row (bH.l (aH VA sB)) 31))) _
  have r12 : Row h7 (n1 + 1) (aH VA sB) := ⟨31, by rw [hh7, bE]⟩
  have o7 : ∀ j, j ≠ n1 + 1 → h7 j = h6 j := fun j hj => by rw [hh7, aP _ _ hj]
  have f7 : bI h7 n6 := by rw [hh7]; exact f6.upd (by omega)
  rw [← hh7]
  clear hh7
  have bB : Bytes h7 sB VA.aE := bB.aO fun j q => o7 j (by have := hKn j (iB j q); omega)
  have bA : Bytes h7 sA VA.aE := bA.aO fun j q => by have := iA j q; rw [o7 j (by omega), o6 j (by omega)]
  have r13 : Row h7 n4 (aH VA sA) := by
   refine (r13.aO (o6 _ (by omega))).aO (o7 _ (by omega))
  have r11 : Row h7 n1 (aH o.v sv) := (r11.aO (o6 _ (by omega))).aO (o7 _ (by omega))
  have O7 : Old h1 h7 n1 := fun j hj => by rw [o7 j (by omega), o6 j (by omega), O5 j hj]
  have ix7 := ix.oE (n' := n6) (by omega) O7
  have ri7 := ri.old (n' := n6) (by omega) O7
  have hS : ∀ j, decide (j ≠ n1) = false → (K j ∨ (n1 ≤ j ∧ j < n6)) := fun j q => by
   have := of_decide_eq_false q
   exact .inr ⟨by omega, by omega⟩
  have hSn : decide (n1 ≠ n1) = false := decide_eq_false (by simp)
  have svn : ∀ {m : Nat} (j : Nat), aL sv = some j → j < m := fun j q => by rw [EH hv.s] at q; cases q
  simp only [fgr, gE]
  refine bY ⟨rfl, ?_⟩
  simp only [hkr, gE]
  refine jE (fun j => decide (j ≠ n1)) f7 (MN (jX ix7 hS) hL9 f7.only) fun v8 h8 n8 rr8 w8 hr8 hn8 f8 ⟨l8, p8⟩ a8 b8 cr8 cw8 => ?_
  have x8 : n1 ∉ w8 := jM cw8 hSn
  have O8 := sF p8 a8 b8
  have l8 := DO l8 a8
  have ix8 := ix7.old hn8 O8
  have r11_8 := r11.aO (O8 n1 (by omega))
  simp only [tyr, aM, Nat.reduceAdd, gE]
  rw [aR (fL r11_8 hv.ok)]
  simp only [hkr, Nat.reduceAdd, gE]
  refine jE (fun j => decide (j ≠ n1)) f8 (ak4 o.v.aG o.v.pn hv.ok.h (jX ix8 hS) hL9 f8.only) fun v9 h9 n9 rr9 w9 hr9 hn9 f9 ⟨l9, p9⟩ a9 b9 cr9 cw9 => ?_
  have x9 : n1 ∉ w9 := jM cw9 hSn
  have O9 := sF p9 a9 b9
  have l9 := DO l9 a9
  have ix9 := ix8.old hn9 O9
  simp only [hkr, Nat.reduceAdd, gE]
  refine jE (fun j => decide (j ≠ n1)) f9 (ak7 zz (jX ix9 hS) hL9 f9.only) fun v10 h10 n10 rr10 w10 hr10 hn10 f10 ⟨l10, p10⟩ a10 b10 cr10 cw10 => ?_
  have x10 : n1 ∉ w10 := jM cw10 hSn
  have O10 := sF p10 a10 b10
  have l10 := DO l10 a10
  have ix10 := ix9.old hn10 O10
  have r11_10 : Row h10 n1 (aH o.v sv) := (r11_8.aO (O9 n1 (by omega))).aO (O10 n1 (by omega))
  simp only [tyr, aM, Nat.reduceAdd, gE]
  rw [aR (eZ r11_10 hv.ok)]
  simp only [hkr, Nat.reduceAdd, gE]
  refine cK f10 (ak5 sv o.v.aE zz ix10 (hv.s.bytes h10) svn hL9 f10) fun v11 h11 n11 rr11 w11 hn11 f11 ⟨l11, O11⟩ => ?_
  have O711 : Old h7 h11 n6 := fun j hj => by rw [O11 j (by omega), O10 j (by omega), O9 j (by omega), O8 j hj]
  have l8 : VL h11 n6 n8 v8 L := l8.aO fun j q1 q2 => by rw [O11 j (by omega), O10 j (by omega), O9 j (by omega)]
  have l9 : VL h11 n8 n9 v9 (sK L o.v.aG o.v.pn) := l9.aO fun j q1 q2 => by rw [O11 j (by omega), O10 j (by omega)]
  have l10 : VL h11 n9 n10 v10 (L.filter fun v => dC v zz) := l10.aO fun j q1 q2 => by rw [O11 j (by omega)]
  have r11 : Row h11 n1 (aH o.v sv) := r11.aO (O711 _ (by omega))
  have r12 : Row h11 (n1 + 1) (aH VA sB) := r12.aO (O711 _ (by omega))
  have r13 : Row h11 n4 (aH VA sA) := r13.aO (O711 _ (by omega))
  have bA : Bytes h11 sA VA.aE := bA.aO fun j q => O711 j (by have := iA j q; omega)
  have bB : Bytes h11 sB VA.aE := bB.aO fun j q => O711 j (by have := hKn j (iB j q); omega)
  have ix11 := ix10.old hn11 O11
  have ri11 := ri7.old (n' := n11) (by omega) O711
  simp only [fgr, Nat.reduceAdd, gE]
  refine ⟨(by (try simp (disch := first | assumption | omega) only [dX, gF]); repeat' (first | rfl | exact (Bool.or_eq_true _ _).mpr (.inr rfl) | refine (Bool.and_eq_true _ _).mpr ⟨?_, ?_⟩)), ?_⟩
  have hlen : (L.filter fun v => dC v zz).length ≤ L.length := List.length_filter_le _ _
  have hlen2 : (sK L o.v.aG o.v.pn).length ≤ L.length := List.length_filter_le _ _
  have hlen3 : (ofV L o.v.aE zz).length ≤ L.length := List.length_filter_le _ _
  have hSr : ∀ j, decide (j ≠ r) = false → (K j ∨ (n1 ≤ j ∧ j < n6)) := fun j q => by
   have := of_decide_eq_false q
   have e : j = r := by omega
   subst e; exact .inl rK
  have hSrr : decide (r ≠ r) = false := decide_eq_false (by simp)
  refine bY ⟨rfl, ?_⟩
  simp only [tyr, bor, aV, dV, bF, equal, cM, bZ, c8, Nat.reduceAdd, gE]
  rw [aR (dY r13 okA)]
  simp only [Nat.reduceAdd, gE]
  rw [aR (dY r12 okB)]
  simp only [hkr, Nat.reduceAdd, gE]
  refine cK f11 (f42 VA VA sA sB okA okB h11 n11 bA bB (fun j q => by have := iA j q; omega) (fun j q => by have := hKn j (iB j q); omega) f11) fun v12 h12 n12 rr12 w12 hn12 f12 ⟨e12, o12⟩ => ?_
  rw [xS] at e12
  subst e12
  have ri12 := ri11.old hn12 o12
  obtain ⟨vl, rv12, lr12, _⟩ := ri12.vl
  have l8_12 := l8.old (n := n11) (by omega) o12
  simp only [tyr, unOp, aY, aM, Nat.reduceAdd, gE]
  rw [aR (Row.one (off := 0) rv12 rfl fZ rfl)]
  simp only [hkr, Nat.reduceAdd, gE]
  refine cK f12 (nZ l8_12 lr12 (by omega) (Nat.le_refl _) (by omega) f12) fun v13 h13 n13 rr13 w13 hn13 f13 ⟨e13, o13⟩ => ?_
  rw [mE] at e13
  subst e13
  have O13 : Old h11 h13 n11 := fun j hj => by rw [o13 j (by omega), o12 j hj]
  have ix13 := ix11.old (n' := n13) (by omega) O13
  have ri13 := ri11.old (n' := n13) (by omega) O13
  simp only [hkr, unOp, aY, Nat.reduceAdd, gE]
  refine jE (fun j => decide (j ≠ r)) f13 (RW (jX ix13 hSr)) fun v14 h14 n14 rr14 w14 hr14 hn14 f14 ⟨e14, p14, q14⟩ a14 b14 cr14 cw14 => ?_
  subst e14; subst q14
  have x14 : r ∉ w14 := jM cw14 hSrr
  have O14 : Old h13 h14 n14 := sF (hr := hr14) (fun j hj => by rw [p14]) a14 b14
  have hr14n : r < n14 := by omega
  obtain ⟨vl2, rv14, lr14, _⟩ := (ri13.old (Nat.le_refl _) O14).vl
  simp only [tyr, aM, Nat.reduceAdd, gE]
  rw [aR (Row.one (off := 0) rv14 rfl fZ rfl)]
  simp only [tyr, builtin, bor, aY, aM, Nat.reduceAdd, lr14.len, gE]
  have O14' : Old h11 h14 n11 := fun j hj => by rw [O14 j (by omega), O13 j hj]
  have r11_14 : Row h14 n1 (aH o.v sv) := r11.aO (O14' _ (by omega))
  have ri14 := ri11.old (n' := n14) (by omega) O14'
  rw [aR (fL r11_14 hv.ok)]
  simp only [hkr, Nat.reduceAdd, gE]
  refine cK f14 (f51 o.v.aG o.v.pn hv.ok.h ri14 hL9 f14) fun v15 h15 n15 rr15 w15 hn15 f15 ⟨c15, o15⟩ => ?_
  have O15 : Old h11 h15 n11 := fun j hj => by rw [o15 j (by omega), O14' j hj]
  have l9_15 := l9.old (n := n11) (by omega) O15
  have c15' := c15.vl (n := n15) (fun j q => by have := hKn j q; omega) hn15 f15
  simp only [hkr, Nat.reduceAdd, gE]
  refine cK f15 (nZ l9_15 c15' (by omega) (Nat.le_refl _) (by omega) f15) fun v16 h16 n16 rr16 w16 hn16 f16 ⟨e16, o16⟩ => ?_
  rw [mE] at e16
  subst e16
  have O16 : Old h11 h16 n11 := fun j hj => by rw [o16 j (by omega), O15 j hj]
  have ri16 := ri11.old (n' := n16) (by omega) O16
  simp only [hkr, unOp, aY, Nat.reduceAdd, gE]
  refine cK f16 (f52 zz ri16 hL9 f16) fun v17 h17 n17 rr17 w17 hn17 f17 ⟨c17, o17⟩ => ?_
  have O17 : Old h11 h17 n11 := fun j hj => by rw [o17 j (by omega), O16 j hj]
  have l10_17 := l10.old (n := n11) (by omega) O17
  have c17' := c17.vl (n := n17) (fun j q => by have := hKn j q; omega) hn17 f17
  simp only [hkr, Nat.reduceAdd, gE]
  refine cK f17 (nZ l10_17 c17' (by omega) (Nat.le_refl _) (by omega) f17) fun v18 h18 n18 rr18 w18 hn18 f18 ⟨e18, o18⟩ => ?_
  rw [mE] at e18
  subst e18
  have O18 : Old h11 h18 n11 := fun j hj => by rw [o18 j (by omega), O17 j hj]
  have ri18 := ri11.old (n' := n18) (by omega) O18
  have r11_18 : Row h18 n1 (aH o.v sv) := r11.aO (O18 _ (by omega))
  simp only [tyr, unOp, aY, aM, Nat.reduceAdd, gE]
  rw [aR (eZ r11_18 hv.ok)]
  simp only [hkr, Nat.reduceAdd, gE]
  refine cK f18 (f53 sv o.v.aE zz ri18 (hv.s.bytes h18) svn hL9 f18) fun v19 h19 n19 rr19 w19 hn19 f19 ⟨c19, o19⟩ => ?_
  have O19 : Old h11 h19 n11 := fun j hj => by rw [o19 j (by omega), O18 j hj]
  have l11_19 := l11.old (n := n11) (Nat.le_refl _) O19
  have c19' := c19.vl (n := n19) (fun j q => by have := hKn j q; omega) hn19 f19
  simp only [hkr, Nat.reduceAdd, gE]
  refine cK f19 (nZ l11_19 c19' (by omega) (Nat.le_refl _) (by omega) f19) fun v20 h20 n20 rr20 w20 hn20 f20 ⟨e20, o20⟩ => ?_
  rw [mE] at e20
  subst e20
  have O20 : Old h11 h20 n11 := fun j hj => by rw [o20 j (by omega), O19 j hj]
  have ri20 := ri11.old (n' := n20) (by omega) O20
  have ix20 := ix11.old (n' := n20) (by omega) O20
  obtain ⟨⟨D20, M20, i20, _⟩, _⟩ := ix20
  simp only [hkr, unOp, aY, Nat.reduceAdd, gE]
  refine cK f20 (f44 x zz L D20 M20 h20 n20 i20 (by omega) f20) fun v21 h21 n21 rr21 w21 hn21 f21 ⟨S, rS, perm, c21, o21⟩ => ?_
  have O21 : Old h11 h21 n11 := fun j hj => by rw [o21 j (by omega), O20 j hj]
  have ri21 := ri11.old (n' := n21) (by omega) O21
  simp only [hkr, Nat.reduceAdd, gE]
  refine cK f21 (f55 zz ri21 hL9 f21) fun v22 h22 n22 rr22 w22 hn22 f22 ⟨⟨ls, c22, u22, m22⟩, o22⟩ => ?_
  have O22 : Old h11 h22 n11 := fun j hj => by rw [o22 j (by omega), O21 j hj]
  have eS := C1 rS perm u22 m22
  rw [eS] at c21
  have c21' := c21.old (n := n21) (Nat.le_refl _) o22
  have lsl : ls.length ≤ 900000 := by
   rw [← eS]
   have h1 := NH (scr zz S) (scr zz S).length
   have h2 : (pI (scr zz S)).length ≤ (scr zz S).length := by unfold pI; rw [List.length_map]; exact h1
   have h3 : (scr zz S).length ≤ S.length := by unfold scr; rw [List.length_map]; exact List.length_filter_le _ _
   have h4 := perm.length_eq
   omega
  simp only [hkr, Nat.reduceAdd, gE]
  refine cK f22 (f54 v21 v22 ls _ _ _ _ h22 n22 lsl c21' c22) fun v23 h23 n23 rr23 w23 hn23 f23 ⟨e23, p23, q23⟩ => ?_
  subst e23; subst p23; subst q23
  simp only [fgr, hkr, unOp, aY, Nat.reduceAdd, gE]
  refine ⟨(by (try simp (disch := first | assumption | omega) only [dX, gF]); repeat' (first | rfl | exact (Bool.or_eq_true _ _).mpr (.inr rfl) | refine (Bool.and_eq_true _ _).mpr ⟨?_, ?_⟩)), ?_⟩
  have sc : ∀ (P : Ver → Bool), ∀ w ∈ L.filter P, w.aE.length ≤ 1000000 := fun P w hw => (okL w (List.mem_filter.1 hw).1).2
  have hn711 : n6 ≤ n11 := by omega
  have z8 := (l8.old (n := n11) (by omega) O22).acc
  refine bD f22 (f56 (n := n23) z8 (fun j q => q.2.2) (by omega) (fun w hw => (okL w hw).2)) fun u1 g1 m1 hm1 y1 ⟨q1, em1⟩ => ?_
  subst em1
  have P1 : ∀ j, ¬ (n6 ≤ j ∧ j < n8) → g1 j = h23 j := fun j q => q1 j fun w => q ⟨w.1, w.2.1⟩
  have z9 := (l9.aO (h' := g1) fun j q1 q2 => by rw [P1 j (by omega), O22 j (by omega)]).acc
  simp only [fgr, hkr, gE]
  refine bD y1 (f56 (n := m1) z9 (fun j q => q.2.2) (by omega) (sc _)) fun u2 g2 m2 hm2 y2 ⟨q2, em2⟩ => ?_
  subst em2
  have P2 : ∀ j, ¬ (n8 ≤ j ∧ j < n9) → g2 j = g1 j := fun j q => q2 j fun w => q ⟨w.1, w.2.1⟩
  have z10 := (l10.aO (h' := g2) fun j q1 q2 => by rw [P2 j (by omega), P1 j (by omega), O22 j (by omega)]).acc
  simp only [fgr, hkr, gE]
  refine bD y2 (f56 (n := m2) z10 (fun j q => q.2.2) (by omega) (sc _)) fun u3 g3 m3 hm3 y3 ⟨q3, em3⟩ => ?_
  subst em3
  have P3 : ∀ j, ¬ (n9 ≤ j ∧ j < n10) → g3 j = g2 j := fun j q => q3 j fun w => q ⟨w.1, w.2.1⟩
  have z11 := (l11.aO (h' := g3) fun j q1 q2 => by rw [P3 j (by omega), P2 j (by omega), P1 j (by omega), O22 j (by omega)]).acc
  simp only [fgr, hkr, gE]
  refine bD y3 (f56 (n := m3) z11 (fun j q => q.2.2) (by omega) (sc _)) fun u4 g4 m4 hm4 y4 ⟨q4, em4⟩ => ?_
  subst em4
  have P4 : ∀ j, ¬ (n10 ≤ j ∧ j < n11) → g4 j = g3 j := fun j q => q4 j fun w => q ⟨w.1, w.2.1⟩
  have P : ∀ j, j < n6 → g4 j = h11 j := fun j q => by rw [P4 j (by omega), P3 j (by omega), P2 j (by omega), P1 j (by omega), O22 j (by omega)]
  have r13 : Row g4 n4 (aH VA sA) := r13.aO (P _ (by omega))
  have bA : Bytes g4 sA VA.aE := bA.aO fun j q => P j (by have := iA j q; omega)
  simp only [fgr, gE]
  rw [aF (dY r13 okA)]
  simp only [sO (aW okA.h okA.b), gE]
  refine i6 dZ y4 (f := fun id => aA.sl id 0 1 (some 1) 70) fun g5 t5 x5 y5 => ?_
  have bA5 : Bytes g5 sA VA.aE := bA.aO fun j q => x5 j (by have := iA j q; omega)
  have gR : Acc (fun j => aL sA = some j) m4 g5 (.sl m4 0 1 (some 1) 70) [VA] := ⟨aH VA sA, .sl m4 1 (some 1) _ _ t5 (by rw [aW okA.h okA.b]; decide) (fun k q => by injection q with q; subst q; exact ⟨Nat.le_refl _, by rw [aW okA.h okA.b]; decide⟩) (by rw [List.take_of_length_le (by rw [aW okA.h okA.b]; decide)]), by
   have := (Vm.nil g5 (fun j => aL sA = some j)).wI bA5 okA (fun j q => q) mA
   simpa using this, fun j q => by injection q with q; omega⟩
  simp only [hkr, gE]
  refine bD y5 (f56 (n := m4 + 1) gR (fun j q w => by injection w with w; have := iA j q; omega) (by simp) (fun w hw => by rw [List.mem_singleton.1 hw]; exact lenA)) fun u6 g6 m6 hm6 y6 ⟨q6, em6⟩ => ?_
  subst em6
  have PE : Old h1 g6 n1 := fun j hj => by
   rw [q6 j (fun w => by have := iA j w; omega), x5 j (by omega), P j (by omega), O711 j (by omega), O7 j hj]
  simp only [fgr, bor, bR, hwr, gE]
  exact ih (i + 1) g6 (m4 + 1) x L _ _ _ _ _ _ _ _ _ _ _ _ _ _ _ _ _ _ (by omega) ⟨K, ix.old (by omega) PE, ri.old (by omega) PE⟩ (by omega) y6
theorem law8 (v0 : aA) (hv0 : Arg Try.prog 65 [v0]) (a1 : Int) (w1 : (Lit.int .i8 a1).wf = true) :
  Wp (bO env (aX env) 8 [v0, .int .i8 a1]) (fun _ => none) 0 fun v _ _ => v = .bool true := by
 obtain ⟨os, xs, ha⟩ := N5 hv0
 have hz : -128 ≤ a1 ∧ a1 ≤ 127 := by
  simp only [Lit.wf, Bool.and_eq_true, decide_eq_true_eq] at w1
  exact w1
 refine bG ff8 fi8 ?_
 simp only [fu8, Try.f8, Option.getD_some, List.replicate, fgr, hkr, Nat.reduceAdd, Nat.reduceSub, gE]
 have f0 : bI (fun _ => none) 0 := bI.none
 generalize (fun _ => none : Hp) = h0 at *
 refine eU (f30 v0 os xs h0 0 ha) ?_
 cases hg : qE os with
 | true =>
  simp only [fgr, gE]
 | false =>
 obtain ⟨g1, g2⟩ := AW hg
 simp only [fgr, hkr, gE]
 refine bD f0 (ak6 h0 0 f0) fun v1 h1 n1 hn1 f1 ⟨x, e1, hx, s1, o1⟩ => ?_
 subst e1
 simp only [b87, gE]
 refine cL (v := .agg [.aT]) T5 rfl f1 fun h2 r2 o2 f2 => ?_
 replace r2 : Row h2 n1 [.aT] := r2
 have O2 : Old h1 h2 n1 := fun j hj => o2 j (by omega)
 have ix2 : Ixk (fun j => j = n1) h2 (n1 + 1) x [] := (s1.oE (n' := n1 + 1) (by omega) O2).sub fun j q => .inr (by omega)
 have ri2 : RI (fun j => j = n1) h2 (n1 + 1) n1 [] := ⟨.aT, [], r2, .nil, Vm.nil _ _, (fun j q => by cases q), rfl, fun j q => by omega⟩
 simp only [fgr, builtin, (ha.rd h2).cP u65, gE]
 refine TY _ _ v0 os xs a1 n1 hz ha g2 g1 ?_ os.length 0 h2 (n1 + 1) x [] _ _ _ _ _ _ _ _ _ _ _ _ _ _ _ _ _ _ (by omega) ⟨_, ix2, ri2⟩ (Nat.le_refl _) f2
 intro h3 n3 y L x4 x7 x8 x9 x10 x11 x12 x13 x14 x15 x16 x17 x18 x19 x21 x28 x41 x147 s3 hl f3
 obtain ⟨K, ix, ri⟩ := s3
 have rK := ri.rk
 have hrn := ri.lt _ rK
 have hL9 : L.length ≤ 900000 := by omega
 have hSr : ∀ j, decide (j ≠ n1) = false → K j := fun j q => by
  have := of_decide_eq_false q
  have e : j = n1 := by omega
  subst e; exact rK
 have hSrr : decide (n1 ≠ n1) = false := decide_eq_false (by simp)
 simp only [cC]
 refine bY ⟨rfl, ?_⟩
 simp only [hkr, gE]
 refine jE (fun j => decide (j ≠ n1)) f3 (MN (jX ix hSr) hL9 f3.only) fun v8 h8 n8 rr8 w8 hr8 hn8 f8 ⟨l8, p8⟩ a8 b8 cr8 cw8 => ?_
 have x8 : n1 ∉ w8 := jM cw8 hSrr
 have O8 := sF p8 a8 b8
 have l8 := DO l8 a8
 have ix8 := ix.old hn8 O8
 obtain ⟨vl, rv8, lr8, _⟩ := (ri.old hn8 O8).vl
 simp only [tyr, aM, Nat.reduceAdd, gE]
 rw [aR (Row.one (off := 0) rv8 rfl fZ rfl)]
 simp only [hkr, Nat.reduceAdd, gE]
 refine cK f8 (nZ l8 lr8 (Nat.le_refl _) (Nat.le_refl _) (by omega) f8) fun v9 h9 n9 rr9 w9 hn9 f9 ⟨e9, o9⟩ => ?_
 rw [mE] at e9
 subst e9
 have ix9 := ix8.old hn9 o9
 simp only [hkr, Nat.reduceAdd, gE]
 refine jE (fun j => decide (j ≠ n1)) f9 (RW (jX ix9 hSr)) fun v14 h14 n14 rr14 w14 hr14 hn14 f14 ⟨e14, p14, q14⟩ a14 b14 cr14 cw14 => ?_
 subst e14; subst q14
 have x14 : n1 ∉ w14 := jM cw14 hSrr
 have O14 : Old h9 h14 n14 := sF (hr := hr14) (fun j hj => by rw [p14]) a14 b14
 have hr14n : n1 < n14 := by omega
 obtain ⟨vl2, rv14, lr14, _⟩ := (((ri.old hn8 O8).old hn9 o9).old (Nat.le_refl _) O14).vl
 simp only [tyr, aM, Nat.reduceAdd, gE]
 rw [aR (Row.one (off := 0) rv14 rfl fZ rfl)]
 simp only [fgr, builtin, bor, aY, Nat.reduceAdd, lr14.len, gE]
 exact (by (try simp (disch := first | assumption | omega) only [dX, gF]); repeat' (first | rfl | exact (Bool.or_eq_true _ _).mpr (.inr rfl) | refine (Bool.and_eq_true _ _).mpr ⟨?_, ?_⟩))
end Go.Am.Ytlgebaofkolkoaa
