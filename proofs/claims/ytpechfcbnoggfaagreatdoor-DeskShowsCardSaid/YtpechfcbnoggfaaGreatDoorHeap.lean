/- part -/
import Derived.Test.YtpechfcbnoggfaaGreatDoorOps
import Derived.KernelRfl
section
namespace Go.NB
def UponCall (P : Program) (w : World) (R : Value → Heap → Prop) : Result Next → Prop
 | .ok (.value v) w' => w' = w ∧ R v w.heap
 | .ok (.enter f args) w' => w' = w ∧ Calls P f args w fun e w' => ∃ v, e = .returned v ∧ R v w'.heap ∧ Amb w w'
 | _ => False
def CallsH (P : Program) (f : FuncId) (args : Array Value) (H : Heap) (R : Value → Heap → Prop) : Prop :=
 ∀ w : World, w.heap = H → UponCall P w R ((callFunc f args).run P w)
theorem CallsH.mono {P : Program} {f : FuncId} {args : Array Value} {H : Heap} {R R' : Value → Heap → Prop} (h : CallsH P f args H R) (hr : ∀ v H', R v H' → R' v H') : CallsH P f args H R' := by
 intro w hw
 have := h w hw
 unfold UponCall at *
 split at this
 ·exact ⟨this.1, hr _ _ this.2⟩
 ·exact ⟨this.1, this.2.mono fun e w' ⟨v, h1, h2, h3⟩ => ⟨v, h1, hr _ _ h2, h3⟩⟩
 ·exact this.elim
def argEnv : Nat → List Value → Env
 | _, [] => []
 | i, v :: r => (i, true, v) :: argEnv (i + 1) r
theorem look_argEnv : ∀ (l : List Value) (i t : Nat) (g : Bool) (v : Value), look (argEnv i l) t = some (g, v) → g = true ∧ i ≤ t ∧ l[t - i]? = some v
 | [], _, _, _, _, h => by cases h
 | u :: r, i, t, g, v, h => by
  unfold argEnv look at h
  by_cases hb : Nat.beq i t = true
  ·rw [hb] at h
   simp at h
   obtain ⟨rfl, rfl⟩ := h
   have := Nat.eq_of_beq_eq_true hb
   subst this
   simp
  ·rw [Bool.not_eq_true] at hb
   rw [hb] at h
   have hne : i ≠ t := fun e => by subst e; simp at hb
   obtain ⟨h1, h2, h3⟩ := look_argEnv r (i + 1) t g v h
   refine ⟨h1, by omega, ?_⟩
   rw [show t - i = (t - (i + 1)) + 1 by omega]
   simpa using h3
def Ret (c : Cx) (fn : Func) (R : Value → Heap → Prop) (Q : Exit → Act → World → Prop) : Prop :=
 ∀ e a w v, (e = .ret ∨ e = .normal) → a.defers = [] → (results fn a.tmps).run c.P w = .ok v w → R v w.heap → Amb c.W0 w → Q e a w
theorem enter {P : Program} {f : FuncId} {fn : Func} {code : Code} {args : List Value} {H : Heap} {R : Value → Heap → Prop} {n : Nat}
  (hc : ∀ args w, (callFunc f args).run P w = .ok (.enter f args) w) (hf : P.funcs[f]? = some fn) (hb : fn.body = some code) (hn : fn.ntmps = n) (hl : args.length ≤ n)
  (h : ∀ W0 Q, Ret ⟨P, n, [], W0⟩ fn R Q → WC ⟨P, n, [], W0⟩ code (argEnv 0 args) H Q) : CallsH P f args.toArray H R := by
 intro w hw
 rw [hc]
 refine ⟨rfl, calls_of_wp hf hb ?_⟩
 refine h w _ (fun e a w' v he hd hr hR hA => ?_) _ w ⟨?_, rfl, fun t g v hl => ?_⟩ hw (Amb.refl _)
 ·rcases he with rfl | rfl <;> exact ⟨hd, v, hr, v, rfl, hR, hA⟩
 ·simp [hn]; omega
 ·obtain ⟨rfl, _, h2⟩ := look_argEnv _ _ _ _ _ hl
  rw [Nat.sub_zero] at h2
  obtain ⟨hlt, e⟩ := List.getElem?_eq_some_iff.1 h2
  simp [Array.getD_eq_getD_getElem?, Array.getElem?_append, hlt, e]
section
variable {c : Cx} {env : Env} {H : Heap} {Q : Exit → Act → World → Prop} {fn : Func} {R : Value → Heap → Prop}
theorem end0 (hQ : Ret c fn R Q) (hr : fn.results = #[]) (hd : c.ds = []) (hR : R (.tuple #[]) H) : NX c env H (Q .normal) := fun a w hf hw hA =>
 hQ _ _ _ (.tuple #[]) (.inr rfl) (hf.defers.trans hd) (by simp [results, hr]) (by rw [hw]; exact hR) hA
theorem ret1 {t : Nat} {v : Value} (hQ : Ret c fn R Q) (hr : fn.results = #[.tmp t]) (hd : c.ds = []) (hx : Ev env (.tmp t) v) (hR : R v H) : NX c env H (Q .ret) := fun a w hf hw hA => by
 have := hf.eval hx
 simp only [Act.eval, Array.getD_eq_getD_getElem?] at this
 exact hQ _ _ _ v (.inl rfl) (hf.defers.trans hd) (by simp [results, hr, this]) (by rw [hw]; exact hR) hA
def Gd (c : Cx) (ops : Array Oper) (o : Oper) (env : Env) (g : Bool) : Prop := ∀ a, Fr c env a → Region.wanted o (yielded ops a.tmps) = g
theorem Gd.none {ops : Array Oper} {o : Oper} (h : o.guard = .none) : Gd c ops o env true := fun a _ => by simp [Region.wanted, h]
theorem yielded_of {ops : Array Oper} {j t : Nat} {g b : Bool} {a : Act} (hf : Fr c env a) (hj : (ops[j]?).bind (·.dst) = some t) (ht : Nat.blt t c.n = true) (hl : look env t = some (g, .bool b)) :
  yielded ops a.tmps j = bif g then some b else .none := by
 have hs := hf.slot t g _ hl
 have hlt : t < a.tmps.size := by rw [hf.size]; exact Nat.le_of_ble_eq_true ht
 have e : a.tmps[t]? = some (bif g then .bool b else undef) := by
  rw [Array.getElem?_eq_getElem hlt]
  rw [Array.getD_eq_getD_getElem?, Array.getElem?_eq_getElem hlt] at hs
  simpa using hs
 unfold yielded
 rw [hj]
 show (match a.tmps[t]? with | some (.bool b) => some b | _ => .none) = _
 rw [e]
 cases g <;> rfl
theorem Gd.yes {ops : Array Oper} {o : Oper} {j t : Nat} {g b : Bool} (h : o.guard = some (j, true)) (hj : (ops[j]?).bind (·.dst) = some t) (ht : Nat.blt t c.n = true) (hl : look env t = some (g, .bool b)) : Gd c ops o env (g && b) := fun a hf => by
 simp only [Region.wanted, h, yielded_of hf hj ht hl]
 cases g <;> cases b <;> rfl
theorem Gd.no {ops : Array Oper} {o : Oper} {j t : Nat} {g b : Bool} (h : o.guard = some (j, false)) (hj : (ops[j]?).bind (·.dst) = some t) (ht : Nat.blt t c.n = true) (hl : look env t = some (g, .bool b)) : Gd c ops o env (g && !b) := fun a hf => by
 simp only [Region.wanted, h, yielded_of hf hj ht hl]
 cases g <;> cases b <;> rfl
section wl
variable {ops : Array Oper} {o : Oper} {rest : List Oper} {d : Nat}
theorem WL.gdet {g : Bool} {v : Value} (hg : Gd c ops o env g) (hd : o.dst = some d) (hlt : Nat.blt d c.n = true) (h : g = true → ValC c o env (Is H) v) (k : WL c ops rest ((d, g, v) :: env) H Q) : WL c ops (o :: rest) env H Q := by
 intro a w hf hw hA
 have hlt' : d < c.n := Nat.le_of_ble_eq_true hlt
 have hp := hf.put hlt' g v
 refine wpList_step fun K hK => ?_
 rw [hg a hf]
 cases g with
 | true =>
  rw [if_pos rfl]
  have := h rfl a w hf hw hA
  unfold Oper.wp
  rw [this]
  simp only [Oper.upon, hd]
  exact hK _ _ (k _ w hp hw hA)
 | false =>
  rw [if_neg (by simp), hd]
  exact hK _ _ (k _ w hp hw hA)
theorem WL.det {v : Value} (hg : o.guard = .none) (hd : o.dst = some d) (hlt : Nat.blt d c.n = true) (h : ValC c o env (Is H) v) (k : WL c ops rest ((d, true, v) :: env) H Q) : WL c ops (o :: rest) env H Q :=
 WL.gdet (Gd.none hg) hd hlt (fun _ => h) k
theorem WL.ex {Φ : Value → Prop} (hg : o.guard = .none) (hd : o.dst = some d) (hlt : Nat.blt d c.n = true) (h : ∃ v, ValC c o env (Is H) v ∧ Φ v) (k : ∀ v, Φ v → WL c ops rest ((d, true, v) :: env) H Q) : WL c ops (o :: rest) env H Q :=
 let ⟨v, h1, h2⟩ := h; WL.det hg hd hlt h1 (k v h2)
inductive Evs (env : Env) : List Operand → List Value → Prop
 | nil : Evs env [] []
 | cons {x v xs vs} : Ev env x v → Evs env xs vs → Evs env (x :: xs) (v :: vs)
theorem Evs.eval {xs : List Operand} {vs : List Value} (h : Evs env xs vs) {a : Act} (hf : Fr c env a) : xs.map a.eval = vs := by
 induction h with
 | nil => rfl
 | cons h1 _ ih => simp [hf.eval h1, ih]
theorem exec_call {o : Oper} {a : Act} {f : FuncId} {fx : Operand} {first caps : List Value} {as : List Operand} {tys : Array TypeId} {vs : List Value} (ho : o.op = .call { callee := .value fx, args := as.toArray, argTypes := tys })
  (hfx : a.eval fx = .func (.func f) first.toArray caps.toArray) (hvs : as.map a.eval = vs) : execOp a.eval o = callFunc f ((first ++ vs) ++ caps).toArray := by
 unfold execOp
 rw [ho]
 simp only [resolve, List.map_toArray, hvs, hfx, Deferred.ofValue]
 show callFunc f ((first.toArray ++ vs.toArray) ++ caps.toArray) = _
 simp
theorem WL.callC {f : FuncId} {fx : Operand} {first caps : List Value} {as : List Operand} {tys : Array TypeId} {vs : List Value} {R : Value → Heap → Prop} (hg : o.guard = .none) (hd : o.dst = some d) (hlt : Nat.blt d c.n = true)
  (ho : o.op = .call { callee := .value fx, args := as.toArray, argTypes := tys }) (hfx : Ev env fx (.func (.func f) first.toArray caps.toArray)) (hvs : Evs env as vs) (hc : CallsH c.P f ((first ++ vs) ++ caps).toArray H R)
  (k : ∀ v H', R v H' → WL c ops rest ((d, true, v) :: env) H' Q) : WL c ops (o :: rest) env H Q := by
 intro a w hf hw hA
 have hlt' : d < c.n := Nat.le_of_ble_eq_true hlt
 refine wpList_plain hg fun K hK => ?_
 have he := exec_call ho (hf.eval hfx) (hvs.eval hf)
 unfold Oper.wp
 rw [he]
 have := hc w hw
 unfold UponCall at this
 split at this
 ·rename_i v w' hr
  rw [hr]
  obtain ⟨rfl, hR⟩ := this
  simp only [Oper.upon, hd]
  exact hK _ _ (k v _ hR _ _ (hf.put hlt' true v) rfl hA)
 ·rename_i f' args' w' hr
  rw [hr]
  obtain ⟨rfl, hR⟩ := this
  simp only [Oper.upon, hd]
  refine hR.mono fun e w'' ⟨v, h1, h2, h3⟩ => ?_
  subst h1
  exact hK _ _ (k v _ h2 _ _ (hf.put hlt' true v) rfl (hA.trans h3))
 ·exact this.elim
theorem WL.call {f : FuncId} {as : List Operand} {tys : Array TypeId} {vs : List Value} {R : Value → Heap → Prop} (hg : o.guard = .none) (hd : o.dst = some d) (hlt : Nat.blt d c.n = true)
  (ho : o.op = .call { callee := .value (.func f), args := as.toArray, argTypes := tys }) (hvs : Evs env as vs) (hc : CallsH c.P f vs.toArray H R)
  (k : ∀ v H', R v H' → WL c ops rest ((d, true, v) :: env) H' Q) : WL c ops (o :: rest) env H Q :=
 WL.callC (first := []) (caps := []) hg hd hlt ho ⟨_, rfl, rfl⟩ hvs (by simpa using hc) k
theorem WL.gcall {g : Bool} {f : FuncId} {as : List Operand} {tys : Array TypeId} {vs : List Value} {u : Value} (hg : Gd c ops o env g) (hd : o.dst = some d) (hlt : Nat.blt d c.n = true)
  (ho : o.op = .call { callee := .value (.func f), args := as.toArray, argTypes := tys }) (hvs : g = true → Evs env as vs) (hc : g = true → CallsH c.P f vs.toArray H fun v H' => v = u ∧ Keep [] H H')
  (k : ∀ H', Keep [] H H' → WL c ops rest ((d, g, u) :: env) H' Q) : WL c ops (o :: rest) env H Q := by
 intro a w hf hw hA
 have hlt' : d < c.n := Nat.le_of_ble_eq_true hlt
 refine wpList_step fun K hK => ?_
 rw [hg a hf]
 cases g with
 | false =>
  rw [if_neg (by simp), hd]
  exact hK _ _ (k H (Keep.refl _ _) _ w (hf.put hlt' false u) hw hA)
 | true =>
  rw [if_pos rfl]
  have he := exec_call (first := []) (caps := []) ho (hf.eval ⟨_, rfl, rfl⟩) ((hvs rfl).eval hf)
  unfold Oper.wp
  rw [he]
  have := hc rfl w hw
  simp only [List.nil_append, List.append_nil]
  unfold UponCall at this
  split at this
  ·rename_i v w' hr
   rw [hr]
   obtain ⟨rfl, rfl, hR⟩ := this
   simp only [Oper.upon, hd]
   exact hK _ _ (k _ hR _ _ (hf.put hlt' true v) rfl hA)
  ·rename_i f' args' w' hr
   rw [hr]
   obtain ⟨rfl, hR⟩ := this
   simp only [Oper.upon, hd]
   refine hR.mono fun e w'' ⟨v, h1, h2, h3⟩ => ?_
   subst h1
   obtain ⟨rfl, h4⟩ := h2
   exact hK _ _ (k _ h4 _ _ (hf.put hlt' true v) rfl (hA.trans h3))
  ·exact this.elim
end wl
def Cls (c : Cx) (S : Heap → Prop) (w : World) : Prop := S w.heap ∧ Amb c.W0 w
def QL (c : Cx) (ops : Array Oper) (l : List Oper) (env : Env) (S : Heap → Prop) (K : Act → Prop) : Prop := ∀ a, Fr c env a → wpQuiet c.P ops (Cls c S) K l a
theorem WC.draw {id : Nat} {l : List Oper} (S : Heap → Prop) (hS : S H) (hm : c.P.follows .mixedOrders = true) (hB : Region.lexB .any l.toArray = true)
  (h : QL c l.toArray l env S (fun a' => ∀ w', Cls c S w' → Q .normal a' w')) : WC c (.region id l.toArray true) env H Q := by
 intro a w hf hw hA
 refine wp_region_quiet (C := Cls c S) hm hB ⟨by rw [← hw] at hS; exact hS, ⟨hA.os, hA.tape, hA.output, Nat.le_succ_of_le hA.drawn⟩⟩ ?_
 have := h a hf
 simpa using this
section ql
variable {ops : Array Oper} {o : Oper} {rest : List Oper} {d : Nat} {S : Heap → Prop} {K : Act → Prop}
theorem QL.nil (h : ∀ H', S H' → NX c env H' (Q .normal)) : QL c ops [] env S (fun a' => ∀ w', Cls c S w' → Q .normal a' w') := fun a hf => wpQuiet_nil fun w' hC => h _ hC.1 a w' hf rfl hC.2
theorem QL.gdet {g : Bool} {v : Value} (hg : Gd c ops o env g) (hd : o.dst = some d) (hlt : Nat.blt d c.n = true) (h : g = true → ValC c o env S v) (k : QL c ops rest ((d, g, v) :: env) S K) : QL c ops (o :: rest) env S K := by
 intro a hf
 have hlt' : d < c.n := Nat.le_of_ble_eq_true hlt
 have hp := hf.put hlt' g v
 refine wpQuiet_step fun K hK => ?_
 rw [hg a hf]
 cases g with
 | true =>
  rw [if_pos rfl]
  refine ⟨v, fun w hC => ?_, ?_⟩
  ·have := h rfl a w hf hC.1 hC.2
   unfold Oper.quietAt
   rw [this]
   exact ⟨rfl, rfl⟩
  ·rw [hd]; exact hK _ (k _ hp)
 | false =>
  rw [if_neg (by simp), hd]
  exact hK _ (k _ hp)
theorem QL.det {v : Value} (hg : o.guard = .none) (hd : o.dst = some d) (hlt : Nat.blt d c.n = true) (h : ValC c o env S v) (k : QL c ops rest ((d, true, v) :: env) S K) : QL c ops (o :: rest) env S K :=
 QL.gdet (Gd.none hg) hd hlt (fun _ => h) k
theorem QL.ex {Φ : Value → Prop} (hg : o.guard = .none) (hd : o.dst = some d) (hlt : Nat.blt d c.n = true) (h : ∃ v, ValC c o env S v ∧ Φ v) (k : ∀ v, Φ v → QL c ops rest ((d, true, v) :: env) S K) : QL c ops (o :: rest) env S K :=
 let ⟨v, h1, h2⟩ := h; QL.det hg hd hlt h1 (k v h2)
theorem QL.gcall {g : Bool} {f : FuncId} {as : List Operand} {tys : Array TypeId} {vs : List Value} {u : Value} (hg : Gd c ops o env g) (hd : o.dst = some d) (hlt : Nat.blt d c.n = true)
  (ho : o.op = .call { callee := .value (.func f), args := as.toArray, argTypes := tys }) (hvs : g = true → Evs env as vs) (hc : g = true → ∀ H', S H' → CallsH c.P f vs.toArray H' fun v H'' => v = u ∧ S H'')
  (k : QL c ops rest ((d, g, u) :: env) S K) : QL c ops (o :: rest) env S K := by
 intro a hf
 have hlt' : d < c.n := Nat.le_of_ble_eq_true hlt
 have hp := hf.put hlt' g u
 refine wpQuiet_step fun K hK => ?_
 rw [hg a hf]
 cases g with
 | false =>
  rw [if_neg (by simp), hd]
  exact hK _ (k _ hp)
 | true =>
  rw [if_pos rfl]
  refine ⟨u, fun w hC => ?_, by rw [hd]; exact hK _ (k _ hp)⟩
  have he := exec_call (first := []) (caps := []) ho (hf.eval ⟨_, rfl, rfl⟩) ((hvs rfl).eval hf)
  unfold Oper.quietAt
  rw [he]
  have := hc rfl _ hC.1 w rfl
  simp only [List.nil_append, List.append_nil]
  unfold UponCall at this
  split at this
  ·rename_i v w' hr
   rw [hr]
   obtain ⟨rfl, rfl, hR⟩ := this
   exact ⟨rfl, rfl⟩
  ·rename_i f' args' w' hr
   rw [hr]
   obtain ⟨rfl, hR⟩ := this
   refine ⟨rfl, hR.mono fun e w'' ⟨v, h1, h2, h3⟩ => ?_⟩
   subst h1
   obtain ⟨rfl, h4⟩ := h2
   exact ⟨rfl, h4, hC.2.trans h3⟩
  ·exact this.elim
theorem QL.call {f : FuncId} {as : List Operand} {tys : Array TypeId} {vs : List Value} {u : Value} (hg : o.guard = .none) (hd : o.dst = some d) (hlt : Nat.blt d c.n = true)
  (ho : o.op = .call { callee := .value (.func f), args := as.toArray, argTypes := tys }) (hvs : Evs env as vs) (hc : ∀ H', S H' → CallsH c.P f vs.toArray H' fun v H'' => v = u ∧ S H'')
  (k : QL c ops rest ((d, true, u) :: env) S K) : QL c ops (o :: rest) env S K :=
 QL.gcall (Gd.none hg) hd hlt ho (fun _ => hvs) (fun _ => hc) k
end ql
def SL (c : Cx) (ops : Array Oper) (l : List Oper) (env : Env) (H : Heap) (T : List Oper) (Q : Exit → Act → World → Prop) : Prop :=
 ∀ a w, Fr c env a → w.heap = H → Amb c.W0 w → wpStill c.P ops w (fun a' => wpList c.P ops Q T a' w) l a
theorem WC.tail {id : Nat} {l : List Oper} (n : Nat) (hm : c.P.follows .mixedOrders = true) (hB : Region.lexTailB .any l.toArray n = true)
  (h : SL c l.toArray (l.take n) env H (l.drop n) Q) : WC c (.region id l.toArray true) env H Q := fun a w hf hw hA =>
 wp_region_still_tail n hm hB (h a { w with drawn := w.drawn + 1 } hf hw ⟨hA.os, hA.tape, hA.output, Nat.le_succ_of_le hA.drawn⟩)
section sl
variable {ops : Array Oper} {o : Oper} {rest T : List Oper} {d : Nat}
theorem SL.nil (h : WL c ops T env H Q) : SL c ops [] env H T Q := fun a w hf hw hA => wpStill_nil (h a w hf hw hA)
theorem SL.gdet {g : Bool} {v : Value} (hg : Gd c ops o env g) (hd : o.dst = some d) (hlt : Nat.blt d c.n = true) (h : g = true → ValC c o env (Is H) v) (k : SL c ops rest ((d, g, v) :: env) H T Q) : SL c ops (o :: rest) env H T Q := by
 intro a w hf hw hA
 have hlt' : d < c.n := Nat.le_of_ble_eq_true hlt
 have hp := hf.put hlt' g v
 refine wpStill_step fun K hK => ?_
 rw [hg a hf]
 cases g with
 | true =>
  rw [if_pos rfl]
  have := h rfl a w hf hw hA
  unfold Oper.still
  rw [this]
  refine ⟨rfl, ?_⟩
  rw [hd]
  exact hK _ (k _ w hp hw hA)
 | false =>
  rw [if_neg (by simp), hd]
  exact hK _ (k _ w hp hw hA)
theorem SL.det {v : Value} (hg : o.guard = .none) (hd : o.dst = some d) (hlt : Nat.blt d c.n = true) (h : ValC c o env (Is H) v) (k : SL c ops rest ((d, true, v) :: env) H T Q) : SL c ops (o :: rest) env H T Q :=
 SL.gdet (Gd.none hg) hd hlt (fun _ => h) k
theorem SL.ex {Φ : Value → Prop} (hg : o.guard = .none) (hd : o.dst = some d) (hlt : Nat.blt d c.n = true) (h : ∃ v, ValC c o env (Is H) v ∧ Φ v) (k : ∀ v, Φ v → SL c ops rest ((d, true, v) :: env) H T Q) : SL c ops (o :: rest) env H T Q :=
 let ⟨v, h1, h2⟩ := h; SL.det hg hd hlt h1 (k v h2)
end sl
end
end Go.NB
end
/- part -/
section
namespace Go.NB
section
variable {c : Cx} {env : Env} {H : Heap} {Q : Exit → Act → World → Prop} {ops : Array Oper} {o : Oper} {rest : List Oper} {d : Nat}
theorem WL.new {v : Value} {H' : Heap} (hg : o.guard = .none) (hd : o.dst = some d) (hlt : Nat.blt d c.n = true)
  (h : ∀ a w, Fr c env a → w.heap = H → ∃ w', (execOp a.eval o).run c.P w = .ok (.value v) w' ∧ w'.heap = H' ∧ Amb w w') (k : WL c ops rest ((d, true, v) :: env) H' Q) : WL c ops (o :: rest) env H Q := by
 intro a w hf hw hA
 have hlt' : d < c.n := Nat.le_of_ble_eq_true hlt
 refine wpList_plain hg fun K hK => ?_
 obtain ⟨w', hr, hh, hA'⟩ := h a w hf hw
 unfold Oper.wp
 rw [hr]
 simp only [Oper.upon, hd]
 exact hK _ _ (k _ w' (hf.put hlt' true v) hh (hA.trans hA'))
theorem WL.newAny {Φ : Value → Heap → Prop} (hg : o.guard = .none) (hd : o.dst = some d) (hlt : Nat.blt d c.n = true)
  (h : ∀ a w, Fr c env a → w.heap = H → ∃ v w', (execOp a.eval o).run c.P w = .ok (.value v) w' ∧ Φ v w'.heap ∧ Amb w w') (k : ∀ v H', Φ v H' → WL c ops rest ((d, true, v) :: env) H' Q) : WL c ops (o :: rest) env H Q := by
 intro a w hf hw hA
 have hlt' : d < c.n := Nat.le_of_ble_eq_true hlt
 refine wpList_plain hg fun K hK => ?_
 obtain ⟨v, w', hr, hh, hA'⟩ := h a w hf hw
 unfold Oper.wp
 rw [hr]
 simp only [Oper.upon, hd]
 exact hK _ _ (k v _ hh _ w' (hf.put hlt' true v) rfl (hA.trans hA'))
theorem Bx.push (H : Heap) (e : TypeId) (cs : List Value) : Bx (H.push (.cells cs.toArray e (0, 0))) H.size e cs := by
 unfold Bx; simp
theorem WL.alloc {e : TypeId} {z : Value} {zs : List Value} (hg : o.guard = .none) (hd : o.dst = some d) (hlt : Nat.blt d c.n = true) (ho : o.op = .alloc e)
  (hz : ∀ w, (zeroValue e).run c.P w = .ok z w) (hzs : z.cells = zs.toArray)
  (k : ∀ g H', Bx H' g e zs → H.size ≤ g → Keep [] H H' → WL c ops rest ((d, true, .pointer (some ⟨g, 0, none⟩)) :: env) H' Q) : WL c ops (o :: rest) env H Q := by
 refine WL.new (H' := H.push (.cells zs.toArray e (0, 0))) (v := .pointer (some ⟨H.size, 0, none⟩)) hg hd hlt (fun a w hf hw => ?_) (k _ _ (Bx.push _ _ _) (Nat.le_refl _) (Keep.push _ _ _))
 subst hw
 unfold execOp; rw [ho]
 refine ⟨{ w with heap := w.heap.push (.cells zs.toArray e (0, 0)) }, ?_, rfl, Amb.of rfl rfl rfl⟩
 simp [Instr.alloc, hz, newVar, newRow, hzs]
theorem WL.box {e : TypeId} {x : Operand} {v : Value} {cs : List Value} (hg : o.guard = .none) (hd : o.dst = some d) (hlt : Nat.blt d c.n = true) (ho : o.op = .box e x) (hx : Ev env x v) (hcs : v.cells = cs.toArray)
  (k : ∀ g H', Bx H' g e cs → H.size ≤ g → Keep [] H H' → WL c ops rest ((d, true, .pointer (some ⟨g, 0, none⟩)) :: env) H' Q) : WL c ops (o :: rest) env H Q := by
 refine WL.new (H' := H.push (.cells cs.toArray e (0, 0))) (v := .pointer (some ⟨H.size, 0, none⟩)) hg hd hlt (fun a w hf hw => ?_) (k _ _ (Bx.push _ _ _) (Nat.le_refl _) (Keep.push _ _ _))
 subst hw
 unfold execOp; rw [ho]
 refine ⟨{ w with heap := w.heap.push (.cells cs.toArray e (0, 0)) }, ?_, rfl, Amb.of rfl rfl rfl⟩
 simp [Instr.box, hf.eval hx, newVar, newRow, hcs]
theorem setRow_Bx {w : World} {g : Nat} {e : TypeId} {old new : List Value} (h : Bx w.heap g e old) : Bx (w.setRow g new.toArray).heap g e new := setRow_heap w g _ _ _ _ h
theorem setRow_keep (w : World) (g : Nat) (cs : Array Value) : Keep [g] w.heap (w.setRow g cs).heap :=
 ⟨by simp [World.setRow], fun k hk hm => setRow_other w g k cs (by simpa using hm)⟩
theorem WL.store {t e : TypeId} {x y : Operand} {g off : Nat} {v : Value} {vs cs : List Value} (hg : o.guard = .none) (hd : o.dst = .none) (ho : o.op = .store t x y)
  (hx : Ev env x (.pointer (some ⟨g, off, none⟩))) (hy : Ev env y v) (hvs : v.cells = vs.toArray) (hz : ∀ w, (sizeOf t).run c.P w = .ok vs.length w) (hone : ∀ u ∈ vs, u.oneCell' = true)
  (hb : Bx H g e cs) (hfit : off + vs.length ≤ cs.length)
  (k : ∀ H', Bx H' g e (cs.take off ++ vs ++ cs.drop (off + vs.length)) → Keep [g] H H' → WL c ops rest env H' Q) : WL c ops (o :: rest) env H Q := by
 intro a w hf hw hA
 refine wpList_plain hg fun K hK => ?_
 subst hw
 have hs := run_storeCells_at c.P g off e vs 0 cs.toArray w hb (by simpa using hfit) hone
 simp only [Nat.add_zero] at hs
 have hr : (execOp a.eval o).run c.P w = .ok .skip (w.setRow g (cs.take off ++ vs ++ cs.drop (off + vs.length)).toArray) := by
  unfold execOp; rw [ho]
  simp [hf.eval hx, hf.eval hy, Instr.storeAt, Instr.sureAddr, storeVar, hvs, hz, hs]
 unfold Oper.wp
 rw [hr]
 simp only [Oper.upon, hd]
 exact hK _ _ (k _ (setRow_Bx hb) (setRow_keep _ _ _) _ _ hf rfl (hA.trans (Amb.of rfl rfl rfl)))
theorem fold_set (l : List Value) : ∀ (off i : Nat) (cur : Array Value), off + i + l.length ≤ cur.size →
  ((l.zipIdx i).foldl (fun cs (x : Value × Nat) => cs.setIfInBounds (off + x.2) x.1) cur).toList = cur.toList.take (off + i) ++ l ++ cur.toList.drop (off + i + l.length) := by
 induction l with
 | nil => intro off i cur h; simp
 | cons u l ih =>
  intro off i cur h
  simp only [List.zipIdx_cons, List.foldl_cons]
  rw [ih off (i + 1) _ (by simp at h ⊢; omega)]
  simp only [Array.toList_setIfInBounds, List.length_cons]
  have hi : off + i < cur.toList.length := by simp at h ⊢; omega
  rw [show off + (i + 1) = (off + i) + 1 by omega, List.take_succ_eq_append_getElem (by simpa using hi), List.getElem_set_self, List.take_set_of_le (by omega), List.drop_set_of_lt (by omega)]
  simp only [List.append_assoc, List.singleton_append]
  rw [show off + i + 1 + l.length = off + i + (l.length + 1) by omega]
theorem fill_all (size : Nat) : ∀ (vs : List Value) (k : Nat) (cur : Array Value), (∀ v ∈ vs, v.cells.size = size) → (k + vs.length) * size ≤ cur.size →
  Instr.fill (fun i => some (i * size, size)) cur ((vs.zipIdx k).map fun x => (x.2, x.1)) = some (cur.toList.take (k * size) ++ (vs.map fun v => v.cells.toList).flatten ++ cur.toList.drop ((k + vs.length) * size)).toArray
 | [], k, cur, _, _ => by simp [Instr.fill]
 | v :: vs, k, cur, hv, hle => by
  have h1 : v.cells.size = size := hv v (by simp)
  have hks : k * size + size ≤ cur.size := by
   refine Nat.le_trans ?_ hle
   rw [← Nat.succ_mul]
   exact Nat.mul_le_mul_right _ (by simp)
  simp only [List.zipIdx_cons, List.map_cons, Instr.fill]
  rw [if_neg (by simp [h1]; omega)]
  have hfold := fold_set v.cells.toList (k * size) 0 cur (by simp [h1]; omega)
  have hz : v.cells.zipIdx.foldl (fun cs (x : Value × Nat) => cs.setIfInBounds (k * size + x.2) x.1) cur = ((v.cells.toList.zipIdx 0).foldl (fun cs (x : Value × Nat) => cs.setIfInBounds (k * size + x.2) x.1) cur) := by
   rw [← Array.foldl_toList]; simp
  have hsz : (v.cells.zipIdx.foldl (fun cs (x : Value × Nat) => cs.setIfInBounds (k * size + x.2) x.1) cur).size = cur.size := by
   rw [hz]
   have := congrArg List.length hfold
   simp [h1] at this
   omega
  rw [fill_all size vs (k + 1) _ (fun u hu => hv u (by simp [hu])) (by rw [hsz]; refine Nat.le_trans (Nat.le_of_eq ?_) hle; simp; congr 1; omega)]
  rw [hz, hfold]
  simp only [Nat.add_zero, List.length_cons, List.flatten_cons, Array.length_toList, h1]
  have hl : (List.take (k * size) cur.toList).length = k * size := by simp; omega
  have e1 : (k + 1) * size = (List.take (k * size) cur.toList ++ v.cells.toList).length := by rw [List.length_append, hl]; simp [h1, Nat.succ_mul]
  have e2 : (k + 1 + vs.length) * size = (k + (vs.length + 1)) * size := by congr 1; omega
  rw [e2, e1, List.take_left, List.drop_append]
  have e3 : (List.take (k * size) cur.toList ++ v.cells.toList).length = k * size + size := by rw [← e1, Nat.succ_mul]
  rw [e3]
  have e4 : (k + (vs.length + 1)) * size = k * size + size + vs.length * size := by
   rw [show k + (vs.length + 1) = k + 1 + vs.length by omega, Nat.add_mul, Nat.succ_mul]
  rw [e4, List.drop_eq_nil_of_le (by rw [e3]; omega), List.nil_append, List.drop_drop, show k * size + size + vs.length * size - (k * size + size) = vs.length * size by omega]
  simp [List.append_assoc]
theorem Evs.length {xs : List Operand} {vs : List Value} (h : Evs env xs vs) : vs.length = xs.length := by
 induction h with
 | nil => rfl
 | cons _ _ ih => simp [ih]
theorem WL.buildSlice {t e : TypeId} {n size : Nat} {xs : List Operand} {vs css : List Value} {z : Value} (hg : o.guard = .none) (hd : o.dst = some d) (hlt : Nat.blt d c.n = true)
  (ho : o.op = .buildSlice t n ((xs.zipIdx).map fun x => (x.2, x.1)).toArray) (ht : c.P.underlying t = some (.slice e)) (hz : ∀ w, (sizeOf e).run c.P w = .ok size w) (hzero : ∀ w, (zeroValue e).run c.P w = .ok z w) 
  (hx : Evs env xs vs) (hn : xs.length = n) (hsm : n * size ≤ 16777216) (hv : ∀ v ∈ vs, v.cells.size = size) (hcs : (vs.map fun v => v.cells.toList).flatten = css)
  (k : ∀ g H', Bx H' g e css → H.size ≤ g → Keep [] H H' → WL c ops rest ((d, true, .slice (some ⟨g, 0, none⟩) n n) :: env) H' Q) : WL c ops (o :: rest) env H Q := by
 have hl : vs.length = n := by rw [← hn, hx.length]
 refine WL.new (H' := H.push (.cells css.toArray e (0, 0))) (v := .slice (some ⟨H.size, 0, none⟩) n n) hg hd hlt (fun a w hf hw => ?_) (k _ _ (Bx.push _ _ _) (Nat.le_refl _) (Keep.push _ _ _))
 subst hw
 have hev := hx.eval hf
 have hmap : (((xs.zipIdx).map fun x => (x.2, x.1)).map fun x : Nat × Operand => match x with | (i, x) => (i, a.eval x)) = (vs.zipIdx 0).map fun x => (x.2, x.1) := by
  rw [← hev, List.zipIdx_map]
  simp only [List.map_map]
  rfl
 have hfill := fun (cur : Array Value) (hc : cur.size = n * size) => fill_all size vs 0 cur hv (by rw [hc]; simp [hl])
 refine ⟨{ w with heap := w.heap.push (.cells css.toArray e (0, 0)) }, ?_, rfl, Amb.of rfl rfl rfl⟩
 have hbig : ¬ 16777216 < n * size := by omega
 unfold execOp; rw [ho]
 simp only [List.map_toArray, hmap]
 by_cases h0 : n * size = 0
 ·have := hfill (Array.map (fun _ => default) (Array.range 0)) (by simp [h0])
  simp [Instr.buildSlice, run_underlying ht, hz, h0, newRow]
  rw [this]
  have e0 : (Array.map (fun _ => (default : Value)) (Array.range 0)).toList = [] := by rw [Array.range_zero']; simp
  simp only [e0, List.take_nil, List.drop_nil, List.nil_append, List.append_nil, hcs]
  rfl
 ·have := hfill ((Array.range (n * size)).map (fun x => z.cells[x % z.cells.size]!)) (by simp)
  simp [Instr.buildSlice, run_underlying ht, hz, hbig, h0, hzero, newRow]
  simp at this
  rw [this]
  simp only [hl]
  rw [List.drop_eq_nil_of_le (by simp), List.append_nil, hcs]
  rfl
def Src (P : Program) (H : Heap) (size : Nat) (x : Value) (m : Nat) (news : List Value) : Prop :=
 ∀ w : World, w.heap = H → (Builtin.lenOf x).run P w = .ok m w ∧ (Builtin.firstCells size m x).run P w = .ok news.toArray w
theorem Src.sl {α : Type} {T : Ty α} {P : Program} {M : List Nat} {x : Value} {xs : List α} (h : Sl T H M x xs) : ∃ news, Src P H T.size x xs.length news ∧ Elems T H M news xs := by
 rcases h with ⟨p, rfl, rfl⟩ | ⟨b, off, cap, rfl, hb, hm, h1, h2, h3, h4⟩
 ·refine ⟨[], fun w _ => ⟨by simp [Builtin.lenOf], ?_⟩, .nil⟩
  cases p with
  | none => simp [Builtin.firstCells]
  | some a =>
   have := run_loadCells_list (P := P) (w := w) a [] (by simp)
   simpa [Builtin.firstCells] using this
 ·obtain ⟨css, he, hc⟩ := Sl.flat_aux xs off h4
  refine ⟨css, fun w hw => ⟨by simp [Builtin.lenOf], ?_⟩, he⟩
  exact run_firstCells_some w T.size xs.length ⟨b, off, none⟩ _ cap css he.length (fun j v hj => by rw [Addr.add_lit, cell?_of hw]; exact hc j v hj)
theorem Src.bx {P : Program} {g m cp size : Nat} {e : TypeId} {cs : List Value} (h : Bx H g e cs) (hl : cs.length = m * size) : Src P H size (.slice (some ⟨g, 0, none⟩) m cp) m cs := fun w hw => by
 refine ⟨by simp [Builtin.lenOf], ?_⟩
 exact run_firstCells_some w size m ⟨g, 0, none⟩ _ cp cs hl (fun j v hj => by rw [Addr.add_lit, cell?_of hw, Nat.zero_add, h.cell]; exact hj)
theorem Src.str {P : Program} (l : List UInt8) : Src P H 1 (str l) l.length (l.map bv) := fun w _ => by
 refine ⟨by simp [Builtin.lenOf, NB.str]; rfl, ?_⟩
 simp only [Builtin.firstCells, NB.str]
 have e : (ByteArray.extract ⟨l.toArray⟩ 0 l.length).data = l.toArray := by
  simp [ByteArray.data_extract]
 simp
 intro b _
 rfl
theorem Row.src {P : Program} {e : TypeId} {size : Nat} {v : Value} {n : Nat} {cs : List Value} (h : Row H e size v n cs) : Src P H size v n cs := fun w hw => by
 rcases h.2 with ⟨rfl, rfl⟩ | ⟨g, cap, cur, rfl, hg, h1, h2, h3, h4⟩
 ·have : cs = [] := List.eq_nil_of_length_eq_zero (by simpa using h.1)
  subst this
  exact ⟨by simp [Builtin.lenOf], by simp [Builtin.firstCells]⟩
 ·refine ⟨by simp [Builtin.lenOf], ?_⟩
  refine run_firstCells_some w size n ⟨g, 0, none⟩ _ cap cs h.1 (fun j v hj => ?_)
  rw [Addr.add_lit, cell?_of hw, Nat.zero_add]
  unfold NB.cell
  rw [hg]
  rw [← h4, List.getElem?_take] at hj
  split at hj
  ·simpa using hj
  ·cases hj
theorem WL.append {t t2 e : TypeId} {i : TypeInfo} {z v x : Value} {s y : Operand} {size n m : Nat} {cs news : List Value} {dx : TypeDesc} (hg : o.guard = .none) (hd : o.dst = some d) (hlt : Nat.blt d c.n = true)
  (ho : o.op = .call { callee := .builtin .append, args := #[s, y], argTypes := #[t, t2] }) (ht : c.P.underlying t = some (.slice e)) (ht2 : c.P.underlying t2 = some dx) (hnx : ∀ k, dx ≠ .int k)
  (hi : ∀ w, (typeInfo e).run c.P w = .ok i w) (hsz : i.size = size) (hz : i.zero = some z) (hzs : z.cells.size = size)
  (hs : Ev env s v) (hy : Ev env y x) (hr : Row H e size v n cs) (hsrc : Src c.P H size x m news) (hone : ∀ u ∈ news, u.oneCell' = true) (hnl : news.length = m * size) (hfit : (n + m) * i.bytes ≤ 140737488355328) (hml : n + m ≤ 9223372036854775807)
  (k : ∀ v' H', Row H' e size v' (n + m) (cs ++ news) → Keep (ob v) H H' → (∀ b ∈ ob v', b ∈ ob v ∨ H.size ≤ b) → WL c ops rest ((d, true, v') :: env) H' Q) : WL c ops (o :: rest) env H Q := by
 refine WL.newAny (Φ := fun v' H' => Row H' e size v' (n + m) (cs ++ news) ∧ Keep (ob v) H H' ∧ (∀ b ∈ ob v', b ∈ ob v ∨ H.size ≤ b)) hg hd hlt (fun a w hf hw => ?_) (fun v' H' h => k v' H' h.1 h.2.1 h.2.2)
 have hlen : (cs ++ news).length = (n + m) * size := by rw [List.length_append, hr.1, hnl, Nat.add_mul]
 have hsizeOf : ∀ w, (sizeOf e).run c.P w = .ok size w := fun w => by simp [sizeOf, hi, hsz]
 have hzero : ∀ w, (zeroValue e).run c.P w = .ok z w := fun w => by simp [zeroValue, hi, hz]
 obtain ⟨hs1, hs2⟩ := hsrc w hw
 have hmx : n + m ≤ maxLen := hml
 -- a new row
 have grow : ∀ (p : Option Addr) (cp : Nat), v = .slice p n cp → cp < n + m → ∃ v' w', (execOp a.eval o).run c.P w = .ok (.value v') w' ∧ (Row w'.heap e size v' (n + m) (cs ++ news) ∧ Keep (ob v) H w'.heap ∧ (∀ b ∈ ob v', b ∈ ob v ∨ H.size ≤ b)) ∧ Amb w w' := by
  intro p cp hv hcp
  have hge := grownCap_ge w (n + m) cp e
  have hcm : grownCap w (n + m) cp e ≤ maxLen := grownCap_le_maxLen w (n + m) cp e hmx
  have hfits := growslice_fits hcp hfit
  have hold : ∀ w' : World, w'.heap = H → (Builtin.firstCells size n (.slice p n cp)).run c.P w' = .ok cs.toArray w' := fun w' hw' => by rw [← hv]; exact (Row.src (P := c.P) hr w' hw').2
  refine ⟨.slice (some ⟨w.heap.size, 0, none⟩) (n + m) (grownCap w (n + m) cp e), w.drew.alloc (.cells (cs.toArray ++ news.toArray ++ Builtin.zeroCells z.cells (grownCap w (n + m) cp e - (n + m))) e), ?_, ⟨⟨hlen, .inr ⟨w.heap.size, _, _, rfl, heap_alloc_new w.drew _, hge, hcm, ?_, ?_⟩⟩, ?_, ?_⟩, Amb.of rfl rfl rfl⟩
  ·have h1 := hold w.drew hw
   have h2 := (hsrc w.drew hw).2
   unfold execOp; rw [ho]
   have hnle : ¬ n + m ≤ cp := by omega
   have hn63 : ¬ ((9223372036854775807 : Int) < (n : Int) + (m : Int)) := by omega
   have hnf : ¬ 281474976710656 < Builtin.nextslicecap (n + m) cp * i.bytes := by omega
   simp [resolve, invoke, builtin, hf.eval hs, hf.eval hy, hv, Builtin.append_, run_underlying ht, run_underlying ht2, hsizeOf, hs1, hnle, hi, hn63, hnf, hzero, newRow]
   have hch : Question.forced (.appendCap (n + m) cp e) = false := rfl
   simp [hch]
   rw [h1]
   simp [h2]
   refine ⟨rfl, ?_⟩
   have e2 : (cs ++ news).toArray = cs.toArray ++ news.toArray := by simp
   rw [e2, Array.append_assoc]
   rfl
  ·simp only [Array.size_append, List.size_toArray, size_zeroCells, hzs, hr.1, hnl, ← Nat.add_mul]
   congr 1
   omega
  ·simp only [Array.toList_append, List.append_assoc]
   rw [← List.append_assoc, ← hlen]
   exact List.take_left
  ·rw [← hw]
   exact (Keep.push [] w.heap _).nil
  ·intro b hb
   simp [ob] at hb
   subst hb
   rw [hw]
   exact .inr (Nat.le_refl _)
 rcases hr.2 with ⟨hv, hn⟩ | ⟨g, cap, cur, hv, hg', h1, h2, h3, h4⟩
 ·by_cases hm : m = 0
  ·have hcs : cs = [] := List.eq_nil_of_length_eq_zero (by rw [hr.1, hn]; simp)
   have hnews : news = [] := List.eq_nil_of_length_eq_zero (by rw [hnl, hm]; simp)
   subst hn hm hcs hnews hv
   refine ⟨.slice none 0 0, w, ?_, ⟨by rw [hw]; exact Row.nil _ _ _, by rw [hw]; exact Keep.refl _ _, fun b hb => by simp [ob] at hb⟩, Amb.refl _⟩
   unfold execOp; rw [ho]
   simp [resolve, invoke, builtin, hf.eval hs, hf.eval hy, Builtin.append_, run_underlying ht, run_underlying ht2, hsizeOf, hs1, hs2]
  ·subst hn
   exact grow none 0 hv (by omega)
 ·by_cases hroom : n + m ≤ cap
  ·have hst := run_storeCells_at c.P g (n * size) e news 0 cur w (by rw [hw]; exact hg') (by rw [h3, hnl, Nat.add_zero, ← Nat.add_mul]; exact Nat.mul_le_mul_right _ hroom) hone
   simp only [Nat.add_zero] at hst
   refine ⟨.slice (some ⟨g, 0, none⟩) (n + m) cap, w.setRow g (cur.toList.take (n * size) ++ news ++ cur.toList.drop (n * size + news.length)).toArray, ?_, ⟨⟨hlen, .inr ⟨g, cap, _, rfl, setRow_heap w g cur _ e _ (by rw [hw]; exact hg'), hroom, h2, ?_, ?_⟩⟩, ?_, ?_⟩, Amb.of rfl rfl rfl⟩
   ·unfold execOp; rw [ho]
    simp [resolve, invoke, builtin, hf.eval hs, hf.eval hy, hv, Builtin.append_, run_underlying ht, run_underlying ht2, hsizeOf, hs1, hs2, hroom, Addr.add_lit, hst]
   ·have : n * size + m * size ≤ cap * size := by rw [← Nat.add_mul]; exact Nat.mul_le_mul_right _ hroom
    simp only [List.size_toArray, List.length_append, List.length_take, List.length_drop, Array.length_toList]
    omega
   ·rw [h4, ← hlen]
    exact List.take_left
   ·rw [← hw, hv]
    exact setRow_keep w g _
   ·intro b hb
    rw [hv]
    exact .inl hb
  ·exact grow _ cap hv (by omega)
theorem WL.make {t e : TypeId} {i : TypeInfo} {z : Value} {x y : Operand} {size n : Nat} {zs : List Value} {p q : Int} (hg : o.guard = .none) (hd : o.dst = some d) (hlt : Nat.blt d c.n = true)
  (ho : o.op = .makeSlice t x y) (ht : c.P.underlying t = some (.slice e)) (hi : ∀ w, (typeInfo e).run c.P w = .ok i w) (hsz : i.size = size) (hz : i.zero = some z) (hzs : z.cells = zs.toArray) (hzl : zs.length = size) (hpos : 0 < size)
  (hx : Ev env x (iv p)) (hy : Ev env y (iv q)) (hp : p = (n : Int)) (hq : q = (n : Int)) (hfit : (n : Int) * i.bytes ≤ 140737488355328) (hb : 0 < i.bytes)
  (k : ∀ v H', Row H' e size v n (List.replicate n zs).flatten → Keep [] H H' → (∀ b ∈ ob v, H.size ≤ b) → (∃ g, v = .slice (some ⟨g, 0, none⟩) n n) → WL c ops rest ((d, true, v) :: env) H' Q) : WL c ops (o :: rest) env H Q := by
 subst hp hq
 have hlarge : (n : Int) ≤ 140737488355328 := by
  have : (n : Int) * 1 ≤ (n : Int) * i.bytes := Int.mul_le_mul_of_nonneg_left (by omega) (by omega)
  omega
 have hflat : ∀ n : Nat, ((Array.range (n * size)).map (fun j => z.cells[j % z.cells.size]!)).toList = (List.replicate n zs).flatten := by
  intro n
  refine List.ext_getElem? fun j => ?_
  by_cases hj : j < n * size
  ·have hm : j % size < zs.length := by rw [hzl]; exact Nat.mod_lt _ hpos
   have : ((List.replicate n zs).flatten)[j]? = some (zs[j % size]) := by
    have key : ∀ (n j : Nat) (h : j < n * size), ((List.replicate n zs).flatten)[j]? = zs[j % size]? := by
     intro n
     induction n with
     | zero => intro j h; simp at h
     | succ n ih =>
      intro j h
      rw [List.replicate_succ, List.flatten_cons]
      by_cases hjl : j < zs.length
      ·rw [List.getElem?_append_left hjl, Nat.mod_eq_of_lt (by omega)]
      ·rw [List.getElem?_append_right (by omega), hzl, ih _ (by rw [Nat.succ_mul] at h; omega)]
       congr 1
       rw [Nat.mod_eq_sub_mod (show j ≥ size by omega)]
    rw [key n j hj, List.getElem?_eq_getElem hm]
   rw [this]
   simp [hj, hzs, hzl]
   rw [List.getElem?_eq_getElem hm]
   rfl
  ·rw [List.getElem?_eq_none (by simp; omega), List.getElem?_eq_none (by simp [hzl]; omega)]
 refine WL.new (H' := H.push (.cells (List.replicate n zs).flatten.toArray e (0, 0))) (v := .slice (some ⟨H.size, 0, none⟩) n n) hg hd hlt (fun a w hf hw => ?_)
  (k _ _ ⟨by simp [hzl], .inr ⟨H.size, n, (List.replicate n zs).flatten.toArray, rfl, by simp, Nat.le_refl _, by unfold maxLen; omega, by simp [hzl], List.take_of_length_le (by simp [hzl])⟩⟩ (Keep.push _ _ _) (fun b hb => by simp [ob] at hb; omega) ⟨_, rfl⟩)
 subst hw
 have hsizeOf : ∀ w, (sizeOf e).run c.P w = .ok size w := fun w => by simp [sizeOf, hi, hsz]
 have hzero : ∀ w, (zeroValue e).run c.P w = .ok z w := fun w => by simp [zeroValue, hi, hz]
 refine ⟨{ w with heap := w.heap.push (.cells (List.replicate n zs).flatten.toArray e (0, 0)) }, ?_, rfl, Amb.of rfl rfl rfl⟩
 have hwrap : IntKind.i64.wrap (n : Int) = n := IntWalk.i64_in _ (by omega)
 have h1 : ¬ (n : Int) < 0 := by omega
 have h2 : ¬ (281474976710656 : Int) < i.bytes * n := by rw [Int.mul_comm]; omega
 unfold execOp; rw [ho]
 by_cases h0 : n * size = 0
 ·have hn0 : n = 0 := by rcases Nat.mul_eq_zero.1 h0 with h | h <;> omega
  have h0' : (0 : Int) < 9223372036854775808 := by omega
  have hw0 : IntKind.i64.wrap 0 = 0 := IntWalk.i64_in _ (by omega)
  subst hn0
  simp [iv, hf.eval hx, hf.eval hy, Instr.makeSlice, run_underlying ht, asInt, asIntOf, hi, hw0, hsizeOf, newRow]
  rw [Array.range_zero']
  simp
 ·have := hflat n
  simp [iv, hf.eval hx, hf.eval hy, Instr.makeSlice, run_underlying ht, asInt, asIntOf, hi, hwrap, h1, h2, hsizeOf, h0, hzero, newRow]
  rw [← this, Array.toArray_toList]
end
end Go.NB
end
