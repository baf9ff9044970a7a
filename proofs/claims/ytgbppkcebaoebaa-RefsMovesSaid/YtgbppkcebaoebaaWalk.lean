/- THE ENGINE, part 4: how a walk takes an operation: in a plain region (WL), in one that draws its order (QL); calls; functions. -/
import Derived.Test.YtgbppkcebaoebaaOps
import Derived.KernelRfl
namespace Go.NB

/-! ### Calls -/

/-- what a call comes to -/
def UponCall (P : Program) (w : World) (R : Value → Heap → Prop) : Result Next → Prop
  | .ok (.value v) w' => w' = w ∧ R v w.heap
  | .ok (.enter f args) w' => w' = w ∧ Calls P f args w fun e w' => ∃ v, e = .returned v ∧ R v w'.heap ∧ Amb w w'
  | _ => False

/-- function f, called in whatever world with the heap H, returns, and R holds of what it returns and of the heap then -/
def CallsH (P : Program) (f : FuncId) (args : Array Value) (H : Heap) (R : Value → Heap → Prop) : Prop :=
  ∀ w : World, w.heap = H → UponCall P w R ((callFunc f args).run P w)

theorem CallsH.mono {P : Program} {f : FuncId} {args : Array Value} {H : Heap} {R R' : Value → Heap → Prop} (h : CallsH P f args H R) (hr : ∀ v H', R v H' → R' v H') : CallsH P f args H R' := by
  intro w hw
  have := h w hw
  unfold UponCall at *
  split at this
  · exact ⟨this.1, hr _ _ this.2⟩
  · exact ⟨this.1, this.2.mono fun e w' ⟨v, h1, h2, h3⟩ => ⟨v, h1, hr _ _ h2, h3⟩⟩
  · exact this.elim

def argEnv : Nat → List Value → Env
  | _, [] => []
  | i, v :: r => (i, true, v) :: argEnv (i + 1) r

theorem look_argEnv : ∀ (l : List Value) (i t : Nat) (g : Bool) (v : Value), look (argEnv i l) t = some (g, v) → g = true ∧ i ≤ t ∧ l[t - i]? = some v
  | [], _, _, _, _, h => by cases h
  | u :: r, i, t, g, v, h => by
    unfold argEnv look at h
    by_cases hb : Nat.beq i t = true
    · rw [hb] at h
      simp at h
      obtain ⟨rfl, rfl⟩ := h
      have := Nat.eq_of_beq_eq_true hb
      subst this
      simp
    · rw [Bool.not_eq_true] at hb
      rw [hb] at h
      have hne : i ≠ t := fun e => by subst e; simp at hb
      obtain ⟨h1, h2, h3⟩ := look_argEnv r (i + 1) t g v h
      refine ⟨h1, by omega, ?_⟩
      rw [show t - i = (t - (i + 1)) + 1 by omega]
      simpa using h3

/-- the ends of a function -/
def Ret (c : Cx) (fn : Func) (R : Value → Heap → Prop) (Q : Exit → Act → World → Prop) : Prop :=
  ∀ e a w v, (e = .ret ∨ e = .normal) → a.defers = [] → (results fn a.tmps).run c.P w = .ok v w → R v w.heap → Amb c.W0 w → Q e a w

theorem enter {P : Program} {f : FuncId} {fn : Func} {code : Code} {args : List Value} {H : Heap} {R : Value → Heap → Prop} {n : Nat}
    (hc : ∀ args w, (callFunc f args).run P w = .ok (.enter f args) w) (hf : P.funcs[f]? = some fn) (hb : fn.body = some code) (hn : fn.ntmps = n) (hl : args.length ≤ n)
    (h : ∀ W0 Q, Ret ⟨P, n, [], W0⟩ fn R Q → WC ⟨P, n, [], W0⟩ code (argEnv 0 args) H Q) : CallsH P f args.toArray H R := by
  intro w hw
  rw [hc]
  refine ⟨rfl, calls_of_wp hf hb ?_⟩
  refine h w _ (fun e a w' v he hd hr hR hA => ?_) _ w ⟨?_, rfl, fun t g v hl => ?_⟩ hw (Amb.refl _)
  · rcases he with rfl | rfl <;> exact ⟨hd, v, hr, v, rfl, hR, hA⟩
  · simp [hn]; omega
  · obtain ⟨rfl, _, h2⟩ := look_argEnv _ _ _ _ _ hl
    rw [Nat.sub_zero] at h2
    obtain ⟨hlt, e⟩ := List.getElem?_eq_some_iff.1 h2
    simp [Array.getD_eq_getD_getElem?, Array.getElem?_append, hlt, e]

section
variable {c : Cx} {env : Env} {H : Heap} {Q : Exit → Act → World → Prop} {fn : Func} {R : Value → Heap → Prop}

theorem ret0 (hQ : Ret c fn R Q) (hr : fn.results = #[]) (hd : c.ds = []) (hR : R (.tuple #[]) H) : NX c env H (Q .ret) := fun a w hf hw hA =>
  hQ _ _ _ (.tuple #[]) (.inl rfl) (hf.defers.trans hd) (by simp [results, hr]) (by rw [hw]; exact hR) hA
theorem end0 (hQ : Ret c fn R Q) (hr : fn.results = #[]) (hd : c.ds = []) (hR : R (.tuple #[]) H) : NX c env H (Q .normal) := fun a w hf hw hA =>
  hQ _ _ _ (.tuple #[]) (.inr rfl) (hf.defers.trans hd) (by simp [results, hr]) (by rw [hw]; exact hR) hA
theorem ret1 {t : Nat} {v : Value} (hQ : Ret c fn R Q) (hr : fn.results = #[.tmp t]) (hd : c.ds = []) (hx : Ev env (.tmp t) v) (hR : R v H) : NX c env H (Q .ret) := fun a w hf hw hA => by
  have := hf.eval hx
  simp only [Act.eval, Array.getD_eq_getD_getElem?] at this
  exact hQ _ _ _ v (.inl rfl) (hf.defers.trans hd) (by simp [results, hr, this]) (by rw [hw]; exact hR) hA
theorem ret2 {t s : Nat} {v u : Value} (hQ : Ret c fn R Q) (hr : fn.results = #[.tmp t, .tmp s]) (hd : c.ds = []) (hx : Ev env (.tmp t) v) (hy : Ev env (.tmp s) u) (hR : R (.tuple #[v, u]) H) : NX c env H (Q .ret) := fun a w hf hw hA => by
  have h1 := hf.eval hx
  have h2 := hf.eval hy
  simp only [Act.eval, Array.getD_eq_getD_getElem?] at h1 h2
  exact hQ _ _ _ (.tuple #[v, u]) (.inl rfl) (hf.defers.trans hd) (by simp [results, hr, h1, h2]) (by rw [hw]; exact hR) hA
theorem ret3 {t s r : Nat} {v u z : Value} (hQ : Ret c fn R Q) (hr : fn.results = #[.tmp t, .tmp s, .tmp r]) (hd : c.ds = []) (hx : Ev env (.tmp t) v) (hy : Ev env (.tmp s) u) (hz : Ev env (.tmp r) z) (hR : R (.tuple #[v, u, z]) H) : NX c env H (Q .ret) := fun a w hf hw hA => by
  have h1 := hf.eval hx
  have h2 := hf.eval hy
  have h3 := hf.eval hz
  simp only [Act.eval, Array.getD_eq_getD_getElem?] at h1 h2 h3
  exact hQ _ _ _ (.tuple #[v, u, z]) (.inl rfl) (hf.defers.trans hd) (by simp [results, hr, h1, h2, h3]) (by rw [hw]; exact hR) hA

/-! ### Guards -/

/-- the operation is carried out just if g -/
def Gd (c : Cx) (ops : Array Oper) (o : Oper) (env : Env) (g : Bool) : Prop := ∀ a, Fr c env a → Region.wanted o (yielded ops a.tmps) = g

theorem Gd.none {ops : Array Oper} {o : Oper} (h : o.guard = .none) : Gd c ops o env true := fun a _ => by simp [Region.wanted, h]

theorem yielded_of {ops : Array Oper} {j t : Nat} {g b : Bool} {a : Act} (hf : Fr c env a) (hj : (ops[j]?).bind (·.dst) = some t) (ht : Nat.blt t c.n = true) (hl : look env t = some (g, .bool b)) :
    yielded ops a.tmps j = bif g then some b else .none := by
  have hs := hf.slot t g _ hl
  have hlt : t < a.tmps.size := by rw [hf.size]; exact Nat.le_of_ble_eq_true ht
  have e : a.tmps[t]? = some (bif g then .bool b else undef) := by
    rw [Array.getElem?_eq_getElem hlt]
    rw [Array.getD_eq_getD_getElem?, Array.getElem?_eq_getElem hlt] at hs
    simpa using hs
  unfold yielded
  rw [hj]
  show (match a.tmps[t]? with | some (.bool b) => some b | _ => .none) = _
  rw [e]
  cases g <;> rfl

theorem Gd.yes {ops : Array Oper} {o : Oper} {j t : Nat} {g b : Bool} (h : o.guard = some (j, true)) (hj : (ops[j]?).bind (·.dst) = some t) (ht : Nat.blt t c.n = true) (hl : look env t = some (g, .bool b)) : Gd c ops o env (g && b) := fun a hf => by
  simp only [Region.wanted, h, yielded_of hf hj ht hl]
  cases g <;> cases b <;> rfl
theorem Gd.no {ops : Array Oper} {o : Oper} {j t : Nat} {g b : Bool} (h : o.guard = some (j, false)) (hj : (ops[j]?).bind (·.dst) = some t) (ht : Nat.blt t c.n = true) (hl : look env t = some (g, .bool b)) : Gd c ops o env (g && !b) := fun a hf => by
  simp only [Region.wanted, h, yielded_of hf hj ht hl]
  cases g <;> cases b <;> rfl
theorem Gd.yes1 {ops : Array Oper} {o : Oper} {j t : Nat} {b : Bool} (h : o.guard = some (j, true)) (hj : (ops[j]?).bind (·.dst) = some t) (ht : Nat.blt t c.n = true) (hl : look env t = some (true, .bool b)) : Gd c ops o env b := Gd.yes h hj ht hl
theorem Gd.no1 {ops : Array Oper} {o : Oper} {j t : Nat} {b : Bool} (h : o.guard = some (j, false)) (hj : (ops[j]?).bind (·.dst) = some t) (ht : Nat.blt t c.n = true) (hl : look env t = some (true, .bool b)) : Gd c ops o env (!b) := Gd.no h hj ht hl

/-! ### Plain regions -/
section wl
variable {ops : Array Oper} {o : Oper} {rest : List Oper} {d : Nat}

theorem WL.gdet {g : Bool} {v : Value} (hg : Gd c ops o env g) (hd : o.dst = some d) (hlt : Nat.blt d c.n = true) (h : g = true → ValC c o env (Is H) v) (k : WL c ops rest ((d, g, v) :: env) H Q) : WL c ops (o :: rest) env H Q := by
  intro a w hf hw hA
  have hlt' : d < c.n := Nat.le_of_ble_eq_true hlt
  have hp := hf.put hlt' g v
  refine wpList_step fun K hK => ?_
  rw [hg a hf]
  cases g with
  | true =>
    rw [if_pos rfl]
    have := h rfl a w hf hw hA
    unfold Oper.wp
    rw [this]
    simp only [Oper.upon, hd]
    exact hK _ _ (k _ w hp hw hA)
  | false =>
    rw [if_neg (by simp), hd]
    exact hK _ _ (k _ w hp hw hA)
theorem WL.det {v : Value} (hg : o.guard = .none) (hd : o.dst = some d) (hlt : Nat.blt d c.n = true) (h : ValC c o env (Is H) v) (k : WL c ops rest ((d, true, v) :: env) H Q) : WL c ops (o :: rest) env H Q :=
  WL.gdet (Gd.none hg) hd hlt (fun _ => h) k
theorem WL.ex {Φ : Value → Prop} (hg : o.guard = .none) (hd : o.dst = some d) (hlt : Nat.blt d c.n = true) (h : ∃ v, ValC c o env (Is H) v ∧ Φ v) (k : ∀ v, Φ v → WL c ops rest ((d, true, v) :: env) H Q) : WL c ops (o :: rest) env H Q :=
  let ⟨v, h1, h2⟩ := h; WL.det hg hd hlt h1 (k v h2)
theorem WL.gex {g : Bool} {Φ : Value → Prop} (hg : Gd c ops o env g) (hd : o.dst = some d) (hlt : Nat.blt d c.n = true) (h : g = true → ∃ v, ValC c o env (Is H) v ∧ Φ v) (k : ∀ v, (g = true → Φ v) → WL c ops rest ((d, g, v) :: env) H Q) : WL c ops (o :: rest) env H Q := by
  by_cases e : g = true
  · obtain ⟨v, h1, h2⟩ := h e
    exact WL.gdet hg hd hlt (fun _ => h1) (k v fun _ => h2)
  · exact WL.gdet (v := undef) hg hd hlt (fun h => (e h).elim) (k undef fun h => (e h).elim)

inductive Evs (env : Env) : List Operand → List Value → Prop
  | nil : Evs env [] []
  | cons {x v xs vs} : Ev env x v → Evs env xs vs → Evs env (x :: xs) (v :: vs)

theorem Evs.eval {xs : List Operand} {vs : List Value} (h : Evs env xs vs) {a : Act} (hf : Fr c env a) : xs.map a.eval = vs := by
  induction h with
  | nil => rfl
  | cons h1 _ ih => simp [hf.eval h1, ih]

theorem exec_call {o : Oper} {a : Act} {f : FuncId} {fx : Operand} {first caps : List Value} {as : List Operand} {tys : Array TypeId} {vs : List Value} (ho : o.op = .call { callee := .value fx, args := as.toArray, argTypes := tys })
    (hfx : a.eval fx = .func (.func f) first.toArray caps.toArray) (hvs : as.map a.eval = vs) : execOp a.eval o = callFunc f ((first ++ vs) ++ caps).toArray := by
  unfold execOp
  rw [ho]
  simp only [resolve, List.map_toArray, hvs, hfx, Deferred.ofValue]
  show callFunc f ((first.toArray ++ vs.toArray) ++ caps.toArray) = _
  simp

theorem WL.callC {f : FuncId} {fx : Operand} {first caps : List Value} {as : List Operand} {tys : Array TypeId} {vs : List Value} {R : Value → Heap → Prop} (hg : o.guard = .none) (hd : o.dst = some d) (hlt : Nat.blt d c.n = true)
    (ho : o.op = .call { callee := .value fx, args := as.toArray, argTypes := tys }) (hfx : Ev env fx (.func (.func f) first.toArray caps.toArray)) (hvs : Evs env as vs) (hc : CallsH c.P f ((first ++ vs) ++ caps).toArray H R)
    (k : ∀ v H', R v H' → WL c ops rest ((d, true, v) :: env) H' Q) : WL c ops (o :: rest) env H Q := by
  intro a w hf hw hA
  have hlt' : d < c.n := Nat.le_of_ble_eq_true hlt
  refine wpList_plain hg fun K hK => ?_
  have he := exec_call ho (hf.eval hfx) (hvs.eval hf)
  unfold Oper.wp
  rw [he]
  have := hc w hw
  unfold UponCall at this
  split at this
  · rename_i v w' hr
    rw [hr]
    obtain ⟨rfl, hR⟩ := this
    simp only [Oper.upon, hd]
    exact hK _ _ (k v _ hR _ _ (hf.put hlt' true v) rfl hA)
  · rename_i f' args' w' hr
    rw [hr]
    obtain ⟨rfl, hR⟩ := this
    simp only [Oper.upon, hd]
    refine hR.mono fun e w'' ⟨v, h1, h2, h3⟩ => ?_
    subst h1
    exact hK _ _ (k v _ h2 _ _ (hf.put hlt' true v) rfl (hA.trans h3))
  · exact this.elim

theorem WL.call {f : FuncId} {as : List Operand} {tys : Array TypeId} {vs : List Value} {R : Value → Heap → Prop} (hg : o.guard = .none) (hd : o.dst = some d) (hlt : Nat.blt d c.n = true)
    (ho : o.op = .call { callee := .value (.func f), args := as.toArray, argTypes := tys }) (hvs : Evs env as vs) (hc : CallsH c.P f vs.toArray H R)
    (k : ∀ v H', R v H' → WL c ops rest ((d, true, v) :: env) H' Q) : WL c ops (o :: rest) env H Q :=
  WL.callC (first := []) (caps := []) hg hd hlt ho ⟨_, rfl, rfl⟩ hvs (by simpa using hc) k

/-- a call that may not be made, of a function whose answer is known and which writes nothing that is there -/
theorem WL.gcall {g : Bool} {f : FuncId} {as : List Operand} {tys : Array TypeId} {vs : List Value} {u : Value} (hg : Gd c ops o env g) (hd : o.dst = some d) (hlt : Nat.blt d c.n = true)
    (ho : o.op = .call { callee := .value (.func f), args := as.toArray, argTypes := tys }) (hvs : g = true → Evs env as vs) (hc : g = true → CallsH c.P f vs.toArray H fun v H' => v = u ∧ Keep [] H H')
    (k : ∀ H', Keep [] H H' → WL c ops rest ((d, g, u) :: env) H' Q) : WL c ops (o :: rest) env H Q := by
  intro a w hf hw hA
  have hlt' : d < c.n := Nat.le_of_ble_eq_true hlt
  refine wpList_step fun K hK => ?_
  rw [hg a hf]
  cases g with
  | false =>
    rw [if_neg (by simp), hd]
    exact hK _ _ (k H (Keep.refl _ _) _ w (hf.put hlt' false u) hw hA)
  | true =>
    rw [if_pos rfl]
    have he := exec_call (first := []) (caps := []) ho (hf.eval ⟨_, rfl, rfl⟩) ((hvs rfl).eval hf)
    unfold Oper.wp
    rw [he]
    have := hc rfl w hw
    simp only [List.nil_append, List.append_nil]
    unfold UponCall at this
    split at this
    · rename_i v w' hr
      rw [hr]
      obtain ⟨rfl, rfl, hR⟩ := this
      simp only [Oper.upon, hd]
      exact hK _ _ (k _ hR _ _ (hf.put hlt' true v) rfl hA)
    · rename_i f' args' w' hr
      rw [hr]
      obtain ⟨rfl, hR⟩ := this
      simp only [Oper.upon, hd]
      refine hR.mono fun e w'' ⟨v, h1, h2, h3⟩ => ?_
      subst h1
      obtain ⟨rfl, h4⟩ := h2
      exact hK _ _ (k _ h4 _ _ (hf.put hlt' true v) rfl (hA.trans h3))
    · exact this.elim
end wl

/-! ### Regions that draw their order, all of whose operations only read -/
def Cls (c : Cx) (S : Heap → Prop) (w : World) : Prop := S w.heap ∧ Amb c.W0 w

def QL (c : Cx) (ops : Array Oper) (l : List Oper) (env : Env) (S : Heap → Prop) (K : Act → Prop) : Prop := ∀ a, Fr c env a → wpQuiet c.P ops (Cls c S) K l a

theorem WC.draw {id : Nat} {l : List Oper} (S : Heap → Prop) (hS : S H) (hm : c.P.follows .mixedOrders = true) (hB : Region.lexB .any l.toArray = true)
    (h : QL c l.toArray l env S (fun a' => ∀ w', Cls c S w' → Q .normal a' w')) : WC c (.region id l.toArray true) env H Q := by
  intro a w hf hw hA
  refine wp_region_quiet (C := Cls c S) hm hB ⟨by rw [← hw] at hS; exact hS, ⟨hA.os, hA.tape, hA.output⟩⟩ ?_
  have := h a hf
  simpa using this

section ql
variable {ops : Array Oper} {o : Oper} {rest : List Oper} {d : Nat} {S : Heap → Prop} {K : Act → Prop}

theorem QL.nil (h : ∀ H', S H' → NX c env H' (Q .normal)) : QL c ops [] env S (fun a' => ∀ w', Cls c S w' → Q .normal a' w') := fun a hf => wpQuiet_nil fun w' hC => h _ hC.1 a w' hf rfl hC.2

theorem QL.gdet {g : Bool} {v : Value} (hg : Gd c ops o env g) (hd : o.dst = some d) (hlt : Nat.blt d c.n = true) (h : g = true → ValC c o env S v) (k : QL c ops rest ((d, g, v) :: env) S K) : QL c ops (o :: rest) env S K := by
  intro a hf
  have hlt' : d < c.n := Nat.le_of_ble_eq_true hlt
  have hp := hf.put hlt' g v
  refine wpQuiet_step fun K hK => ?_
  rw [hg a hf]
  cases g with
  | true =>
    rw [if_pos rfl]
    refine ⟨v, fun w hC => ?_, ?_⟩
    · have := h rfl a w hf hC.1 hC.2
      unfold Oper.quietAt
      rw [this]
      exact ⟨rfl, rfl⟩
    · rw [hd]; exact hK _ (k _ hp)
  | false =>
    rw [if_neg (by simp), hd]
    exact hK _ (k _ hp)
theorem QL.det {v : Value} (hg : o.guard = .none) (hd : o.dst = some d) (hlt : Nat.blt d c.n = true) (h : ValC c o env S v) (k : QL c ops rest ((d, true, v) :: env) S K) : QL c ops (o :: rest) env S K :=
  QL.gdet (Gd.none hg) hd hlt (fun _ => h) k
theorem QL.ex {Φ : Value → Prop} (hg : o.guard = .none) (hd : o.dst = some d) (hlt : Nat.blt d c.n = true) (h : ∃ v, ValC c o env S v ∧ Φ v) (k : ∀ v, Φ v → QL c ops rest ((d, true, v) :: env) S K) : QL c ops (o :: rest) env S K :=
  let ⟨v, h1, h2⟩ := h; QL.det hg hd hlt h1 (k v h2)
theorem QL.gex {g : Bool} {Φ : Value → Prop} (hg : Gd c ops o env g) (hd : o.dst = some d) (hlt : Nat.blt d c.n = true) (h : g = true → ∃ v, ValC c o env S v ∧ Φ v) (k : ∀ v, (g = true → Φ v) → QL c ops rest ((d, g, v) :: env) S K) : QL c ops (o :: rest) env S K := by
  by_cases e : g = true
  · obtain ⟨v, h1, h2⟩ := h e
    exact QL.gdet hg hd hlt (fun _ => h1) (k v fun _ => h2)
  · exact QL.gdet (v := undef) hg hd hlt (fun h => (e h).elim) (k undef fun h => (e h).elim)

theorem QL.gcall {g : Bool} {f : FuncId} {as : List Operand} {tys : Array TypeId} {vs : List Value} {u : Value} (hg : Gd c ops o env g) (hd : o.dst = some d) (hlt : Nat.blt d c.n = true)
    (ho : o.op = .call { callee := .value (.func f), args := as.toArray, argTypes := tys }) (hvs : g = true → Evs env as vs) (hc : g = true → ∀ H', S H' → CallsH c.P f vs.toArray H' fun v H'' => v = u ∧ S H'')
    (k : QL c ops rest ((d, g, u) :: env) S K) : QL c ops (o :: rest) env S K := by
  intro a hf
  have hlt' : d < c.n := Nat.le_of_ble_eq_true hlt
  have hp := hf.put hlt' g u
  refine wpQuiet_step fun K hK => ?_
  rw [hg a hf]
  cases g with
  | false =>
    rw [if_neg (by simp), hd]
    exact hK _ (k _ hp)
  | true =>
    rw [if_pos rfl]
    refine ⟨u, fun w hC => ?_, by rw [hd]; exact hK _ (k _ hp)⟩
    have he := exec_call (first := []) (caps := []) ho (hf.eval ⟨_, rfl, rfl⟩) ((hvs rfl).eval hf)
    unfold Oper.quietAt
    rw [he]
    have := hc rfl _ hC.1 w rfl
    simp only [List.nil_append, List.append_nil]
    unfold UponCall at this
    split at this
    · rename_i v w' hr
      rw [hr]
      obtain ⟨rfl, rfl, hR⟩ := this
      exact ⟨rfl, rfl⟩
    · rename_i f' args' w' hr
      rw [hr]
      obtain ⟨rfl, hR⟩ := this
      refine ⟨rfl, hR.mono fun e w'' ⟨v, h1, h2, h3⟩ => ?_⟩
      subst h1
      obtain ⟨rfl, h4⟩ := h2
      exact ⟨rfl, h4, hC.2.trans h3⟩
    · exact this.elim
theorem QL.call {f : FuncId} {as : List Operand} {tys : Array TypeId} {vs : List Value} {u : Value} (hg : o.guard = .none) (hd : o.dst = some d) (hlt : Nat.blt d c.n = true)
    (ho : o.op = .call { callee := .value (.func f), args := as.toArray, argTypes := tys }) (hvs : Evs env as vs) (hc : ∀ H', S H' → CallsH c.P f vs.toArray H' fun v H'' => v = u ∧ S H'')
    (k : QL c ops rest ((d, true, u) :: env) S K) : QL c ops (o :: rest) env S K :=
  QL.gcall (Gd.none hg) hd hlt ho (fun _ => hvs) (fun _ => hc) k
end ql

/-! ### Regions that draw their order: reads, and then a tail in one order -/
def SL (c : Cx) (ops : Array Oper) (l : List Oper) (env : Env) (H : Heap) (T : List Oper) (Q : Exit → Act → World → Prop) : Prop :=
  ∀ a w, Fr c env a → w.heap = H → Amb c.W0 w → wpStill c.P ops w (fun a' => wpList c.P ops Q T a' w) l a

theorem WC.tail {id : Nat} {l : List Oper} (n : Nat) (hm : c.P.follows .mixedOrders = true) (hB : Region.lexTailB .any l.toArray n = true)
    (h : SL c l.toArray (l.take n) env H (l.drop n) Q) : WC c (.region id l.toArray true) env H Q := fun a w hf hw hA =>
  wp_region_still_tail n hm hB (h a { w with drawn := w.drawn + 1 } hf hw ⟨hA.os, hA.tape, hA.output⟩)

section sl
variable {ops : Array Oper} {o : Oper} {rest T : List Oper} {d : Nat}
theorem SL.nil (h : WL c ops T env H Q) : SL c ops [] env H T Q := fun a w hf hw hA => wpStill_nil (h a w hf hw hA)
theorem SL.gdet {g : Bool} {v : Value} (hg : Gd c ops o env g) (hd : o.dst = some d) (hlt : Nat.blt d c.n = true) (h : g = true → ValC c o env (Is H) v) (k : SL c ops rest ((d, g, v) :: env) H T Q) : SL c ops (o :: rest) env H T Q := by
  intro a w hf hw hA
  have hlt' : d < c.n := Nat.le_of_ble_eq_true hlt
  have hp := hf.put hlt' g v
  refine wpStill_step fun K hK => ?_
  rw [hg a hf]
  cases g with
  | true =>
    rw [if_pos rfl]
    have := h rfl a w hf hw hA
    unfold Oper.still
    rw [this]
    refine ⟨rfl, ?_⟩
    rw [hd]
    exact hK _ (k _ w hp hw hA)
  | false =>
    rw [if_neg (by simp), hd]
    exact hK _ (k _ w hp hw hA)
theorem SL.det {v : Value} (hg : o.guard = .none) (hd : o.dst = some d) (hlt : Nat.blt d c.n = true) (h : ValC c o env (Is H) v) (k : SL c ops rest ((d, true, v) :: env) H T Q) : SL c ops (o :: rest) env H T Q :=
  SL.gdet (Gd.none hg) hd hlt (fun _ => h) k
theorem SL.ex {Φ : Value → Prop} (hg : o.guard = .none) (hd : o.dst = some d) (hlt : Nat.blt d c.n = true) (h : ∃ v, ValC c o env (Is H) v ∧ Φ v) (k : ∀ v, Φ v → SL c ops rest ((d, true, v) :: env) H T Q) : SL c ops (o :: rest) env H T Q :=
  let ⟨v, h1, h2⟩ := h; SL.det hg hd hlt h1 (k v h2)
end sl
end
end Go.NB
