/- part -/
import Derived.Test.YtpmjnbidmcnhnaaGreatDoorArr
import Derived.OrdersHeld
namespace Go.NB
theorem Go_wp_mono {P : Program} {cd : Code} {Q Q' : Exit → Act → World → Prop} {a : Act} {w : World} (h : ∀ e a w, Q e a w → Q' e a w) (k : cd.wp P Q a w) : cd.wp P Q' a w :=
 fun b k' cs => let ⟨e, a', w', q, r⟩ := k b k' cs; ⟨e, a', w', h _ _ _ q, r⟩
def Qn (Q : Exit → Act → World → Prop) : Exit → Act → World → Prop := fun e a w => e = .normal ∧ Q .normal a w
def AL (c : Cx) (ops : Array Oper) (fuel : Nat) (listed : Array Bool) (env : Env) (S : Heap → Prop) (Q : Exit → Act → World → Prop) : Prop :=
 ∀ a w, Fr c env a → Cls c S w → wpAnyH c.P .any ops (Qn Q) (Cls c S) fuel listed a w
section
variable {c : Cx} {env : Env} {H : Heap} {Q : Exit → Act → World → Prop}
theorem WC.any {id : Nat} {l : List Oper} (S : Heap → Prop) (hS : S H) (hm : c.P.follows .mixedOrders = true)
  (h : AL c l.toArray l.length (Array.replicate l.length false) env S Q) : WC c (.region id l.toArray true) env H Q := by
 intro a w hf hw hA
 refine Go_wp_mono (Q := Qn Q) (fun e a w h => ?_) (wp_region_held (S := Cls c S) hm ?_)
 ·obtain ⟨rfl, h⟩ := h; exact h
 ·have := h a { w with drawn := w.drawn + 1 } hf ⟨by rw [← hw] at hS; exact hS, hA.os, hA.tape, hA.output, Nat.le_succ_of_le hA.drawn⟩
  simpa using this
variable {ops : Array Oper} {S : Heap → Prop} {fuel : Nat} {listed : Array Bool} {o : Oper} {d : Nat}
theorem AL.nil (hr : Region.ready .any ops listed = []) (h : ∀ H', S H' → NX c env H' (Q .normal)) : AL c ops fuel listed env S Q := fun a w hf hC =>
 wpAnyH_done hr ⟨rfl, h _ hC.1 a w hf rfl hC.2⟩ fuel
theorem AL.take {v : Value} {listed' : Array Bool} (i : Nat) (hi : ops[i]? = some o) (hs : Region.noSelect ops = true) (hfr : Region.free .any ops listed i = true) (hr : (Region.ready .any ops listed).contains i = true) (hl : listed.setIfInBounds i true = listed')
  (hg : o.guard = .none) (hd : o.dst = some d) (hlt : Nat.blt d c.n = true) (h : ValC c o env S v) (k : AL c ops fuel listed' ((d, true, v) :: env) S Q) : AL c ops (fuel + 1) listed env S Q := by
 intro a w hf hC
 subst hl
 refine wpAnyH_take (v := v) hi hs hfr hr (fun c' a' w' hq => by cases hq.1) (.inl ⟨by simp [Region.wanted, hg], fun w' hC' => h a w' hf hC'.1 hC'.2⟩) hC ?_
 rw [hd]
 exact k _ w (hf.put (Nat.le_of_ble_eq_true hlt) true v) hC
theorem AL.ex {Φ : Value → Prop} {listed' : Array Bool} (i : Nat) (hi : ops[i]? = some o) (hs : Region.noSelect ops = true) (hfr : Region.free .any ops listed i = true) (hr : (Region.ready .any ops listed).contains i = true) (hl : listed.setIfInBounds i true = listed')
  (hg : o.guard = .none) (hd : o.dst = some d) (hlt : Nat.blt d c.n = true) (h : ∃ v, ValC c o env S v ∧ Φ v) (k : ∀ v, Φ v → AL c ops fuel listed' ((d, true, v) :: env) S Q) : AL c ops (fuel + 1) listed env S Q :=
 let ⟨v, h1, h2⟩ := h; AL.take i hi hs hfr hr hl hg hd hlt h1 (k v h2)
theorem AL.call {f : FuncId} {as : List Operand} {tys : Array TypeId} {vs : List Value} {Φ : Value → Prop} {listed' : Array Bool} (i : Nat) (hi : ops[i]? = some o) (hr : Region.ready .any ops listed = [i]) (hl : listed.setIfInBounds i true = listed')
  (hg : o.guard = .none) (hd : o.dst = some d) (hlt : Nat.blt d c.n = true) (ho : o.op = .call { callee := .value (.func f), args := as.toArray, argTypes := tys }) (hvs : Evs env as vs) (hc : ∀ H', S H' → CallsH c.P f vs.toArray H' fun v H'' => Φ v ∧ S H'')
  (k : ∀ v, Φ v → AL c ops fuel listed' ((d, true, v) :: env) S Q) : AL c ops (fuel + 1) listed env S Q := by
 intro a w hf hC
 subst hl
 have hlt' : d < c.n := Nat.le_of_ble_eq_true hlt
 refine wpAnyH_all hr (by simp) fun j hj => ?_
 simp at hj
 subst hj
 unfold wpOp
 simp only [hi]
 have hw : Region.wanted o (yielded ops a.tmps) = true := by simp [Region.wanted, hg]
 rw [if_pos hw]
 refine .inl ?_
 have he := exec_call (first := []) (caps := []) ho (hf.eval ⟨_, rfl, rfl⟩) (hvs.eval hf)
 unfold Oper.wp
 rw [he]
 have := hc _ hC.1 w rfl
 simp only [List.nil_append, List.append_nil]
 unfold UponCall at this
 split at this
 ·rename_i v w' hr
  rw [hr]
  obtain ⟨rfl, h1, h2⟩ := this
  simp only [Oper.upon, hd]
  exact ⟨hC, k _ h1 _ _ (hf.put hlt' true v) hC⟩
 ·rename_i f' args' w' hr
  rw [hr]
  obtain ⟨rfl, hR⟩ := this
  simp only [Oper.upon, hd]
  refine hR.mono fun e w'' ⟨v, h1, h2, h3⟩ => ?_
  subst h1
  exact ⟨⟨h2.2, hC.2.trans h3⟩, k _ h2.1 _ _ (hf.put hlt' true v) ⟨h2.2, hC.2.trans h3⟩⟩
 ·exact this.elim
end
section
variable {c : Cx} {env : Env} {H : Heap} {Q : Exit → Act → World → Prop} {ops : Array Oper} {o : Oper} {rest : List Oper} {d : Nat}
end
end Go.NB
