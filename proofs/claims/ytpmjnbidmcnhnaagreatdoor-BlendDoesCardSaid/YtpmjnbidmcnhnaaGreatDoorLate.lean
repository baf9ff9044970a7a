/- part -/
import Derived.Test.YtpmjnbidmcnhnaaGreatDoorAny
import Derived.Laws.Small
section
namespace Go.NB
section
variable {c : Cx} {o : Oper} {env : Env} {S : Heap → Prop}
end
theorem Own.ofBx1 {α : Type} {T : Ty α} {H : Heap} {M : List Nat} {g : Nat} {e : TypeId} {cs : List Value} {x : α} (h : Bx H g e cs) (hR : T.R H M cs x) : Own T H M e (.slice (some ⟨g, 0, none⟩) 1 1) [x] := by
 have hl := T.len hR
 refine ⟨by simp, cs, ⟨by simp [hl], .inr ⟨g, 1, cs.toArray, rfl, h, Nat.le_refl _, by unfold maxLen; omega, by simp [hl], ?_⟩⟩, Elems.single hR⟩
 exact List.take_of_length_le (by simp [hl])
def tTrip : Ty (Int × Int × Int) := tDet 3 true (fun p => [iv p.1, iv p.2.1, iv p.2.2]) (fun p => I64 p.1 ∧ I64 p.2.1 ∧ I64 p.2.2) (fun _ => rfl) (fun _ u hu => by simp at hu; rcases hu with rfl | rfl | rfl <;> rfl) (by decide) (fun h => by cases h)
end Go.NB
end
/- part -/
section
namespace Go.NB
section
variable {P : Program} {ops : Array Oper} {Q : Exit → Act → World → Prop} {md : Region.Mode} {S : World → Prop} {n : Nat}
def wpAnyT (P : Program) (md : Region.Mode) (ops : Array Oper) (Q : Exit → Act → World → Prop) (S : World → Prop) (n : Nat) : Nat → Array Bool → Act → World → Prop
 | 0, listed, a, w => Region.ready md ops listed = [] ∧ Q .normal a w
 | fuel + 1, listed, a, w => (Region.ready md ops listed = [] → Q .normal a w) ∧
  ∀ i ∈ Region.ready md ops listed, wpOp P ops Q i (fun a' w' => (i = n ∨ listed.getD n false = true ∨ S w') ∧ wpAnyT P md ops Q S n fuel (listed.setIfInBounds i true) a' w') a w
theorem wpAny_of_T : ∀ (fuel : Nat) (listed : Array Bool) (a : Act) (w : World), wpAnyT P md ops Q S n fuel listed a w → wpAny P md ops Q fuel listed a w
 | 0, _, _, _, h => h
 | fuel + 1, _, _, _, h => ⟨h.1, fun i hi => wpOp_mono (fun a' w' h' => wpAny_of_T fuel _ a' w' h'.2) (h.2 i hi)⟩
def Cl (md : Region.Mode) (ops : Array Oper) (listed : Array Bool) : Prop :=
 ∀ j oj, ops[j]? = some oj → listed.getD j false = true → ∀ e ∈ oj.after, Region.binds md e = true → listed.getD e.on false = true
def Succ (md : Region.Mode) (ops : Array Oper) (n : Nat) : Prop :=
 ∀ i, i < n → ∃ j oj, ops[j]? = some oj ∧ i < j ∧ j ≤ n ∧ ∃ e ∈ oj.after, Region.binds md e = true ∧ e.on = i
def succB (md : Region.Mode) (ops : Array Oper) (n : Nat) : Bool :=
 (List.range n).all fun i => (List.range (n + 1)).any fun j => decide (i < j) && match ops[j]? with
  | some oj => oj.after.toList.any fun e => Region.binds md e && e.on == i
  | none => false
theorem succB_spec (h : succB md ops n = true) : Succ md ops n := fun i hi => by
 unfold succB at h
 have h1 := List.all_eq_true.1 h i (List.mem_range.2 hi)
 obtain ⟨j, hj, h2⟩ := List.any_eq_true.1 h1
 simp only [Bool.and_eq_true, decide_eq_true_eq] at h2
 obtain ⟨h3, h4⟩ := h2
 split at h4
 ·rename_i oj ho
  obtain ⟨e, he, h5⟩ := List.any_eq_true.1 h4
  simp only [Bool.and_eq_true, beq_iff_eq] at h5
  exact ⟨j, oj, ho, h3, by have := List.mem_range.1 hj; omega, e, by simpa using he, h5⟩
 ·cases h4
theorem all_before {listed : Array Bool} (hc : Cl md ops listed) (hs : Succ md ops n) {on : Oper} (hn : ops[n]? = some on) (h : ∀ e ∈ on.after, Region.binds md e = true → listed.getD e.on false = true) :
  ∀ d i, n - i = d → i < n → listed.getD i false = true := by
 intro d
 induction d using Nat.strongRecOn with
 | _ d ih =>
  intro i hd hi
  obtain ⟨j, oj, ho, h1, h2, e, he, hb, hon⟩ := hs i hi
  rw [← hon]
  by_cases hjn : j = n
  ·subst hjn
   rw [hn] at ho
   cases ho
   exact h e he hb
  ·exact hc j oj ho (ih (n - j) (by omega) j rfl (by omega)) e he hb
theorem Cl.step {listed : Array Bool} {j : Nat} (hc : Cl md ops listed) (hj : j ∈ Region.ready md ops listed) : Cl md ops (listed.setIfInBounds j true) := fun k ok hk hl e he hb => by
 obtain ⟨_, oj, hoj, hall⟩ := mem_ready.1 hj
 by_cases hkj : j = k
 ·subst hkj
  rw [hk] at hoj
  cases hoj
  exact getD_set_true (hall e he hb)
 ·rw [getD_set_ne false hkj] at hl
  exact getD_set_true (hc k ok hk hl e he hb)
theorem unlisted {listed : Array Bool} {i : Nat} (h : listed.getD i true = false) : listed.getD i false = false := by
 rcases Nat.lt_or_ge i listed.size with h' | h'
 ·simp [h'] at h ⊢; exact h
 ·simp [Array.getElem?_eq_none h'] at h
theorem wpAnyT_first {i : Nat} {oi on : Oper} {v : Value} (hi : ops[i]? = some oi) (hon : ops[n]? = some on) (hin : i < n) (hs : Succ md ops n) (hsel : ∀ (j : Nat) (o : Oper) cs b, ops[j]? = some o → o.op ≠ .select cs b)
  (hQ : ∀ c a w, Q (.panic c) (a.put oi.dst v) w → Q (.panic c) a w) :
  ∀ (fuel : Nat) (listed : Array Bool) (a : Act) (w : World), Cl md ops listed →
   (∀ j oj, ops[j]? = some oj → j ≠ i → listed.getD j true = false → (∀ e ∈ oj.after, Region.binds md e = true → e.on ≠ i) → oi.apart ops oj = true) →
   i ∈ Region.ready md ops listed → YieldsIf P ops S oi v a → S w →
   wpAnyT P md ops Q S n fuel (listed.setIfInBounds i true) (a.put oi.dst v) w → wpAnyT P md ops Q S n (fuel + 1) listed a w := by
 intro fuel
 induction fuel with
 | zero =>
  intro listed a w _ _ hr hy hS H
  refine ⟨fun h => (by rw [h] at hr; cases hr), fun j hj => ?_⟩
  by_cases hji : j = i
  ·subst hji; exact hy.wpOp hi hS ⟨.inr (.inr hS), H⟩
  ·have := ready_mono hj hji
   rw [H.1] at this
   cases this
 | succ fuel ih =>
  intro listed a w hc hfree hr hy hS H
  refine ⟨fun h => (by rw [h] at hr; cases hr), fun j hj => ?_⟩
  by_cases hji : j = i
  ·subst hji; exact hy.wpOp hi hS ⟨.inr (.inr hS), H⟩
  ·have h1 := H.2 j (ready_mono hj hji)
   have hiun := unlisted (mem_ready.1 hr).1
   obtain ⟨hjun, oj, hoj, hall⟩ := mem_ready.1 hj
   have hjn : j ≠ n := fun e => by
    subst e
    rw [hon] at hoj
    cases hoj
    rw [all_before hc hs hon hall _ i rfl hin] at hiun
    cases hiun
   have hnun : listed.getD n false ≠ true := fun e => by
    rw [all_before hc hs hon (hc n on hon e) _ i rfl hin] at hiun
    cases hiun
   have hnot : ∀ e ∈ oj.after, Region.binds md e = true → e.on ≠ i := fun e he hb heq => by
    have h2 := hall e he hb
    rw [heq, hiun] at h2
    cases h2
   have h2 := wpOp_putIf hoj (hfree j oj hoj hji hjun hnot) (fun cs b => hsel i oi cs b hi) (fun cs b => hsel j oj cs b hoj) hQ hy h1
   have hfree' : ∀ k ok, ops[k]? = some ok → k ≠ i → (listed.setIfInBounds j true).getD k true = false →
     (∀ e ∈ ok.after, Region.binds md e = true → e.on ≠ i) → oi.apart ops ok = true := fun k ok hk hki hun hno => by
    refine hfree k ok hk hki ?_ hno
    by_cases hjk : j = k
    ·subst hjk; exact hjun
    ·rw [getD_set_ne true hjk] at hun; exact hun
   refine wpOp_mono (fun a' w' h3 => ?_) h2
   obtain ⟨h4, h5, h6⟩ := h3
   have hSw : S w' := by
    rcases h5 with h5 | h5 | h5
    ·exact (hjn h5).elim
    ·rw [getD_set_ne false (by omega)] at h5; exact (hnun h5).elim
    ·exact h5
   refine ⟨.inr (.inr hSw), ih (listed.setIfInBounds j true) a' w' (hc.step hj) hfree' (ready_mono hr (Ne.symm hji)) h4 hSw ?_⟩
   rw [Array.setIfInBounds_comm _ _ hji]
   exact h6
theorem wpAnyT_seq : ∀ (l : List Oper) (k : Nat) (listed : Array Bool) (a : Act) (w : World), (∀ j, j < l.length → l[j]? = ops[k + j]?) → n ≤ k → n < listed.size → (k = n ∨ listed.getD n false = true) →
  Region.seqB md ops l.length k listed = true → wpList P ops Q l a w → wpAnyT P md ops Q S n l.length listed a w
 | [], k, listed, a, w, _, _, _, _, hB, h => by
  simp only [List.length_nil, Region.seqB, List.isEmpty_iff] at hB
  exact ⟨hB, h⟩
 | o :: l, k, listed, a, w, ho, hk, hsz, hn, hB, h => by
  simp only [List.length_cons, Region.seqB, Bool.and_eq_true, decide_eq_true_eq] at hB
  obtain ⟨h1, h2⟩ := hB
  have h0 : ops[k]? = some o := by have := ho 0 (by simp); simpa using this.symm
  rw [List.length_cons, wpAnyT]
  refine ⟨fun h => (by rw [h1] at h; cases h), fun i hi => ?_⟩
  rw [h1] at hi
  simp at hi
  subst hi
  have hn' : (listed.setIfInBounds i true).getD n false = true := by
   rcases hn with rfl | hn
   ·simp [hsz]
   ·exact getD_set_true hn
  have ih := fun a' w' (h' : wpList P ops Q l a' w') => wpAnyT_seq l (i + 1) (listed.setIfInBounds i true) a' w' (fun j hj => by have := ho (j + 1) (by simp; omega); rw [show i + 1 + j = i + (j + 1) by omega]; simpa using this) (by omega) (by simpa using hsz) (.inr hn') h2 h'
  have hside : ∀ w' : World, i = n ∨ listed.getD n false = true ∨ S w' := fun _ => hn.imp id .inl
  unfold wpList at h
  unfold wpOp
  simp only [h0]
  by_cases hw : Region.wanted o (yielded ops a.tmps) = true
  ·rw [if_pos hw] at h ⊢
   exact h.imp (Oper.wp_mono fun a' w' h' => ⟨hside w', ih a' w' h'⟩) id
  ·rw [if_neg hw] at h ⊢
   exact ⟨hside _, ih _ _ h⟩
theorem wp_swap {Q' : Exit → Act → World → Prop} {o : Oper} {a : Act} {w : World} {K : Act → World → Prop} (h1 : ∀ c a w, ¬ Q' (.panic c) a w) (h2 : ¬ LetsOut Q') (h : o.wp P a w K Q') : o.wp P a w K Q := by
 unfold Oper.wp at *
 generalize (execOp a.eval o).run P w = r at *
 cases r with
 | ok x w' =>
  cases x <;> simp only [Oper.upon] at h ⊢ <;>
   first
    | exact h
    | exact Calls.mono h (fun e w'' he => by cases e <;> first | exact he | exact (h1 _ _ _ he).elim | exact (h2 he).elim)
    | exact Rows.mono h (fun _ _ he => he)
 | halt x w' => cases x <;> simp only [Oper.upon] at h ⊢ <;> first | exact (h1 _ _ _ h).elim | exact h
end
def TL (c : Cx) (ops : Array Oper) (n : Nat) (H : Heap) (fuel : Nat) (listed : Array Bool) (env : Env) (Q : Exit → Act → World → Prop) : Prop :=
 ∀ a w, Fr c env a → w.heap = H → Amb c.W0 w → Cl .any ops listed → wpAnyT c.P .any ops (Qn Q) (Cls c (Up H)) n fuel listed a w
section
variable {c : Cx} {env : Env} {H : Heap} {Q : Exit → Act → World → Prop} {ops : Array Oper} {n fuel : Nat} {listed : Array Bool} {o : Oper} {d : Nat}
theorem WC.late {id : Nat} {l : List Oper} (n : Nat) (hm : c.P.follows .mixedOrders = true) (h : TL c l.toArray n H l.length (Array.replicate l.length false) env Q) : WC c (.region id l.toArray true) env H Q := by
 intro a w hf hw hA
 refine Go_wp_mono (Q := Qn Q) (fun e a w h => ?_) (wp_region_any hm (wpAny_of_T (n := n) (S := Cls c (Up H)) _ _ _ _ ?_))
 ·obtain ⟨rfl, h⟩ := h; exact h
 ·have hcl : Cl .any l.toArray (Array.replicate l.length false) := fun j oj _ hj => by
   rcases Nat.lt_or_ge j l.length with h' | h'
   ·simp [h'] at hj
   ·simp [h'] at hj
  have := h a { w with drawn := w.drawn + 1 } hf hw ⟨hA.os, hA.tape, hA.output, Nat.le_succ_of_le hA.drawn⟩ hcl
  simpa using this
theorem TL.take {v : Value} {on : Oper} {listed' : Array Bool} (i : Nat) (hi : ops[i]? = some o) (hon : ops[n]? = some on) (hin : Nat.blt i n = true) (hsu : succB .any ops n = true) (hs : Region.noSelect ops = true) (hfr : Region.free .any ops listed i = true) (hr : (Region.ready .any ops listed).contains i = true)
  (hl : listed.setIfInBounds i true = listed') (hg : o.guard = .none) (hd : o.dst = some d) (hlt : Nat.blt d c.n = true) (h : ValC c o env (Up H) v) (k : TL c ops n H fuel listed' ((d, true, v) :: env) Q) : TL c ops n H (fuel + 1) listed env Q := by
 intro a w hf hw hA hc
 subst hl
 have hr' : i ∈ Region.ready .any ops listed := by simpa using hr
 refine wpAnyT_first (v := v) hi hon (Nat.le_of_ble_eq_true hin) (succB_spec hsu) (Region.noSelect_spec hs) (fun c' a' w' hq => by cases hq.1) fuel listed a w hc (Region.free_spec hi hfr) hr' (.inl ⟨by simp [Region.wanted, hg], fun w' hC' => h a w' hf hC'.1 hC'.2⟩) ⟨by rw [hw]; exact Keep.refl _ _, hA⟩ ?_
 rw [hd]
 exact k _ w (hf.put (Nat.le_of_ble_eq_true hlt) true v) hw hA (hc.step hr')
theorem TL.ex {Φ : Value → Prop} {on : Oper} {listed' : Array Bool} (i : Nat) (hi : ops[i]? = some o) (hon : ops[n]? = some on) (hin : Nat.blt i n = true) (hsu : succB .any ops n = true) (hs : Region.noSelect ops = true) (hfr : Region.free .any ops listed i = true) (hr : (Region.ready .any ops listed).contains i = true)
  (hl : listed.setIfInBounds i true = listed') (hg : o.guard = .none) (hd : o.dst = some d) (hlt : Nat.blt d c.n = true) (h : ∃ v, ValC c o env (Up H) v ∧ Φ v) (k : ∀ v, Φ v → TL c ops n H fuel listed' ((d, true, v) :: env) Q) : TL c ops n H (fuel + 1) listed env Q :=
 let ⟨v, h1, h2⟩ := h; TL.take i hi hon hin hsu hs hfr hr hl hg hd hlt h1 (k v h2)
def QT (c : Cx) (ops : Array Oper) (n : Nat) (H : Heap) (fuel : Nat) (listed : Array Bool) (Q : Exit → Act → World → Prop) : Exit → Act → World → Prop := fun e a w =>
 e = .normal ∧ Cls c (Up H) w ∧ wpAnyT c.P .any ops (Qn Q) (Cls c (Up H)) n fuel listed a w
theorem TL.one {listed' : Array Bool} (i : Nat) (hi : ops[i]? = some o) (hr : Region.ready .any ops listed = [i]) (hl : listed.setIfInBounds i true = listed') (hg : o.guard = .none) (k : WL c ops [o] env H (QT c ops n H fuel listed' Q)) : TL c ops n H (fuel + 1) listed env Q := by
 intro a w hf hw hA hc
 subst hl
 refine ⟨fun h => (by rw [hr] at h; cases h), fun j hj => ?_⟩
 rw [hr] at hj
 simp at hj
 subst hj
 have h := k a w hf hw hA
 have hwant : Region.wanted o (yielded ops a.tmps) = true := by simp [Region.wanted, hg]
 have hnl : ¬ LetsOut (QT c ops n H fuel (listed.setIfInBounds j true) Q) := fun ⟨_, _, h⟩ => by cases h.1
 unfold wpList at h
 rw [if_pos hwant] at h
 unfold wpOp
 simp only [hi]
 rw [if_pos hwant]
 rcases h with h | h
 ·refine .inl (wp_swap (Q' := QT c ops n H fuel (listed.setIfInBounds j true) Q) (fun c' a' w' hp => by cases hp.1) hnl (Oper.wp_mono (fun a' w' h' => ?_) h))
  exact ⟨.inr (.inr h'.2.1), h'.2.2⟩
 ·exact (hnl h.2).elim
theorem TL.rest {rest : List Oper} {H' : Heap} (hk : Keep [] H H') (hops : ops.toList.drop n = rest) (hsz : Nat.blt n listed.size = true) (hfu : rest.length = fuel) (hseq : Region.seqB .any ops rest.length n listed = true) (h : WL c ops rest env H' (Qn Q)) : WL c ops [] env H' (QT c ops n H fuel listed Q) := by
 intro a w hf hw hA
 subst hfu
 refine ⟨rfl, ⟨by rw [hw]; exact hk, hA⟩, wpAnyT_seq rest n listed a w (fun j hj => ?_) (Nat.le_refl _) (Nat.le_of_ble_eq_true hsz) (.inl rfl) hseq (h a w hf hw hA)⟩
 rw [← hops]
 simp
theorem WL.nilN (h : NX c env H (Q .normal)) : WL c ops [] env H (Qn Q) := fun a w hf hw hA => ⟨rfl, h a w hf hw hA⟩
end
def TA (c : Cx) (ops : Array Oper) (H0 Hc : Heap) (fuel : Nat) (listed : Array Bool) (env : Env) (Q : Exit → Act → World → Prop) : Prop :=
 ∀ a w, Fr c env a → w.heap = Hc → Amb c.W0 w → Keep [] H0 Hc → wpAnyH c.P .any ops (Qn Q) (Cls c (Up H0)) fuel listed a w
section
variable {c : Cx} {env : Env} {H0 H : Heap} {Q : Exit → Act → World → Prop} {ops : Array Oper} {fuel : Nat} {listed : Array Bool} {o : Oper} {d : Nat}
theorem WC.fresh {id : Nat} {l : List Oper} (hm : c.P.follows .mixedOrders = true) (h : TA c l.toArray H H l.length (Array.replicate l.length false) env Q) : WC c (.region id l.toArray true) env H Q := by
 intro a w hf hw hA
 refine Go_wp_mono (Q := Qn Q) (fun e a w h => ?_) (wp_region_held (S := Cls c (Up H)) hm ?_)
 ·obtain ⟨rfl, h⟩ := h; exact h
 ·have := h a { w with drawn := w.drawn + 1 } hf hw ⟨hA.os, hA.tape, hA.output, Nat.le_succ_of_le hA.drawn⟩ (Keep.refl _ _)
  simpa using this
theorem TA.nil (hr : Region.ready .any ops listed = []) (h : NX c env H (Q .normal)) : TA c ops H0 H fuel listed env Q := fun a w hf hw hA _ => wpAnyH_done hr ⟨rfl, h a w hf hw hA⟩ fuel
theorem TA.take {v : Value} {listed' : Array Bool} (i : Nat) (hi : ops[i]? = some o) (hs : Region.noSelect ops = true) (hfr : Region.free .any ops listed i = true) (hr : (Region.ready .any ops listed).contains i = true) (hl : listed.setIfInBounds i true = listed')
  (hg : o.guard = .none) (hd : o.dst = some d) (hlt : Nat.blt d c.n = true) (h : ValC c o env (Up H0) v) (k : TA c ops H0 H fuel listed' ((d, true, v) :: env) Q) : TA c ops H0 H (fuel + 1) listed env Q := by
 intro a w hf hw hA hk
 subst hl
 refine wpAnyH_take (v := v) hi hs hfr hr (fun c' a' w' hq => by cases hq.1) (.inl ⟨by simp [Region.wanted, hg], fun w' hC' => h a w' hf hC'.1 hC'.2⟩) ⟨by rw [hw]; exact hk, hA⟩ ?_
 rw [hd]
 exact k _ w (hf.put (Nat.le_of_ble_eq_true hlt) true v) hw hA hk
theorem TA.ex {Φ : Value → Prop} {listed' : Array Bool} (i : Nat) (hi : ops[i]? = some o) (hs : Region.noSelect ops = true) (hfr : Region.free .any ops listed i = true) (hr : (Region.ready .any ops listed).contains i = true) (hl : listed.setIfInBounds i true = listed')
  (hg : o.guard = .none) (hd : o.dst = some d) (hlt : Nat.blt d c.n = true) (h : ∃ v, ValC c o env (Up H0) v ∧ Φ v) (k : ∀ v, Φ v → TA c ops H0 H fuel listed' ((d, true, v) :: env) Q) : TA c ops H0 H (fuel + 1) listed env Q :=
 let ⟨v, h1, h2⟩ := h; TA.take i hi hs hfr hr hl hg hd hlt h1 (k v h2)
def QA (c : Cx) (ops : Array Oper) (H0 : Heap) (fuel : Nat) (listed : Array Bool) (Q : Exit → Act → World → Prop) : Exit → Act → World → Prop := fun e a w =>
 e = .normal ∧ Cls c (Up H0) w ∧ wpAnyH c.P .any ops (Qn Q) (Cls c (Up H0)) fuel listed a w
theorem TA.op {a : Act} {w : World} (i : Nat) (hi : ops[i]? = some o) (hg : o.guard = .none) (hf : Fr c env a) (hw : w.heap = H) (hA : Amb c.W0 w) (k : WL c ops [o] env H (QA c ops H0 fuel (listed.setIfInBounds i true) Q)) :
  wpOp c.P ops (Qn Q) i (fun a' w' => Cls c (Up H0) w' ∧ wpAnyH c.P .any ops (Qn Q) (Cls c (Up H0)) fuel (listed.setIfInBounds i true) a' w') a w := by
 have h := k a w hf hw hA
 have hwant : Region.wanted o (yielded ops a.tmps) = true := by simp [Region.wanted, hg]
 have hnl : ¬ LetsOut (QA c ops H0 fuel (listed.setIfInBounds i true) Q) := fun ⟨_, _, h⟩ => by cases h.1
 unfold wpList at h
 rw [if_pos hwant] at h
 unfold wpOp
 simp only [hi]
 rw [if_pos hwant]
 rcases h with h | h
 ·exact .inl (wp_swap (Q' := QA c ops H0 fuel (listed.setIfInBounds i true) Q) (fun c' a' w' hp => by cases hp.1) hnl (Oper.wp_mono (fun a' w' h' => h'.2) h))
 ·exact (hnl h.2).elim
theorem TA.one (i : Nat) (hi : ops[i]? = some o) (hr : Region.ready .any ops listed = [i]) (hg : o.guard = .none) (k : WL c ops [o] env H (QA c ops H0 fuel (listed.setIfInBounds i true) Q)) : TA c ops H0 H (fuel + 1) listed env Q := by
 intro a w hf hw hA _
 refine wpAnyH_all hr (by simp) fun j hj => ?_
 simp at hj
 subst hj
 exact TA.op j hi hg hf hw hA k
theorem TA.two {o' : Oper} (i j : Nat) (hi : ops[i]? = some o) (hj : ops[j]? = some o') (hr : Region.ready .any ops listed = [i, j]) (hg : o.guard = .none) (hg' : o'.guard = .none)
  (k1 : WL c ops [o] env H (QA c ops H0 fuel (listed.setIfInBounds i true) Q)) (k2 : WL c ops [o'] env H (QA c ops H0 fuel (listed.setIfInBounds j true) Q)) : TA c ops H0 H (fuel + 1) listed env Q := by
 intro a w hf hw hA _
 refine wpAnyH_all hr (by simp) fun x hx => ?_
 simp at hx
 rcases hx with rfl | rfl
 ·exact TA.op _ hi hg hf hw hA k1
 ·exact TA.op _ hj hg' hf hw hA k2
theorem TA.back {H' : Heap} (hk : Keep [] H0 H') (h : TA c ops H0 H' fuel listed env Q) : WL c ops [] env H' (QA c ops H0 fuel listed Q) := fun a w hf hw hA =>
 ⟨rfl, ⟨by rw [hw]; exact hk, hA⟩, h a w hf hw hA hk⟩
theorem Fr.swap {d1 d2 : Nat} {p q : Bool × Value} {a : Act} (hne : d1 ≠ d2) (h : Fr c ((d1, p) :: (d2, q) :: env) a) : Fr c ((d2, q) :: (d1, p) :: env) a := by
 refine ⟨h.size, h.defers, fun t g v hl => h.slot t g v ?_⟩
 rw [← hl]
 unfold look
 by_cases h1 : d1 = t
 ·subst h1
  have e2 : Nat.beq d2 d1 = false := by
   cases hb : Nat.beq d2 d1 with
   | false => rfl
   | true => exact (hne (Nat.eq_of_beq_eq_true hb).symm).elim
  simp [e2, look]
 ·have e1 : Nat.beq d1 t = false := by
   cases hb : Nat.beq d1 t with
   | false => rfl
   | true => exact (h1 (Nat.eq_of_beq_eq_true hb)).elim
  simp [e1, look]
theorem TA.boxes2 {o1 o2 s1 s2 : Oper} {d1 d2 : Nat} {e1 e2 t1 t2 : TypeId} {z1 z2 v1 v2 : Value} {zs1 zs2 cs1 cs2 : List Value} {x1 x2 : Operand} (i : Nat) (h1 : ops[i]? = some o1) (h2 : ops[i + 1]? = some o2) (h3 : ops[i + 2]? = some s1) (h4 : ops[i + 3]? = some s2)
  (hr : Region.ready .any ops listed = [i, i + 1]) (hra : Region.ready .any ops (listed.setIfInBounds i true) = [i + 1]) (hrb : Region.ready .any ops (listed.setIfInBounds (i + 1) true) = [i])
  (hr3 : Region.ready .any ops ((listed.setIfInBounds i true).setIfInBounds (i + 1) true) = [i + 2]) (hr4 : Region.ready .any ops (((listed.setIfInBounds i true).setIfInBounds (i + 1) true).setIfInBounds (i + 2) true) = [i + 3])
  (hr5 : Region.ready .any ops ((((listed.setIfInBounds i true).setIfInBounds (i + 1) true).setIfInBounds (i + 2) true).setIfInBounds (i + 3) true) = [])
  (g1 : o1.guard = .none) (g2 : o2.guard = .none) (g3 : s1.guard = .none) (g4 : s2.guard = .none) (hd1 : o1.dst = some d1) (hd2 : o2.dst = some d2) (hd3 : s1.dst = .none) (hd4 : s2.dst = .none) (hlt1 : Nat.blt d1 c.n = true) (hlt2 : Nat.blt d2 c.n = true) (hne : d1 ≠ d2)
  (ho1 : o1.op = .alloc e1) (ho2 : o2.op = .alloc e2) (ho3 : s1.op = .store t1 (.tmp d1) x1) (ho4 : s2.op = .store t2 (.tmp d2) x2)
  (hz1 : ∀ w, (zeroValue e1).run c.P w = .ok z1 w) (hz2 : ∀ w, (zeroValue e2).run c.P w = .ok z2 w) (hzs1 : z1.cells = zs1.toArray) (hzs2 : z2.cells = zs2.toArray)
  (hx1 : ∀ p q, Ev ((d1, true, p) :: (d2, true, q) :: env) x1 v1) (hx2 : ∀ p q, Ev ((d1, true, p) :: (d2, true, q) :: env) x2 v2) (hv1 : v1.cells = cs1.toArray) (hv2 : v2.cells = cs2.toArray)
  (hw1 : ∀ w, (sizeOf t1).run c.P w = .ok cs1.length w) (hw2 : ∀ w, (sizeOf t2).run c.P w = .ok cs2.length w) (hu1 : ∀ u ∈ cs1, u.oneCell' = true) (hu2 : ∀ u ∈ cs2, u.oneCell' = true) (hl1 : cs1.length = zs1.length) (hl2 : cs2.length = zs2.length)
  (k : ∀ p q H', Bx H' p e1 cs1 → Bx H' q e2 cs2 → H.size ≤ p → H.size ≤ q → p ≠ q → Keep [] H H' → NX c ((d1, true, .pointer (some ⟨p, 0, none⟩)) :: (d2, true, .pointer (some ⟨q, 0, none⟩)) :: env) H' (Q .normal)) :
  TA c ops H H (fuel + 4) listed env Q := by
 have stores : ∀ p q H2, Bx H2 p e1 zs1 → Bx H2 q e2 zs2 → H.size ≤ p → H.size ≤ q → p ≠ q → Keep [] H H2 →
   TA c ops H H2 (fuel + 2) ((listed.setIfInBounds i true).setIfInBounds (i + 1) true) ((d1, true, .pointer (some ⟨p, 0, none⟩)) :: (d2, true, .pointer (some ⟨q, 0, none⟩)) :: env) Q := by
  intro p q H2 hp hq np nq hpq hk
  have ed : Nat.beq d1 d2 = false := by
   cases hb : Nat.beq d1 d2 with
   | false => rfl
   | true => exact (hne (Nat.eq_of_beq_eq_true hb)).elim
  refine TA.one (i + 2) h3 hr3 g3 ?_
  refine WL.store (off := 0) (g := p) (v := v1) (vs := cs1) (cs := zs1) g3 hd3 ho3 ⟨true, by unfold ev look; simp, rfl⟩ (hx1 _ _) hv1 hw1 hu1 hp (by omega) (fun H3 hp3 k3 => ?_)
  have hk3 := hk.then k3 (fun j hj => by simp at hj; subst hj; exact .inr np)
  refine TA.back hk3 (TA.one (i + 3) h4 hr4 g4 ?_)
  refine WL.store (off := 0) (g := q) (v := v2) (vs := cs2) (cs := zs2) g4 hd4 ho4 ⟨true, by unfold ev look; simp [ed]; unfold look; simp, rfl⟩ (hx2 _ _) hv2 hw2 hu2 (hq.keep k3 (by simpa using Ne.symm hpq)) (by omega) (fun H4 hq4 k4 => ?_)
  have hk4 := hk3.then k4 (fun j hj => by simp at hj; subst hj; exact .inr nq)
  refine TA.back hk4 (TA.nil hr5 (k p q H4 ?_ ?_ np nq hpq hk4))
  ·have := hp3.keep k4 (by simpa using hpq)
   simpa [hl1] using this
  ·simpa [hl2] using hq4
 refine TA.two (fuel := fuel + 3) i (i + 1) h1 h2 hr g1 g2 ?_ ?_
 ·refine WL.alloc g1 hd1 hlt1 ho1 hz1 hzs1 (fun p Ha hp np ka => ?_)
  refine TA.back ka (TA.one (i + 1) h2 hra g2 ?_)
  refine WL.alloc g2 hd2 hlt2 ho2 hz2 hzs2 (fun q Hb hq nq kb => ?_)
  have hplt := hp.lt
  refine TA.back (ka.trans kb) (fun a w hf hw hA hk => stores p q Hb (hp.at kb) hq np (Nat.le_trans ka.1 nq) (by omega) (ka.trans kb) a w (Fr.swap (Ne.symm hne) hf) hw hA hk)
 ·refine WL.alloc g2 hd2 hlt2 ho2 hz2 hzs2 (fun q Ha hq nq ka => ?_)
  refine TA.back ka (TA.one i h1 hrb g1 ?_)
  refine WL.alloc g1 hd1 hlt1 ho1 hz1 hzs1 (fun p Hb hp np kb => ?_)
  have hqlt := hq.lt
  rw [show (listed.setIfInBounds (i + 1) true).setIfInBounds i true = (listed.setIfInBounds i true).setIfInBounds (i + 1) true from Array.setIfInBounds_comm _ _ (by omega)]
  exact TA.back (ka.trans kb) (stores p q Hb hp (hq.at kb) (Nat.le_trans ka.1 np) nq (by omega) (ka.trans kb))
end
end Go.NB
end
