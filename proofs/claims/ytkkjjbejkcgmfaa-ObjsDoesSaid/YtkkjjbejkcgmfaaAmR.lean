/- THE ABSTRACT MACHINE: a function that defers a closure, which may recover. -/
import Derived.Test.YtkkjjbejkcgmfaaAm19
import Derived.Recover
namespace Go.AM
open Go Go.NB
set_option linter.unusedVariables false
set_option linter.unusedSimpArgs false

section
variable {E : En} {F F' : Nat → Prop} {γ γ1 : List Value} {ah : List B} {H H' : Heap} {m m' : Md}

theorem WR.base (h : WR E F γ ah H) : WR { E with γ0 := γ } F γ ah H :=
  ⟨h.len, h.br, h.disj, h.nf, h.fb, h.bb, h.size, h.keep, h.fmono, h.fnew, h.onew, fun _ _ h => h⟩
theorem WR.unbase (h : WR { E with γ0 := γ1 } F γ ah H) (hp : ∀ (j : Nat) (v : Value), E.γ0[j]? = some v → γ1[j]? = some v) : WR E F γ ah H :=
  ⟨h.len, h.br, h.disj, h.nf, h.fb, h.bb, h.size, h.keep, h.fmono, h.fnew, h.onew, fun j v hj => h.pre j v (hp j v hj)⟩

def ptrB : List C → Bool
  | [] => true
  | .ptr _ _ :: r => ptrB r
  | _ => false
theorem RL.ptrs {cs : List C} {vs : List Value} (h : RL F H m cs vs) : (∀ (j : Nat) (v : Value), m.γ[j]? = some v → m'.γ[j]? = some v) → ptrB cs = true → RL F' H' m' cs vs := by
  induction h with
  | nl => exact fun _ _ => .nl
  | ptr hg t ih => exact fun hγ hp => .ptr (hγ _ _ hg) (ih hγ hp)
  | _ => intro _ hp; cases hp

def ptrO : A → A
  | .c (.ptr j o) => .c (.ptr j o)
  | _ => .undef
def ptrE : List (Nat × A) → List (Nat × A)
  | [] => []
  | (t, x) :: r => (t, ptrO x) :: ptrE r
theorem lk_ptrE {t : Nat} {y : A} : ∀ {env : List (Nat × A)}, lk (ptrE env) t = some y → ∃ x, lk env t = some x ∧ y = ptrO x
  | [], h => by cases h
  | (s, x) :: r, h => by
    unfold ptrE lk at h
    unfold lk
    by_cases e : Nat.beq s t = true
    · rw [e] at h ⊢; cases h; exact ⟨x, rfl, rfl⟩
    · rw [Bool.not_eq_true] at e; rw [e] at h ⊢; exact lk_ptrE h
theorem ER.ptrs {env : List (Nat × A)} {a : Act} (h : ER F H m env a) (hγ : ∀ (j : Nat) (v : Value), m.γ[j]? = some v → m'.γ[j]? = some v) : ER F' H' m' (ptrE env) a := fun t y hl => by
  obtain ⟨x, h1, rfl⟩ := lk_ptrE hl
  have := h t x h1
  cases x with
  | c z =>
    cases z with
    | ptr j o => exact RL.ptrs this hγ rfl
    | _ => trivial
  | _ => trivial
end

/-- a deferred closure, entered in mode u: it leaves mode u' -/
structure ClD (P : Program) (g : FuncId) (u u' : FrameMode) (cs : List C) (ah : List B) (K : List B → Prop) : Prop where
  ok : ∀ (E : En) (F : Nat → Prop) (w : World) (us : List Value), RL F w.heap ⟨E.B, E.γ0⟩ cs us → WR E F E.γ0 ah w.heap →
    CallsD P g us.toArray u w fun e u2 w2 => e = .returned (.tuple #[]) ∧ u2 = u' ∧ Amb w w2 ∧ ∃ ah2 F2 γ2, K ah2 ∧ WR E F2 γ2 ah2 w2.heap

/-- the panic whose value is this -/
def panU (t : TypeId) (b : Bool) : FrameMode := .panicking [{ v := .iface t (.agg #[]), recovered := b }]

/-- what is to be shown at the ends of a function that has deferred a closure -/
def Kr (c : Cfg) (fn : Func) (Q : Out → List B → Prop) (g : FuncId) (cs : List C) : XE → St → Prop
  | .normal, s => ClD c.P g .returning .returning cs s.ah fun ah2 => RetOK c fn Q ⟨ptrE s.env, ah2⟩
  | .ret, s => ClD c.P g .returning .returning cs s.ah fun ah2 => RetOK c fn Q ⟨ptrE s.env, ah2⟩
  | .pan (.c (.iface t true [])), s => ClD c.P g (panU t false) (panU t true) cs s.ah fun ah2 => RetOK c fn Q ⟨ptrE s.env, ah2⟩
  | _, _ => False

theorem X_rec (c : Cfg) (hT : TabOk c.P c.tab) (hm : c.P.follows .mixedOrders = true) {f : FuncId} {fn : Func} {R0 rest : Code} {args : List A} {ah : List B} {Q : Out → List B → Prop} {i1 : Nat} {o1 o2 : Oper} {g : FuncId} {caps : Array Operand} {tys : Array TypeId} {d : Nat}
    (hcall : ∀ args w, (callFunc f args).run c.P w = .ok (.enter f args) w) (hf : c.P.funcs[f]? = some fn) (hb : fn.body = some (.seq R0 (.seq (.region i1 #[o1, o2] false) rest))) (hn : fn.ntmps = c.n) (hl : Nat.ble args.length c.n = true) (hn0 : ah.length = c.n0)
    (ho1 : o1.op = .makeFunc (.func g) #[] caps) (hd1 : o1.dst = some d) (hg1 : o1.guard = none) (ho2 : o2.op = .defer ⟨.value (.tmp d), #[], tys⟩) (hd2 : o2.dst = none) (hg2 : o2.guard = none) (hd : Nat.blt d c.n = true)
    (hcallg : ∀ args w, (callFunc g args).run c.P w = .ok (.enter g args) w)
    (h : bndAs args ∧ bndB ah → X c R0 ⟨argE 0 args, ah⟩ fun e s => match e with
      | .normal => ∃ cs, (capsC s caps.toList = some cs ∧ ptrB cs = true) ∧ XM ⟨c.P, c.tab, c.n, s.ah.length⟩ rest ⟨(d, .undef) :: s.env, s.ah⟩ (Kr c fn Q g cs)
      | _ => False) : Does c.P f args ah Q := by
  intro F L γ H vs hargs hW w hw
  have h := h ⟨bndAs_of hargs, bndB_of hW.len.symm (fun j b g h1 h2 => hW.br j b g h1 h2)⟩
  subst hw
  rw [hcall]
  refine ⟨rfl, calls_of_wp_defers hf hb ?_⟩
  have hlen := RAs_len hargs
  have hl := Nat.le_of_ble_eq_true hl
  have hd := Nat.le_of_ble_eq_true hd
  have hn' : (en F L γ ah w.heap).γ0.length = c.n0 := by rw [← hn0]; exact hW.len
  refine wp_seq (Code.wp_mono (fun e a w1 hq => ?_) (X_sound (r := ⟨en F L γ ah w.heap, [], w⟩) hT hm hn' R0 _ _ _ w h ⟨F, γ, ?_, rfl, Amb.refl _, hW, ?_, trivial⟩))
  · cases e with
    | normal =>
      obtain ⟨s, ⟨cs, ⟨hcs, hptr⟩, hrest⟩, F1, γ1, h1, h2, h3, hW1, hE1, _⟩ := hq
      have hcs1 := capsC_sound hE1 hcs
      refine wp_seq (wp_region_lit ?_)
      refine wpList_step fun KK hK => ?_
      rw [if_pos (by simp [Region.wanted, hg1])]
      have run1 : (execOp a.eval o1).run c.P w1 = .ok (.value (.func (.func g) #[] (caps.toList.map a.eval).toArray)) w1 := by
        have hc : caps.map a.eval = (caps.toList.map a.eval).toArray := by simp [← Array.toList_map]
        rw [← hc]; unfold execOp; rw [ho1]; simp [Instr.makeFunc]
      unfold Oper.wp
      rw [run1]
      refine hK _ _ ?_
      refine wpList_step fun KK hK => ?_
      rw [if_pos (by simp [Region.wanted, hg2])]
      have hev : (a.put o1.dst (.func (.func g) #[] (caps.toList.map a.eval).toArray)).tmps.getD d undef = .func (.func g) #[] (caps.toList.map a.eval).toArray := by
        rw [hd1]
        simp [Act.put, Array.getD, h1, hd]
        omega
      have run2 : (execOp (a.put o1.dst (.func (.func g) #[] (caps.toList.map a.eval).toArray)).eval o2).run c.P w1 = .ok (.defer { target := .fn (.func g) (caps.toList.map a.eval).toArray, args := #[] }) w1 := by
        unfold execOp; rw [ho2]; simp [resolve, Act.eval, hev, Deferred.ofValue]
      unfold Oper.wp
      rw [run2]
      refine hK _ _ (wpList_nil ?_)
      rw [hd1, hd2]
      let r1 : Run := ⟨{ en F L γ ah w.heap with γ0 := γ1 }, [{ target := .fn (.func g) (caps.toList.map a.eval).toArray, args := #[] }], w⟩
      refine Code.wp_mono (Q := Qk ⟨c.P, c.tab, c.n, s.ah.length⟩ r1 (Kr c fn Q g cs)) (fun e a' w' hq => ?_) (hrest.ok hT hm r1 hW1.len _ w1 ⟨F1, γ1, ?_, ?_, h3, hW1.base, ?_, trivial⟩)
      · have fin : ∀ (s' : St) (F2 : Nat → Prop) (γ2 : List Value) (u u' : FrameMode), u ≠ .run → settle u' = .returning → ClD c.P g u u' cs s'.ah (fun ah2 => RetOK c fn Q ⟨ptrE s'.env, ah2⟩) → a'.defers = r1.ds → Amb w w' →
            WR r1.E F2 γ2 s'.ah w'.heap → ER F2 w'.heap ⟨L, γ2⟩ s'.env a' → Leaves c.P fn a'.tmps (fun e w' => (∃ v, e = .returned v ∧ Behind F L γ ah w.heap Q true v w'.heap ∧ Amb w w') ∨ (∃ v, e = .panicked [{ v := v, recovered := false }] ∧ Behind F L γ ah w.heap Q false v w'.heap ∧ Amb w w')) a'.defers u w' := by
          intro s' F2 γ2 u u' hu hset hcl hds hA hW2 hE2
          rw [hds]
          refine leaves_cons (f := g) (args := (caps.toList.map a.eval).toArray) hu ?_ ?_
          · simp only [invoke]
            rw [hcallg]
            simp
          · refine (hcl.ok { en F L γ ah w.heap with γ0 := γ2 } F2 w' _ (hcs1.ptrs hW2.pre hptr) hW2.base).mono ?_
            rintro e u2 w2 ⟨he, hu2, hA2, ah2, F3, γ3, hret, hW3⟩
            subst he
            rw [← hu2] at hset
            show Leaves c.P fn a'.tmps _ [] (settle u2) w2
            rw [hset]
            have hW3' : WR (en F L γ ah w.heap) F3 γ3 ah2 w2.heap := WR.unbase (E := en F L γ ah w.heap) (γ1 := γ2) hW3 (fun j v hj => hW2.pre j v (hW1.pre j v hj))
            have hE3 : ER F3 w2.heap ⟨L, γ3⟩ (ptrE s'.env) a' := hE2.ptrs hW3.pre
            obtain ⟨v, hv, hbb⟩ := ret_sound hT hn' hret hW3' hE3
            exact ⟨v, hv, .inl ⟨v, rfl, hbb, hA.trans hA2⟩⟩
        cases e with
        | normal => obtain ⟨s', hK', F2, γ2, g1, g2, g3, g4, g5, _⟩ := hq; exact fin s' F2 γ2 _ _ (by simp) rfl hK' g2 g3 g4 g5
        | ret => obtain ⟨s', hK', F2, γ2, g1, g2, g3, g4, g5, _⟩ := hq; exact fin s' F2 γ2 _ _ (by simp) rfl hK' g2 g3 g4 g5
        | exit id => obtain ⟨s', hK', _⟩ := hq; exact hK'.elim
        | goto l => exact hq.elim
        | outgrown => exact hq.elim
        | panic ch =>
          obtain ⟨v, x, s', rfl, hK', F2, γ2, g1, g2, g3, g4, g5, hx⟩ := hq
          cases x with
          | c z =>
            cases z with
            | iface t ag cs' =>
              cases ag with
              | false => exact hK'.elim
              | true =>
                cases cs' with
                | cons y ys => exact hK'.elim
                | nil =>
                  cases hx with
                  | iface hr _ =>
                    cases hr
                    exact fin s' F2 γ2 _ _ (by simp) rfl hK' g2 g3 g4 g5
            | _ => exact hK'.elim
          | _ => exact hK'.elim
      · simp [Act.put, h1]
      · simp [Act.put, h2, r1]
      · exact hE1.put (x := .undef) (by rw [h1]; exact hd) trivial
    | exit id => obtain ⟨s, h, _⟩ := hq; exact h.elim
    | goto l => exact hq.elim
    | ret => obtain ⟨s, h, _⟩ := hq; exact h.elim
    | outgrown => exact hq.elim
    | panic ch => obtain ⟨v, x, s, _, h, _⟩ := hq; exact h.elim
  · simp [hn]; omega
  · refine argE_sound hargs fun q v hq => ?_
    have hlt := (List.getElem?_eq_some_iff.1 hq).1
    rw [Nat.zero_add]
    simp only [Array.getD_eq_getD_getElem?]
    rw [Array.getElem?_append_left (by simpa using hlt)]
    simp [hq]
end Go.AM
