/- THE ABSTRACT MACHINE, part 7: operations that change memory. -/
import Derived.Test.YtgbppkcebaoebaaAm6
namespace Go.AM
open Go Go.NB
set_option linter.unusedVariables false
set_option linter.unusedSimpArgs false

/-- a row that goes into another thing is written no more -/
def fz1 (ah : List B) (c : C) : List B × C :=
  match c with
  | .rw j => match ah[j]? with
    | some (.row sz α enc l) => (ah.set j (.fro sz α enc l), .ls sz α enc l)
    | some (.fro sz α enc l) => (ah, .ls sz α enc l)
    | _ => (ah, .rw j)
  | .sw sz j lo n => match ah[j]? with
    | some (.row sz' α enc l) => bif Nat.beq sz sz' then (ah.set j (.fro sz' α enc l), .ls sz' α enc ((l.drop lo).take n)) else (ah, .sw sz j lo n)
    | some (.fro sz' α enc l) => bif Nat.beq sz sz' then (ah, .ls sz' α enc ((l.drop lo).take n)) else (ah, .sw sz j lo n)
    | _ => (ah, .sw sz j lo n)
  | c => (ah, c)

def fz : List B → List C → List B × List C
  | ah, [] => (ah, [])
  | ah, c :: cs => match fz1 ah c with
    | (ah1, c1) => match fz ah1 cs with
      | (ah2, cs2) => (ah2, c1 :: cs2)

/-- cells that mean the same wherever they stand -/
def closed1 : C → Bool
  | .int .. | .bool _ | .str _ | .raw _ | .nil | .ls .. => true
  | _ => false
def closedB : List C → Bool
  | [] => true
  | c :: cs => closed1 c && closedB cs

def fzs : List B → List (List C) → List B × List (List C)
  | ah, [] => (ah, [])
  | ah, cs :: r => match fz ah cs with
    | (ah1, cs1) => match fzs ah1 r with
      | (ah2, r2) => (ah2, cs1 :: r2)

def partsC (s : St) : Nat → List (Nat × Operand) → Option (List (List C))
  | _, [] => some []
  | i, (j, x) :: r => bif Nat.beq i j then match cellsA (opn s x), partsC s (i + 1) r with
    | some cs, some r => some (cs :: r)
    | _, _ => none
    else none

/-- block j is no more -/
def kill (ah : List B) : C → List B
  | .rw j | .sw _ j _ _ => ah.set j .dead
  | _ => ah

/-- what an append may begin with -/
def baseOf (ah : List B) : C → Option (Option LS)
  | .nil => some none
  | .rw j => match ah[j]? with
    | some (.row sz α enc l) => some (some ⟨sz, α, enc, l⟩)
    | _ => none
  | .sw sz j lo n => match ah[j]? with
    | some (.row sz' α enc l) => bif Nat.beq sz sz' then some (some ⟨sz', α, enc, (l.drop lo).take n⟩) else none
    | _ => none
  | _ => none

def srcOf (ah : List B) : C → Option (Option LS)
  | .nil => some none
  | .str l => some (some ⟨1, UInt8, bytesC, l⟩)
  | c => (slOf ah c).map some

def asList (de : TD) (o : Option LS) (xs : List de.α) : Prop := match o with
  | none => xs = []
  | some L => L = ⟨de.size, de.α, de.enc, xs⟩

def Y2 (tab : Nat → Option TD) (s : St) (op : Op) (k : List B → A → Prop) : Prop :=
  match op with
  | .alloc t => match tab t with
    | some d => k (s.ah ++ [.box d.zero]) (.c (.ptr s.ah.length 0))
    | none => False
  | .box t x => match cellsA (opn s x) with
    | some cs => k (s.ah ++ [.box cs]) (.c (.ptr s.ah.length 0))
    | none => False
  | .buildSlice t n parts => match tab t with
    | some d => match d.kind with
      | .sl e => match tab e, partsC s 0 parts.toList with
        | some de, some css => match fzs s.ah css with
          | (ah, css) => bif Nat.ble 1 de.size && Nat.beq css.length n && Nat.ble (n * de.size) 16777216 && css.all (fun cs => closedB cs && Nat.beq cs.length de.size) then
              ∃ xs : List de.α, xs.map de.enc = css ∧ k (ah ++ [.row de.size de.α de.enc xs]) (.c (.rw ah.length)) else False
        | _, _ => False
      | _ => False
    | none => False
  | .makeSlice t x y => match tab t with
    | some d => match d.kind with
      | .sl e => match tab e, opn s x, opn s y with
        | some de, .c (.int .i64 p), .c (.int .i64 q) => bif closedB de.zero && Nat.beq de.zero.length de.size && Nat.ble 1 de.size && Nat.ble 1 de.bytes then
            ∃ (n : Nat) (z : de.α), (p = (n : Int) ∧ q = (n : Int)) ∧ de.enc z = de.zero ∧ n * de.bytes ≤ 140737488355328 ∧ k (s.ah ++ [.row de.size de.α de.enc (List.replicate n z)]) (.c (.rw s.ah.length)) else False
        | _, _, _ => False
      | _ => False
    | none => False
  | .store t x y => match tab t, opn s x, cellsA (opn s y) with
    | some d, .c (.ptr j o), some new => match s.ah[j]? with
      | some (.box cs) => bif Nat.beq new.length d.size && Nat.ble (o + new.length) cs.length then k (s.ah.set j (.box (cs.take o ++ new ++ cs.drop (o + new.length)))) .undef else False
      | _ => False
    | some d, .c (.ep sz j i o), some new => match fz s.ah new with
      | (ah, new) => match ah[j]? with
        | some (.row sz' α enc l) => bif Nat.beq new.length d.size && Nat.beq sz sz' && closedB new then
            ∃ x x' : α, l[i]? = some x ∧ (o + new.length ≤ sz ∧ enc x' = (enc x).take o ++ new ++ (enc x).drop (o + new.length)) ∧ k (ah.set j (.row sz' α enc (l.set i x'))) .undef else False
        | _ => False
    | _, _, _ => False
  | .convert t u x => match tab t, tab u, opn s x with
    | some d, some d', .c (.str l) => match d.kind, d'.kind with
      | .str, .sl e => match tab e with
        | some de => match de.kind with
          | .int .u8 => k s.ah (.c (.ls 1 UInt8 bytesC l))
          | _ => False
        | none => False
      | _, _ => False
    | some d, some d', .c (.rw j) => match d.kind, d'.kind with
      | .sl e, .sl e' => bif Nat.beq e e' && Nat.beq t u then match tab e with
        | some de => match de.kind with
          | .int .u8 => match s.ah[j]? with
            | some (.row 1 α enc (y :: l)) => k (s.ah.set j (.fro 1 α enc (y :: l))) (.c (.ls 1 α enc (y :: l)))
            | _ => False
          | _ => False
        | none => False
        else False
      | _, _ => False
    | _, _, _ => False
  | .call c => match c.callee, c.args.toList, c.argTypes.toList with
    | .builtin .append, [x, y], [t, t2] => match tab t, tab t2 with
      | some d, some d2 => match d.kind with
        | .sl e => match tab e, opn s x, opn s y with
          | some de, .c cx, .c cy => match baseOf s.ah cx, srcOf s.ah cy with
            | some bx, some by_ => bif (match d2.kind with | .sl _ => true | .str => true | _ => false) && Nat.ble 1 de.bytes then
                ∃ xs ys : List de.α, asList de bx xs ∧ asList de by_ ys ∧ (xs.length + ys.length) * de.bytes ≤ 140737488355328 ∧ k (kill s.ah cx ++ [.row de.size de.α de.enc (xs ++ ys)]) (.c (.rw s.ah.length)) else False
            | _, _ => False
          | _, _, _ => False
        | _ => False
      | _, _ => False
    | .builtin .clear, [x], [t] => match tab t with
      | some d => match d.kind with
        | .sl e => match tab e, opn s x with
          | some de, .c (.sw sz j lo n) => match s.ah[j]? with
            | some (.row sz' α enc l) => bif Nat.beq sz sz' && (Nat.beq sz de.size && Nat.ble 1 de.size && closedB de.zero) then
                ∃ z : α, enc z = de.zero ∧ lo + n ≤ l.length ∧ k (s.ah.set j (.row sz' α enc (l.take lo ++ (List.replicate n z ++ l.drop (lo + n))))) .undef else False
            | _ => False
          | _, _ => False
        | _ => False
      | none => False
    | _, _, _ => False
  | _ => False

/-- operations that write nothing that is there -/
def grows (s : St) : Op → Bool
  | .alloc _ | .box .. | .buildSlice .. | .makeSlice .. => true
  | .convert _ _ x => match opn s x with
    | .c (.rw _) => false
    | _ => true
  | .call c => match c.args.toList with
    | x :: _ => match opn s x with
      | .c .nil => true
      | _ => false
    | _ => false
  | _ => false

section
variable {P : Program} {tab : Nat → Option TD} {E : En} {F : Nat → Prop} {γ : List Value} {s : St} {a : Act} {w : World} {o : Oper}

/-- from one reading to a later one -/
structure Step (E : En) (F : Nat → Prop) (γ : List Value) (H : Heap) (F' : Nat → Prop) (γ' : List Value) (ah' : List B) (H' : Heap) : Prop where
  wr : WR E F' γ' ah' H'
  ext : Ext F H ⟨E.B, γ⟩ F' H' ⟨E.B, γ'⟩

/-- what an operation does -/
def Dn (P : Program) (s : St) (E : En) (F : Nat → Prop) (γ : List Value) (a : Act) (w : World) (o : Oper) (k : List B → A → Prop) : Prop :=
  ∃ nx v w' ah' x F' γ', ((nx = .value v ∨ (nx = Next.skip ∧ v = undef)) ∧ (execOp a.eval o).run P w = .ok nx w') ∧ Amb w w' ∧ k ah' x ∧ Step E F γ w.heap F' γ' ah' w'.heap ∧ RA F' w'.heap ⟨E.B, γ'⟩ x v ∧ (grows s o.op = true → Keep [] w.heap w'.heap)

theorem closed_up {H : Heap} {m m' : Md} {cs : List C} {vs : List Value} (h : RL F H m cs vs) (hc : closedB cs = true) : RL F H m' cs vs := by
  induction h with
  | nl => exact .nl
  | int _ ih => simp [closedB, closed1] at hc; exact .int (ih hc)
  | bool _ ih => simp [closedB, closed1] at hc; exact .bool (ih hc)
  | str h _ ih => simp [closedB, closed1] at hc; exact .str h (ih hc)
  | raw h _ ih => simp [closedB, closed1] at hc; exact .raw h (ih hc)
  | nil _ ih => simp [closedB, closed1] at hc; exact .nil (ih hc)
  | ls0 _ ih => simp [closedB, closed1] at hc; exact .ls0 (ih hc)
  | ls hb h1 h2 hr hz hcc _ _ ih => simp [closedB, closed1] at hc; exact .ls hb h1 h2 hr hz hcc (ih hc)
  | _ => simp [closedB, closed1] at hc

theorem RL.ptr' {H : Heap} {m : Md} {sz : Nat} {α : Type} {enc : α → List C} {l : List α} {p q : Option Addr} {n cap : Nat} (h : RL F H m [.ls sz α enc l] [.slice p n cap]) (hq : cap ≠ 0 → q = p) : RL F H m [.ls sz α enc l] [.slice q n cap] := by
  by_cases e : cap = 0
  · obtain ⟨p', cap', e', h1, _⟩ := h.sv.slice
    cases e'
    have h1 : l.length ≤ cap := h1
    have : l = [] := List.eq_nil_of_length_eq_zero (by omega)
    subst this
    rw [e]
    exact .ls0 .nl
  · rw [hq e]; exact h

/-- frozen, it reads the same -/
theorem fz1_sound {H : Heap} {ah : List B} {c : C} {v : Value} (hW : WR E F γ ah H) (h : RL F H ⟨E.B, γ⟩ [c] [v]) : ∃ F', (∀ k, F k → F' k) ∧ WR E F' γ (fz1 ah c).1 H ∧ RL F' H ⟨E.B, γ⟩ [(fz1 ah c).2] [v] ∧ (fz1 ah c).1.length = ah.length := by
  have same : ∃ F', (∀ k, F k → F' k) ∧ WR E F' γ ah H ∧ RL F' H ⟨E.B, γ⟩ [c] [v] ∧ ah.length = ah.length := ⟨F, fun _ h => h, hW, h, rfl⟩
  cases c with
  | rw j =>
    cases h with
    | rw hg hqq _ =>
      cases hb : ah[j]? with
      | none => rw [show fz1 ah (.rw j) = (ah, .rw j) by simp [fz1, hb]]; exact same
      | some b =>
        cases b with
        | row sz α enc l =>
          obtain ⟨F', h1, h2, h3⟩ := hW.freeze hb
          rw [show fz1 ah (.rw j) = (ah.set j (.fro sz α enc l), .ls sz α enc l) by simp [fz1, hb]]
          exact ⟨F', h1, h2, ((h3 _ hg).up).ptr' hqq, by simp⟩
        | fro sz α enc l =>
          rw [show fz1 ah (.rw j) = (ah, .ls sz α enc l) by simp [fz1, hb]]
          exact ⟨F, fun _ h => h, hW, (RL.up (hW.br _ _ _ hb hg)).ptr' hqq, rfl⟩
        | box cs => rw [show fz1 ah (.rw j) = (ah, .rw j) by simp [fz1, hb]]; exact same
        | dead => rw [show fz1 ah (.rw j) = (ah, .rw j) by simp [fz1, hb]]; exact same
  | sw sz j lo n =>
    have cut : ∀ {F' : Nat → Prop} {α : Type} {enc : α → List C} {l : List α} {p q : Option Addr} {n0 cap : Nat}, lo + n ≤ n0 → (cap ≠ lo → q = p.map (·.add (lo * sz))) → RL F' H m0 [.ls sz α enc l] [.slice p n0 cap] → RL F' H ⟨E.B, γ⟩ [.ls sz α enc ((l.drop lo).take n)] [.slice q n (cap - lo)] := fun {F' α enc l p q n0 cap} hle hq hr => by
      have hn : n0 = l.length := by
        obtain ⟨p', cap', e, _⟩ := hr.sv.slice
        cases e; rfl
      by_cases e : cap = lo
      · obtain ⟨p', cap', e', h1, _⟩ := hr.sv.slice
        cases e'
        have h1 : l.length ≤ cap := h1
        obtain rfl : n = 0 := by omega
        rw [List.take_zero, e, Nat.sub_self]
        exact .ls0 .nl
      · have := (hr.up (m := ⟨E.B, γ⟩)).cut (x := lo) (y := lo + n) (by omega) (by omega)
        simp only [subv, if_neg e] at this
        rw [hq e]
        rw [show lo + n - lo = n by omega] at this
        exact this
    cases h with
    | sw hg hle hq _ =>
      cases hb : ah[j]? with
      | none => rw [show fz1 ah (.sw sz j lo n) = (ah, .sw sz j lo n) by simp [fz1, hb]]; exact same
      | some b =>
        cases b with
        | row sz' α enc l =>
          by_cases hz : Nat.beq sz sz' = true
          · obtain rfl := Nat.eq_of_beq_eq_true hz
            obtain ⟨F', h1, h2, h3⟩ := hW.freeze hb
            rw [show fz1 ah (.sw sz j lo n) = (ah.set j (.fro sz α enc l), .ls sz α enc ((l.drop lo).take n)) by simp only [fz1, hb, hz, cond_true]]
            exact ⟨F', h1, h2, cut hle hq (h3 _ hg), by simp⟩
          · rw [Bool.not_eq_true] at hz
            rw [show fz1 ah (.sw sz j lo n) = (ah, .sw sz j lo n) by simp only [fz1, hb, hz, cond_false]]
            exact same
        | fro sz' α enc l =>
          by_cases hz : Nat.beq sz sz' = true
          · obtain rfl := Nat.eq_of_beq_eq_true hz
            rw [show fz1 ah (.sw sz j lo n) = (ah, .ls sz α enc ((l.drop lo).take n)) by simp only [fz1, hb, hz, cond_true]]
            exact ⟨F, fun _ h => h, hW, cut hle hq (hW.br _ _ _ hb hg), rfl⟩
          · rw [Bool.not_eq_true] at hz
            rw [show fz1 ah (.sw sz j lo n) = (ah, .sw sz j lo n) by simp only [fz1, hb, hz, cond_false]]
            exact same
        | box cs => rw [show fz1 ah (.sw sz j lo n) = (ah, .sw sz j lo n) by simp [fz1, hb]]; exact same
        | dead => rw [show fz1 ah (.sw sz j lo n) = (ah, .sw sz j lo n) by simp [fz1, hb]]; exact same
  | _ => exact same

theorem frozen_ext {F F' : Nat → Prop} {H : Heap} {m : Md} (h : ∀ k, F k → F' k) : Ext F H m F' H m := ⟨h, fun _ _ _ _ h => h, fun _ h => h, fun _ _ h => h⟩

theorem fz_sound {H : Heap} : ∀ {cs : List C} {vs : List Value} {F : Nat → Prop} {ah : List B}, WR E F γ ah H → RL F H ⟨E.B, γ⟩ cs vs → ∃ F', (∀ k, F k → F' k) ∧ WR E F' γ (fz ah cs).1 H ∧ RL F' H ⟨E.B, γ⟩ (fz ah cs).2 vs ∧ (fz ah cs).1.length = ah.length
  | [], vs, F, ah, hW, h => ⟨F, fun _ h => h, hW, by cases h; exact .nl, rfl⟩
  | c :: cs, vs, F, ah, hW, h => by
    obtain ⟨v, us, rfl, h1, h2⟩ := h.uncons
    obtain ⟨F1, a1, a2, a3, a4⟩ := fz1_sound hW h1
    obtain ⟨F2, b1, b2, b3, b4⟩ := fz_sound a2 (h2.ext (frozen_ext a1))
    refine ⟨F2, fun k hk => b1 k (a1 k hk), ?_, ?_, ?_⟩
    · unfold fz; exact b2
    · unfold fz; exact (a3.ext (frozen_ext b1)).cons b3
    · unfold fz; exact b4.trans a4

/-- lists of cells, each a thing -/
inductive RLL (F : Nat → Prop) (H : Heap) (m : Md) : List (List C) → List (List Value) → Prop
  | nil : RLL F H m [] []
  | cons {cs vs css vss} : RL F H m cs vs → RLL F H m css vss → RLL F H m (cs :: css) (vs :: vss)

theorem RLL.ext {F F' : Nat → Prop} {H H' : Heap} {m m' : Md} (e : Ext F H m F' H' m') {css : List (List C)} {vss : List (List Value)} (h : RLL F H m css vss) : RLL F' H' m' css vss := by
  induction h with
  | nil => exact .nil
  | cons h _ ih => exact .cons (h.ext e) ih

theorem fzs_sound {H : Heap} : ∀ {css : List (List C)} {vss : List (List Value)} {F : Nat → Prop} {ah : List B}, WR E F γ ah H → RLL F H ⟨E.B, γ⟩ css vss → ∃ F', (∀ k, F k → F' k) ∧ WR E F' γ (fzs ah css).1 H ∧ RLL F' H ⟨E.B, γ⟩ (fzs ah css).2 vss ∧ (fzs ah css).1.length = ah.length
  | [], vss, F, ah, hW, h => ⟨F, fun _ h => h, hW, by cases h; exact .nil, rfl⟩
  | cs :: css, _, F, ah, hW, .cons (vs := vs) (vss := vss) h1 h2 => by
    obtain ⟨F1, a1, a2, a3, a4⟩ := fz_sound hW h1
    obtain ⟨F2, b1, b2, b3, b4⟩ := fzs_sound a2 (h2.ext (frozen_ext a1))
    refine ⟨F2, fun k hk => b1 k (a1 k hk), ?_, ?_, ?_⟩
    · unfold fzs; exact b2
    · unfold fzs; exact .cons (a3.ext (frozen_ext b1)) b3
    · unfold fzs; exact b4.trans a4
end
end Go.AM
