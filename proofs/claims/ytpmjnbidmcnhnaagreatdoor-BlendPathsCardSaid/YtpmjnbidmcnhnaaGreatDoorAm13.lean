/- part -/
import Derived.Test.YtpmjnbidmcnhnaaGreatDoorAm12
set_option linter.unusedVariables false
set_option linter.unusedSimpArgs false
namespace Go.AM
open Go Go.NB
def ren1 (σ : Nat → Nat) : C → C
 | .rw j => .rw (σ j)
 | .sw sz j lo n => .sw sz (σ j) lo n
 | .ptr j o => .ptr (σ j) o
 | c => c
def clean1 : C → Bool
 | .rw _ | .sw .. | .ptr .. => true
 | .iface _ _ cs => closedB cs
 | c => closed1 c
def cleanB : List C → Bool
 | [] => true
 | c :: cs => clean1 c && cleanB cs
def renB (σ : Nat → Nat) : B → B
 | .box cs => .box (cs.map (ren1 σ))
 | b => b
def cleanBlk : B → Bool
 | .box cs => cleanB cs
 | _ => true
def renA (σ : Nat → Nat) : A → A
 | .c x => .c (ren1 σ x)
 | .st cs => .st (cs.map (ren1 σ))
 | .tup ts => .tup (ts.map fun t => (t.1, t.2.map (ren1 σ)))
 | a => a
def cleanA : A → Bool
 | .c x => clean1 x
 | .st cs => cleanB cs
 | .tup ts => ts.all fun t => cleanB t.2
 | .undef => true
 | .off => false
inductive Out : Type 1 where
 | ret (a : A)
 | pan (a : A)
def Out.a : Out → A
 | .ret a => a
 | .pan a => a
section
variable {F : Nat → Prop} {H : Heap} {m m' : Md} {σ : Nat → Nat}
theorem ren_sound (hσ : ∀ (j : Nat) (g : Value), m.γ[j]? = some g → m'.γ[σ j]? = some g) {cs : List C} {vs : List Value} (h : RL F H m cs vs) (hc : cleanB cs = true) : RL F H m' (cs.map (ren1 σ)) vs := by
 induction h with
 | nl => exact .nl
 | int _ ih => simp [cleanB, clean1, closed1] at hc; exact .int (ih hσ hc)
 | bool _ ih => simp [cleanB, clean1, closed1] at hc; exact .bool (ih hσ hc)
 | str h _ ih => simp [cleanB, clean1, closed1] at hc; exact .str h (ih hσ hc)
 | raw h _ ih => simp [cleanB, clean1, closed1] at hc; exact .raw h (ih hσ hc)
 | nil _ ih => simp [cleanB, clean1, closed1] at hc; exact .nil (ih hσ hc)
 | ls0 _ ih => simp [cleanB, clean1, closed1] at hc; exact .ls0 (ih hσ hc)
 | ls hb h1 h2 hr hz hcc _ _ ih => simp [cleanB, clean1, closed1] at hc; exact .ls hb h1 h2 hr hz hcc (ih hσ hc)
 | rw hg hq _ ih => simp [cleanB, clean1] at hc; exact .rw (hσ _ _ hg) hq (ih hσ hc)
 | sw hg hle hq _ ih => simp [cleanB, clean1] at hc; exact .sw (hσ _ _ hg) hle hq (ih hσ hc)
 | ptr hg _ ih => simp [cleanB, clean1] at hc; exact .ptr (hσ _ _ hg) (ih hσ hc)
 | iface hr _ _ ih => simp [cleanB, clean1] at hc; exact .iface (closed_up hr hc.1) (ih hσ hc.2)
 | _ => simp [cleanB, clean1, closed1] at hc
theorem renT_sound (hσ : ∀ (j : Nat) (g : Value), m.γ[j]? = some g → m'.γ[σ j]? = some g) : ∀ {ts : List (Bool × List C)} {vs : List Value}, RT F H m ts vs → (ts.all fun t => cleanB t.2) = true → RT F H m' (ts.map fun t => (t.1, t.2.map (ren1 σ))) vs
 | [], [], _, _ => trivial
 | (g, cs) :: ts, v :: vs, ⟨⟨us, h1, h2, h3⟩, h⟩, hc => by
  simp only [List.all_cons, Bool.and_eq_true] at hc
  exact ⟨⟨us, ren_sound hσ h1 hc.1, h2, fun h => by simp [h3 h]⟩, renT_sound hσ h hc.2⟩
theorem renA_sound (hσ : ∀ (j : Nat) (g : Value), m.γ[j]? = some g → m'.γ[σ j]? = some g) {a : A} {v : Value} (h : RA F H m a v) (hc : cleanA a = true) : RA F H m' (renA σ a) v := by
 cases a with
 | undef => trivial
 | off => cases hc
 | c x => exact ren_sound hσ (cs := [x]) h (by simpa [cleanB, cleanA] using hc)
 | st cs => obtain ⟨vs, rfl, h⟩ := h; exact ⟨vs, rfl, ren_sound hσ h hc⟩
 | tup ts => obtain ⟨vs, rfl, h⟩ := h; exact ⟨vs, rfl, renT_sound hσ h hc⟩
theorem renB_sound (hσ : ∀ (j : Nat) (g : Value), m.γ[j]? = some g → m'.γ[σ j]? = some g) {b : B} {g : Value} (h : BR F H m b g) (hc : cleanBlk b = true) : BR F H m' (renB σ b) g := by
 cases b with
 | box cs => obtain ⟨k, e, vs, h1, h2, h3⟩ := h; exact ⟨k, e, vs, h1, h2, ren_sound hσ h3 hc⟩
 | row sz α enc l => exact h
 | fro sz α enc l => exact h
 | dead => trivial
theorem obv_ren {b : B} {g : Value} : obv (renB σ b) g = obv b g := by
 cases g with
 | pointer p => cases b <;> cases p <;> rfl
 | _ => cases b <;> rfl
end
def RAs (F : Nat → Prop) (H : Heap) (m : Md) : List A → List Value → Prop
 | [], [] => True
 | a :: as, v :: vs => RA F H m a v ∧ RAs F H m as vs
 | _, _ => False
structure AmbD (d : Bool) (w w' : World) : Prop where
 os : w'.os = w.os
 tape : w'.tape = w.tape
 output : w'.output = w.output
 drawn : d = true → w.drawn ≤ w'.drawn
theorem AmbD.refl {d : Bool} (w : World) : AmbD d w w := ⟨rfl, rfl, rfl, fun _ => Nat.le_refl _⟩
theorem AmbD.trans {d : Bool} {a b c : World} (h : AmbD d a b) (k : AmbD d b c) : AmbD d a c := ⟨k.os.trans h.os, k.tape.trans h.tape, k.output.trans h.output, fun e => Nat.le_trans (h.drawn e) (k.drawn e)⟩
theorem AmbD.of {d : Bool} {a b : World} (h : Amb a b) : AmbD d a b := ⟨h.os, h.tape, h.output, fun _ => h.drawn⟩
theorem AmbD.weak {d : Bool} {a b : World} (h : AmbD d a b) : AmbD false a b := ⟨h.os, h.tape, h.output, fun e => by cases e⟩
def UponP (d : Bool) (P : Program) (w : World) (R : Bool → Value → Heap → Prop) : Result Next → Prop
 | .ok (.value v) w' => w' = w ∧ R true v w.heap
 | .ok (.enter f args) w' => w' = w ∧ Calls P f args w fun e w' => (∃ v, e = .returned v ∧ R true v w'.heap ∧ AmbD d w w') ∨ (∃ v, e = .panicked [{ v := v, recovered := false }] ∧ R false v w'.heap ∧ AmbD d w w')
 | _ => False
def CallsP (d : Bool) (P : Program) (f : FuncId) (args : Array Value) (H : Heap) (R : Bool → Value → Heap → Prop) : Prop :=
 ∀ w : World, w.heap = H → UponP d P w R ((callFunc f args).run P w)
theorem CallsP.mono {d : Bool} {P : Program} {f : FuncId} {args : Array Value} {H : Heap} {R R' : Bool → Value → Heap → Prop} (h : CallsP d P f args H R) (hr : ∀ b v H', R b v H' → R' b v H') : CallsP d P f args H R' := by
 intro w hw
 have := h w hw
 unfold UponP at *
 split at this
 ·exact ⟨this.1, hr _ _ _ this.2⟩
 ·refine ⟨this.1, this.2.mono fun e w' h => ?_⟩
  rcases h with ⟨v, h1, h2, h3⟩ | ⟨v, h1, h2, h3⟩
  ·exact .inl ⟨v, h1, hr _ _ _ h2, h3⟩
  ·exact .inr ⟨v, h1, hr _ _ _ h2, h3⟩
 ·exact this.elim
def en (F L : Nat → Prop) (γ : List Value) (ah : List B) (H : Heap) : En := ⟨F, L, owned γ ah, H, γ⟩
def Behind (F L : Nat → Prop) (γ : List Value) (ah : List B) (H : Heap) (Q : Out → List B → Prop) (ok : Bool) (v : Value) (H' : Heap) : Prop :=
 ∃ out ah' F' γ', Q out ah' ∧ cleanA out.a = true ∧ ah'.all cleanBlk = true ∧ (match out with | .ret _ => ok = true | .pan _ => ok = false) ∧ RA F' H' ⟨L, γ'⟩ out.a v ∧ WR (en F L γ ah H) F' γ' ah' H'
def DoesD (d : Bool) (P : Program) (f : FuncId) (args : List A) (ah : List B) (Q : Out → List B → Prop) : Prop :=
 ∀ (F L : Nat → Prop) (γ : List Value) (H : Heap) (vs : List Value), RAs F H ⟨L, γ⟩ args vs → WR (en F L γ ah H) F γ ah H → CallsP d P f vs.toArray H (Behind F L γ ah H Q)
abbrev Does (P : Program) (f : FuncId) (args : List A) (ah : List B) (Q : Out → List B → Prop) : Prop := DoesD false P f args ah Q
theorem DoesD.mono {d : Bool} {P : Program} {f : FuncId} {args : List A} {ah : List B} {Q Q' : Out → List B → Prop} (h : DoesD d P f args ah Q) (hq : ∀ o b, Q o b → Q' o b) : DoesD d P f args ah Q' :=
 fun F L γ H vs h1 h2 => (h F L γ H vs h1 h2).mono fun ok v H' ⟨out, ah', F', γ', h3, h4⟩ => ⟨out, ah', F', γ', hq _ _ h3, h4⟩
theorem Does.mono {P : Program} {f : FuncId} {args : List A} {ah : List B} {Q Q' : Out → List B → Prop} (h : Does P f args ah Q) (hq : ∀ o b, Q o b → Q' o b) : Does P f args ah Q' := DoesD.mono h hq
theorem DoesD.weak {d : Bool} {P : Program} {f : FuncId} {args : List A} {ah : List B} {Q : Out → List B → Prop} (h : DoesD d P f args ah Q) : Does P f args ah Q := by
 intro F L γ H vs h1 h2 w hw
 have := h F L γ H vs h1 h2 w hw
 unfold UponP at *
 split at this
 ·exact this
 ·refine ⟨this.1, this.2.mono fun e w' h => ?_⟩
  rcases h with ⟨v, h1, h2, h3⟩ | ⟨v, h1, h2, h3⟩
  ·exact .inl ⟨v, h1, h2, h3.weak⟩
  ·exact .inr ⟨v, h1, h2, h3.weak⟩
 ·exact this.elim
def mT (f : C → C → Prop) : List (Bool × List C) → List (Bool × List C) → Prop
 | [], [] => True
 | (g0, cs0) :: ts0, (g, cs) :: ts => (g0 = g ∧ all2 f cs0 cs) ∧ mT f ts0 ts
 | _, _ => False
def mA (fr : Nat → Bool) (ah : List B) (ρ : List Rn) : A → A → Prop
 | _, .undef => True
 | .c c0, .c c => mC fr ah 5 ρ c0 c
 | .st cs0, .st cs => all2 (mC fr ah 5 ρ) cs0 cs
 | .tup ts0, .tup ts => mT (mC fr ah 5 ρ) ts0 ts
 | .off, .off => True
 | _, _ => False
def mAs (fr : Nat → Bool) (ah : List B) (ρ : List Rn) : List A → List A → Prop
 | [], [] => True
 | a0 :: as0, a :: as => mA fr ah ρ a0 a ∧ mAs fr ah ρ as0 as
 | _, _ => False
def sig (m : List Nat) (n : Nat) (j : Nat) : Nat := bif Nat.blt j m.length then m.getD j 0 else n + (j - m.length)
def setAll : List Nat → List B → List B → List B
 | j :: m, b :: bs, ah => setAll m bs (ah.set j b)
 | _, _, ah => ah
def mrg (m : List Nat) (ah ah' : List B) : List B := setAll m (ah'.map (renB (sig m ah.length))) ah ++ (ah'.drop m.length).map (renB (sig m ah.length))
theorem setAll_length : ∀ (m : List Nat) (bs ah : List B), (setAll m bs ah).length = ah.length
 | [], _, _ => rfl
 | _ :: _, [], _ => rfl
 | j :: m, b :: bs, ah => by rw [setAll, setAll_length m bs, List.length_set]
theorem setAll_get : ∀ {m : List Nat} {bs ah : List B} {i : Nat} {b : B}, m.Nodup → (setAll m bs ah)[i]? = some b → (ah[i]? = some b ∧ (i ∈ m → ∃ q, m[q]? = some i ∧ bs.length ≤ q)) ∨ ∃ q : Nat, m[q]? = some i ∧ bs[q]? = some b
 | [], bs, ah, i, b, _, h => .inl ⟨h, fun h => by cases h⟩
 | j :: m, [], ah, i, b, _, h => .inl ⟨h, fun hm => by
   obtain ⟨q, hq⟩ := List.getElem?_of_mem hm
   exact ⟨q, hq, by simp⟩⟩
 | j :: m, b' :: bs, ah, i, b, hn, h => by
  obtain ⟨h1, h2⟩ := List.nodup_cons.1 hn
  rw [setAll] at h
  rcases setAll_get h2 h with ⟨h3, h4⟩ | ⟨q, h3, h4⟩
  ·rcases get_set h3 with ⟨h5, h6⟩ | ⟨rfl, _, rfl⟩
   ·refine .inl ⟨h6, fun hm => ?_⟩
    rcases List.mem_cons.1 hm with e | hm
    ·exact (h5 e).elim
    ·obtain ⟨q, g1, g2⟩ := h4 hm
     exact ⟨q + 1, by simpa using g1, by simpa using g2⟩
   ·exact .inr ⟨0, rfl, rfl⟩
  ·exact .inr ⟨q + 1, by simpa using h3, by simpa using h4⟩
theorem sig_lt {m : List Nat} {n q j : Nat} (h : m[q]? = some j) : sig m n q = j := by
 obtain ⟨hlt, e⟩ := List.getElem?_eq_some_iff.1 h
 have : Nat.blt q m.length = true := Nat.ble_eq_true_of_le hlt
 unfold sig
 rw [this]
 simp [List.getD_eq_getElem?_getD, h]
theorem sig_ge {m : List Nat} {n q : Nat} (h : m.length ≤ q) : sig m n q = n + (q - m.length) := by
 have : Nat.blt q m.length = false := by
  cases e : Nat.blt q m.length with
  | false => rfl
  | true => have := Nat.le_of_ble_eq_true e; omega
 unfold sig
 rw [this]
 rfl
section
variable {E : En} {F F' : Nat → Prop} {γ γ' : List Value} {ah ah' tah : List B} {H H' : Heap} {fr : Nat → Bool} {m : List Nat}
def samesR (m : List Nat) : List Rn := m.map .same
theorem merge (hW : WR E F γ ah H) (hm : mBs fr ah (samesR m) (samesR m) tah) (hn : m.Nodup) (hlt : ∀ j ∈ m, j < ah.length) (hc : Core (lent E γ ah fr) (owned γ ah) F ((samesR m).map (gOf γ)) tah H)
  (hR : WR (en F (lent E γ ah fr) ((samesR m).map (gOf γ)) tah H) F' γ' ah' H') (hcl : ah'.all cleanBlk = true) :
  WR E F' (γ ++ γ'.drop m.length) (mrg m ah ah') H' ∧ Ext F H ⟨E.B, γ⟩ F' H' ⟨E.B, γ ++ γ'.drop m.length⟩ ∧ (∀ (j : Nat) (g : Value), γ'[j]? = some g → (γ ++ γ'.drop m.length)[sig m ah.length j]? = some g) ∧ (m = [] → Keep [] H H') ∧
  ∀ k, (F k ∨ E.B k ∨ ∃ j bj gj, j ∉ m ∧ ah[j]? = some bj ∧ γ[j]? = some gj ∧ k ∈ obv bj gj) → H'[k]? = H[k]? := by
 have hml : tah.length = m.length := by have := (mBs_get hm).1; simpa [samesR] using this.symm
 -- what the call owns is of m
 have hown : ∀ k, owned ((samesR m).map (gOf γ)) tah k → ∃ j bj gj, j ∈ m ∧ ah[j]? = some bj ∧ γ[j]? = some gj ∧ k ∈ obv bj gj := fun k ⟨i, b, g, hb, hg, hk⟩ => by
  obtain ⟨r, h1, h2⟩ := (mBs_get hm).2 _ _ hb
  rw [List.getElem?_map, h1] at hg
  simp at hg
  subst hg
  obtain ⟨j, bj, gj, h3, h4, h5, h6, _⟩ := mB_own hW h2 k hk
  have hmem := List.mem_of_getElem? h1
  simp only [samesR, List.mem_map] at hmem
  obtain ⟨j', hj', rfl⟩ := hmem
  simp [srcR] at h3
  subst h3
  exact ⟨j', bj, gj, hj', h4, h5, h6⟩
 have hγ : ∀ (j : Nat) (g : Value), γ'[j]? = some g → (γ ++ γ'.drop m.length)[sig m ah.length j]? = some g := fun q g hq => by
  rcases Nat.lt_or_ge q m.length with h | h
  ·have hmq : m[q]? = some m[q] := List.getElem?_eq_getElem h
   rw [sig_lt hmq]
   have hj : m[q] < γ.length := by rw [hW.len]; exact hlt _ (List.getElem_mem h)
   rw [List.getElem?_append_left hj]
   have h1 : ((samesR m).map (gOf γ))[q]? = some (γ[m[q]]) := by
    simp [samesR, hmq, gOf, List.getElem?_eq_getElem hj]
   have h2 := hR.pre q _ h1
   rw [h2] at hq
   rw [List.getElem?_eq_getElem hj]
   exact hq
  ·rw [sig_ge h, List.getElem?_append_right (by rw [hW.len]; omega), List.getElem?_drop, hW.len]
   rw [show m.length + (ah.length + (q - m.length) - ah.length) = q by omega]
   exact hq
 have hlen' : m.length ≤ ah'.length := by
  rw [← hR.len]
  rcases Nat.eq_zero_or_pos m.length with h | h
  ·omega
  ·have h1 : ((samesR m).map (gOf γ))[m.length - 1]? = some (((samesR m).map (gOf γ))[m.length - 1]'(by simp [samesR]; omega)) := List.getElem?_eq_getElem _
   have := (List.getElem?_eq_some_iff.1 (hR.pre _ _ h1)).1
   omega
 have get : ∀ {i : Nat} {b : B} {g : Value}, (mrg m ah ah')[i]? = some b → (γ ++ γ'.drop m.length)[i]? = some g → (i ∉ m ∧ ah[i]? = some b ∧ γ[i]? = some g) ∨ ∃ q b', ah'[q]? = some b' ∧ γ'[q]? = some g ∧ sig m ah.length q = i ∧ b = renB (sig m ah.length) b' := fun {i b g} hb hg => by
  unfold mrg at hb
  rcases Nat.lt_or_ge i ah.length with h | h
  ·rw [List.getElem?_append_left (by rw [setAll_length]; exact h)] at hb
   rw [List.getElem?_append_left (by rw [hW.len]; exact h)] at hg
   rcases setAll_get hn hb with ⟨h1, h2⟩ | ⟨q, h1, h2⟩
   ·refine .inl ⟨fun hm => ?_, h1, hg⟩
    obtain ⟨q, h3, h4⟩ := h2 hm
    rw [List.length_map] at h4
    have := (List.getElem?_eq_some_iff.1 h3).1
    omega
   ·rw [List.getElem?_map] at h2
    obtain ⟨b', h3, h4⟩ := Option.map_eq_some_iff.1 h2
    refine .inr ⟨q, b', h3, ?_, sig_lt h1, h4.symm⟩
    have hq := (List.getElem?_eq_some_iff.1 h3).1
    have h5 : γ'[q]? = some (γ'[q]'(by rw [hR.len]; exact hq)) := List.getElem?_eq_getElem _
    have h6 := hγ q _ h5
    rw [sig_lt h1, List.getElem?_append_left (by rw [hW.len]; exact h)] at h6
    rw [h5]
    rw [hg] at h6
    exact h6.symm
  ·rw [List.getElem?_append_right (by rw [setAll_length]; exact h), setAll_length, List.getElem?_map, List.getElem?_drop] at hb
   rw [List.getElem?_append_right (by rw [hW.len]; exact h), List.getElem?_drop, hW.len] at hg
   obtain ⟨b', h3, h4⟩ := Option.map_eq_some_iff.1 hb
   exact .inr ⟨m.length + (i - ah.length), b', h3, hg, by rw [sig_ge (by omega)]; omega, h4.symm⟩
 have keepF : ∀ k, F k ∨ E.B k → H'[k]? = H[k]? := fun k hk => by
  refine hR.keep k ?_ (fun ho => ?_)
  ·exact hk.elim (hW.fb k) (fun h => Nat.lt_of_lt_of_le (hW.bb k h).1 hW.size)
  ·obtain ⟨j, bj, gj, _, h2, h3, h4⟩ := hown k ho
   have := hW.nf j bj gj k h2 h3 h4
   exact hk.elim this.1 this.2
 have ex : Ext F H ⟨E.B, γ⟩ F' H' ⟨E.B, γ ++ γ'.drop m.length⟩ := ⟨hR.fmono, fun b o u hb hc => cell_of_get (keepF b hb) hc, fun _ h => h, fun j v hj => by
  rw [List.getElem?_append_left (List.getElem?_eq_some_iff.1 hj).1]; exact hj⟩
 have old : ∀ {i b g}, i ∉ m → ah[i]? = some b → γ[i]? = some g → ∀ k ∈ obv b g, ¬ owned ((samesR m).map (gOf γ)) tah k ∧ H'[k]? = H[k]? := fun hi hb hg k hk => by
  have hno : ¬ owned ((samesR m).map (gOf γ)) tah k := fun ho => by
   obtain ⟨j, bj, gj, h1, h2, h3, h4⟩ := hown k ho
   exact hW.disj _ _ _ _ _ _ (fun e => hi (by subst e; exact h1)) hb hg h2 h3 k hk h4
  exact ⟨hno, hR.keep k (obv_lt (hW.br _ _ _ hb hg) k hk) hno⟩
 have own' : ∀ {q b g k}, ah'[q]? = some b → γ'[q]? = some g → k ∈ obv b g → (∃ j bj gj, j ∈ m ∧ ah[j]? = some bj ∧ γ[j]? = some gj ∧ k ∈ obv bj gj) ∨ H.size ≤ k := fun hb hg hk => by
  rcases hR.onew _ _ _ _ hb hg hk with h | h
  ·exact .inl (hown _ h)
  ·exact .inr h
 refine ⟨⟨?_, fun i b g hb hg => ?_, fun i i' b b' g g' hne hb hg hb' hg' k hk hk' => ?_, fun i b g k hb hg hk => ?_, hR.fb, hW.bb, Nat.le_trans hW.size hR.size, fun k hk ho => ?_, fun k hk => hR.fmono k (hW.fmono k hk), fun k hk => ?_, fun i b g k hb hg hk => ?_, fun j v hj => ex.g j v (hW.pre j v hj)⟩, ex, hγ, fun hm0 => ⟨hR.size, fun k hk _ => hR.keep k hk (fun ho => ?_)⟩, fun k hk => hk.elim (fun h => keepF k (.inl h)) fun h => h.elim (fun h => keepF k (.inr h)) fun ⟨j, bj, gj, h1, h2, h3, h4⟩ => (old h1 h2 h3 k h4).2⟩
 ·unfold mrg
  simp [setAll_length, hW.len, hR.len]
 ·rcases get hb hg with ⟨h1, h2, h3⟩ | ⟨q, b', h1, h2, h3, rfl⟩
  ·exact BR.ext ex (fun k hk => (old h1 h2 h3 k hk).2) (hW.br _ _ _ h2 h3)
  ·exact renB_sound hγ (hR.br _ _ _ h1 h2) (List.all_eq_true.1 hcl _ (List.mem_of_getElem? h1))
 ·rcases get hb hg with ⟨h1, h2, h3⟩ | ⟨q, b1, h1, h2, h3, rfl⟩
  ·rcases get hb' hg' with ⟨h1', h2', h3'⟩ | ⟨q', b1', h1', h2', h3', rfl⟩
   ·exact hW.disj _ _ _ _ _ _ hne h2 h3 h2' h3' k hk hk'
   ·rw [obv_ren] at hk'
    have h4 := obv_lt (hW.br _ _ _ h2 h3) k hk
    rcases own' h1' h2' hk' with ⟨j, bj, gj, g1, g2, g3, g4⟩ | h
    ·exact hW.disj _ _ _ _ _ _ (fun e => h1 (by subst e; exact g1)) h2 h3 g2 g3 k hk g4
    ·omega
  ·rw [obv_ren] at hk
   rcases get hb' hg' with ⟨h1', h2', h3'⟩ | ⟨q', b1', h1', h2', h3', rfl⟩
   ·have h4 := obv_lt (hW.br _ _ _ h2' h3') k hk'
    rcases own' h1 h2 hk with ⟨j, bj, gj, g1, g2, g3, g4⟩ | h
    ·exact hW.disj _ _ _ _ _ _ (fun e => h1' (by subst e; exact g1)) h2' h3' g2 g3 k hk' g4
    ·omega
   ·rw [obv_ren] at hk'
    exact hR.disj _ _ _ _ _ _ (fun e => hne (by rw [← h3, ← h3', e])) h1 h2 h1' h2' k hk hk'
 ·rcases get hb hg with ⟨h1, h2, h3⟩ | ⟨q, b', h1, h2, h3, rfl⟩
  ·have h4 := hW.nf _ _ _ k h2 h3 hk
   refine ⟨fun hf => ?_, h4.2⟩
   rcases hR.fnew k hf with h | h | h
   ·exact h4.1 h
   ·exact (old h1 h2 h3 k hk).1 h
   ·have : k < H.size := obv_lt (hW.br _ _ _ h2 h3) k hk
    have : H.size ≤ k := h
    omega
  ·rw [obv_ren] at hk
   have h4 := hR.nf _ _ _ k h1 h2 hk
   exact ⟨h4.1, fun h => h4.2 (.inl h)⟩
 ·have h1 : k < H.size := Nat.lt_of_lt_of_le hk hW.size
  rw [hR.keep k h1 (fun h => ?_)]
  ·exact hW.keep k hk ho
  ·obtain ⟨j, bj, gj, _, g2, g3, g4⟩ := hown k h
   rcases hW.onew _ _ _ k g2 g3 g4 with h5 | h5
   ·exact ho h5
   ·omega
 ·rcases hR.fnew k hk with h | h | h
  ·exact hW.fnew k h
  ·obtain ⟨j, bj, gj, _, g2, g3, g4⟩ := hown k h
   exact .inr (hW.onew _ _ _ k g2 g3 g4)
  ·exact .inr (.inr (Nat.le_trans hW.size h))
 ·rcases get hb hg with ⟨h1, h2, h3⟩ | ⟨q, b', h1, h2, h3, rfl⟩
  ·exact hW.onew _ _ _ k h2 h3 hk
  ·rw [obv_ren] at hk
   rcases own' h1 h2 hk with ⟨j, bj, gj, g1, g2, g3, g4⟩ | h
   ·exact hW.onew _ _ _ k g2 g3 g4
   ·exact .inr (Nat.le_trans hW.size h)
 ·subst hm0
  obtain ⟨j, _, _, h, _⟩ := hown k ho
  cases h
end
end Go.AM
